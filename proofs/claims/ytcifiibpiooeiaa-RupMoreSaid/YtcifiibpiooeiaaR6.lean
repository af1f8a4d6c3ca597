import Derived.Test.YtcifiibpiooeiaaR5
import Derived.Test.YtcifiibpiooeiaaRP5
namespace Go.Proofs.Ytcifiibpiooeiaa
set_option linter.unusedVariables false
open Go.RowKit Go.Sort

/-- what run hands back -/
def RunR (base b : Nat) (w : World) (S0 : St) (A : Int → Prop) (e : Ending) (w' : World) : Prop :=
  ∃ f S V, e = .returned (.bool f) ∧ Ck base b w' S V ∧ Below base w w' ∧ V .kept = .slice none 0 0 ∧ S.kept = [] ∧ RI (ClsOf S0) A S0 S S.wt ∧ (f = true ↔ Fails (ClsOf S0) A)
/-- the head in memory -/
def hdOf (w : World) (b : Nat) : Nat := match w.cell? ⟨b, 6, none⟩ with
  | some v => (intOf v).toNat
  | none => 0
structure LoopB (base b : Nat) (w : World) (A : Int → Prop) (S0 S : St) (V1 : Key → Value) (wr : World) : Prop where
  ck : Ck base b wr S V1
  bel : Below base w wr
  keep : V1 .kept = .slice none 0 0
  o : OuterI (ClsOf S0) A S0 S
structure LoopC (base b : Nat) (w : World) (A : Int → Prop) (S0 : St) (lit : Int) (s : Nat) (L : List Int) (hd : Nat) (lv : Value) (i : Nat) (S : St) (V1 : Key → Value) (wr : World) : Prop where
  ck : Ck base b wr S V1
  bel : Below base w wr
  inn : InnerI (ClsOf S0) A S0 lit L hd i S
  lv : V1 (.w s) = lv
  sl : slotN lit = s
theorem LoopC.drewN {base b : Nat} {w : World} {A : Int → Prop} {S0 : St} {lit : Int} {s : Nat} {L : List Int} {hd : Nat} {lv : Value} {i : Nat} {S : St} {V1 : Key → Value} {wr : World} (h : LoopC base b w A S0 lit s L hd lv i S V1 wr) (n : Nat) : LoopC base b w A S0 lit s L hd lv i S V1 (wr.drewN n) :=
  ⟨h.ck.below (below_drewN n), h.bel.trans (below_drewN n), h.inn, h.lv, h.sl⟩
theorem Ck.hd {base b : Nat} {w : World} {S : St} {V : Key → Value} (h : Ck base b w S V) : hdOf w b = S.head := by
  unfold hdOf
  rw [h.cell (i := 6) rfl]
  simp [intOf]
structure LoopA (base b : Nat) (w : World) (A : Int → Prop) (S0 : St) (V : Key → Value) (i : Nat) (S : St) (V1 : Key → Value) (wr : World) : Prop where
  ck : Ck base b wr S V1
  bel : Below base w wr
  keep : ∀ k, k ≠ .tr → V1 k = V k
  ri : RI (ClsOf S0) A S0 S S.wt
  sh : Sh S i
  hd : S.head = 0
  kp : S.kept = []
theorem Ck.form {base b : Nat} {w : World} {S : St} {V : Key → Value} (h : Ck base b w S V) (k : Key) : ∃ p c, V k = .slice p (Rof S V k).2.length c := by
  obtain ⟨p, c, e⟩ := ownsRow_form (h.mem.own k)
  refine ⟨p, c, ?_⟩
  have : (Rof S V k).1 = V k := by cases k <;> rfl
  rw [← this]; exact e
theorem Ck.shc {base b : Nat} {w : World} {S : St} {V : Key → Value} (h : Ck base b w S V) {i : Nat} (hi : i < S.short.length) : ∃ g c, V .sh = .slice (some ⟨g, 0, none⟩) S.short.length c ∧ w.cell? ⟨g, i, none⟩ = some (.int .i64 (S.short.getD i 0)) := by
  obtain ⟨g, c, e, hc, _⟩ := h.mem.at .sh (i := i) (u := .int .i64 (S.short.getD i 0)) (ints_at _ _ hi)
  have hl : (Rof S V .sh).2.length = S.short.length := ints_len _
  rw [hl] at e
  exact ⟨g, c, e, hc⟩

set_option maxRecDepth 100000 in
set_option maxHeartbeats 8000000 in
theorem run_any {base b : Nat} {w : World} {S0 : St} {V : Key → Value} {A : Int → Prop} (h : Ck base b w S0 V) (hk : S0.kept = []) (hVk : V .kept = .slice none 0 0) (hw : Wf S0 S0.wt) (h0 : S0.head = 0) (hsnd : Snd (ClsOf S0) A S0) (hA : ∀ x, A x → x ∈ S0.trail)
    (hv : S0.v ≤ 400000) (hm : S0.m ≤ 1000000) (hlen : ∀ i, (S0.cl i).length ≤ 1000000) (hsh : S0.short.length ≤ 1000000) :
    Calls Try.prog 58 #[.pointer (some ⟨b, 0, none⟩)] w (RunR base b w S0 A) := by
  have hA0 : LoopA base b w A S0 V 0 S0 V w := ⟨h, Below.refl _ _, fun _ _ => rfl, ⟨hw, hsnd, fun _ _ => Iff.rfl, fun _ => rfl, ⟨rfl, rfl, rfl⟩, fun _ h => h⟩, fun j hj => absurd hj (by omega), h0, hk⟩
  obtain ⟨psh, csh, hVs⟩ := h.form .sh
  have hnl : (Rof S0 V .sh).2.length = S0.short.length := ints_len _
  rw [hnl] at hVs
  have c2 := h.cell (i := 2) rfl
  rw [hVs] at c2
  obtain ⟨N, hN⟩ : ∃ n, S0.short.length = n := ⟨_, rfl⟩
  rw [hN] at c2 hVs hsh
  have HA0 := Lib.hid hA0
  have HB := Lib.hid (And.intro hVs (And.intro hN (And.intro hv (And.intro hm (And.intro hlen (And.intro hA hVk))))))
  have hNi : (N : Int) ≤ 1000000 := by omega
  clear h hk hVk hw h0 hsnd hA hv hm hlen hnl hVs hN hA0
  go_enter Try.func58, Try.ntmps58
  go_wp2_with fail
  go_loopw [18] (fun iv wr => ∃ i S V1, i ≤ N ∧ iv = .int .i64 i ∧ LoopA base b w A S0 V i S V1 wr) (fun iv _ => N - (intOf iv).toNat)
  case atStart => exact ⟨0, S0, V, Nat.zero_le _, rfl, HA0.out⟩
  case round =>
    obtain ⟨i, S, V1, hiN, rfl, hL⟩ := hrel
    by_cases hlt : i < N
    · have hki : i < S.short.length := by rw [hL.ri.fix.2.2, HB.out.2.1]; exact hlt
      obtain ⟨j, hj, hjm, hcase⟩ := hL.ri.short (fun l h => h) hki hL.sh
      obtain ⟨gs, cs, hVs1, hcs⟩ := hL.ck.shc hki
      have hSN : S.short.length = N := by rw [hL.ri.fix.2.2, HB.out.2.1]
      rw [hL.keep .sh (by simp), HB.out.1, hSN] at hVs1
      cases hVs1
      rw [hj] at hcs
      obtain ⟨gc, cc, hVc, hca⟩ := hL.ck.clc hjm
      have c1 := hL.ck.cell (i := 1) rfl
      rw [hVc] at c1
      obtain ⟨M, hM⟩ : ∃ M, S.m = M := ⟨_, rfl⟩
      obtain ⟨pc, ccap, hVcj⟩ := hL.ck.form (.c j)
      have hcl : (Rof S V1 (.c j)).2.length = (S.cl j).length := ints_len _
      rw [hcl] at hVcj
      rw [hVcj] at hca
      have hM6 : M ≤ 1000000 := by rw [← hM, hL.ri.fix.2.1]; exact HB.out.2.2.2.1
      rw [hM] at c1 hjm
      have hii : (i : Int) < N := by omega
      have hjM : (j : Int) < M := by omega
      have hj0 : (0 : Int) ≤ j := by omega
      have hi0 : (0 : Int) ≤ i := by omega
      have hiw : IntKind.i64.wrap ((i : Int) + 1) = (i : Int) + 1 := i64_of (by omega)
      have HLP := Lib.hid hL
      have HV := Lib.hid (And.intro hVcj hM)
      rcases hcase with ⟨hl0, hf⟩ | ⟨hl1, hx0, hxv, hri, hbad, hgood⟩
      · rw [hl0] at hca
        have HF := Lib.hid hf
        clear hL hVcj hM hVc hcl hl0 hf hki hj hSN
        go_wp2_with fail
        go_ret
        exact ⟨true, S, V1, rfl, HLP.out.ck, HLP.out.bel, by rw [HLP.out.keep .kept (by simp)]; exact HB.out.2.2.2.2.2.2, HLP.out.kp, HLP.out.ri, fun _ => HF.out, fun _ => rfl⟩
      · obtain ⟨g, cap, hVa, _, _, hcells⟩ := hL.ck.cc (a := j) (i := 0) (by omega)
        rw [hVcj] at hVa
        cases hVa
        have hcx := (hcells 0 (by omega)).1
        obtain ⟨x, hx⟩ : ∃ x, (S.cl j).getD 0 0 = x := ⟨_, rfl⟩
        rw [hx] at hcx hx0 hxv hri hbad hgood
        rw [hl1] at hca
        have htl := hL.ri.wf.vals.tlen
        have hv1 := hL.ri.fix.1
        have hv0 := HB.out.2.2.1
        have ha := assume_any hL.ck (x := x) (tr := S.trail) hL.ri.wf.vals hx0 hxv (by omega) (by omega)
        obtain ⟨q, hq⟩ : ∃ q, (assumeS S x).2 = q := ⟨_, rfl⟩
        have hwt : (assumeS S x).1.wt = S.wt := by rw [assumeS_eq]
        have hhd : (assumeS S x).1.head = 0 := by rw [assumeS_eq]; exact hL.hd
        have hkp : (assumeS S x).1.kept = [] := by rw [assumeS_eq]; exact hL.kp
        obtain ⟨S1, hS1⟩ : ∃ S1, (assumeS S x).1 = S1 := ⟨_, rfl⟩
        rw [hS1] at hri hgood hwt hhd hkp ha
        rw [hq] at hbad hgood ha
        rw [← hwt] at hri
        have HA := Lib.hid ha
        have HQ := Lib.hid (And.intro hri (And.intro hbad (And.intro hgood (And.intro hhd hkp))))
        clear hL hVcj hM hVc hcl hl1 hki hj hSN hcells hx hx0 hxv hri hbad hgood htl hv1 hv0 ha hq hwt hhd hkp hS1
        go_wp2_with fail
        refine HA.out.mono ?_
        rintro e w2 ⟨rfl, V2, hk2, hb2, hv2⟩
        have HR := Lib.hid (And.intro hk2 (And.intro (HLP.out.bel.trans hb2) hv2))
        clear hk2 hb2 hv2
        cases q with
        | false =>
          go_wp2_with fail
          go_ret
          exact ⟨true, S1, V2, rfl, HR.out.1, HR.out.2.1, by rw [HR.out.2.2 .kept (by simp), HLP.out.keep .kept (by simp)]; exact HB.out.2.2.2.2.2.2, HQ.out.2.2.2.2, HQ.out.1, fun _ => HQ.out.2.1 trivial, fun _ => rfl⟩
        | true =>
          go_wp2_with fail
          go_roundw
          case rel => exact ⟨i + 1, S1, V2, by omega, by go_num, HR.out.1, HR.out.2.1, fun k hk => (HR.out.2.2 k hk).trans (HLP.out.keep k hk), HQ.out.1, HQ.out.2.2.1 trivial, HQ.out.2.2.2.1, HQ.out.2.2.2.2⟩
          case measure => simp [intOf]; omega
    · have hii : decide (i < N) = false := decide_eq_false hlt
      have hLB : LoopB base b w A S0 S V1 wr := ⟨hL.ck, hL.bel, by rw [hL.keep .kept (by simp)]; exact HB.out.2.2.2.2.2.2, hL.ri, fun i hi hl j hj => by rw [hL.hd] at hj; simp at hj, Sh.all (by rw [hL.ri.fix.2.2, HB.out.2.1]; rw [show N = i by omega]; exact hL.sh) hL.ri.wf, by rw [hL.hd]; exact Nat.zero_le _, hL.kp⟩
      have HLB := Lib.hid hLB
      clear hL hLB hlt hiN
      go_wp2_with fail
      go_loopw [] (fun wr => ∃ S V1, LoopB base b w A S0 S V1 wr) (fun wr => 2 * S0.v + 3 - hdOf wr b)
      case atStart => exact ⟨S, V1, HLB.out⟩
      case round =>
        clear HLB
        obtain ⟨S, V1, hL⟩ := hrel
        have c6 := hL.ck.cell (i := 6) rfl
        have c5 := hL.ck.cell (i := 5) rfl
        obtain ⟨pt, ct, hVt⟩ := hL.ck.form .tr
        have hcl : (Rof S V1 .tr).2.length = S.trail.length := ints_len _
        rw [hcl] at hVt
        rw [hVt] at c5
        obtain ⟨T, hT⟩ : ∃ T, S.trail.length = T := ⟨_, rfl⟩
        rw [hT] at c5 hVt
        obtain ⟨hd, hhd⟩ : ∃ n, S.head = n := ⟨_, rfl⟩
        rw [hhd] at c6
        have HL := Lib.hid (And.intro hL (And.intro hVt (And.intro hT hhd)))
        clear hL hVt hT hhd hcl
        by_cases hlt : hd < T
        · have hii : (hd : Int) < T := by omega
          have hd0 : (0 : Int) ≤ hd := by omega
          have hiN : decide (hd < T) = true := decide_eq_true hlt
          obtain ⟨gt, ct', hVt', hct, _⟩ := HL.out.1.ck.mem.at .tr (i := hd) (u := .int .i64 (S.trail.getD hd 0)) (ints_at _ _ (by rw [HL.out.2.2.1]; exact hlt))
          have hcl : (Rof S V1 .tr).2.length = T := (ints_len _).trans HL.out.2.2.1
          rw [hcl] at hVt'
          have hVt2 := HL.out.2.1.symm.trans hVt'
          cases hVt2
          obtain ⟨y, hy⟩ : ∃ y, S.trail.getD hd 0 = y := ⟨_, rfl⟩
          rw [hy] at hct
          have hyv := HL.out.1.o.ri.wf.vals.lits y (by rw [← hy]; exact getD_mem (by rw [HL.out.2.2.1]; exact hlt))
          have hv1 := HL.out.1.o.ri.fix.1
          have hv0 := HB.out.2.2.1
          obtain ⟨lit, hlit⟩ : ∃ x, x = -y := ⟨_, rfl⟩
          have hyw : IntKind.i64.wrap (-y) = lit := (i64_of (by omega)).trans hlit.symm
          have HY := Lib.hid (And.intro hy (And.intro hyv hlit))
          have hslv : slotN lit < 2 * S.v + 3 := slotN_lt (by omega)
          have HSl := Lib.hid (fun W => rslot_any lit (by omega) W)
          have hinn := HL.out.1.o.inner (by rw [HL.out.2.2.1, HL.out.2.2.2]; exact hlt)
          rw [HL.out.2.2.2, hy, ← hlit] at hinn
          obtain ⟨s, hs⟩ : ∃ s, slotN lit = s := ⟨_, rfl⟩
          rw [hs] at hslv HSl
          obtain ⟨gw, cw, hVw, hcw, _⟩ := HL.out.1.ck.wtc hslv
          have c3 := HL.out.1.ck.cell (i := 3) rfl
          rw [hVw] at c3
          obtain ⟨pl, cl, hVl⟩ := HL.out.1.ck.form (.w s)
          have hnl : (Rof S V1 (.w s)).2.length = (S.wt s).length := ints_len _
          rw [hnl] at hVl
          obtain ⟨L, hL⟩ : ∃ L, S.wt s = L := ⟨_, rfl⟩
          obtain ⟨nl, hnL⟩ : ∃ n, L.length = n := ⟨_, rfl⟩
          rw [hL, hnL] at hVl
          rw [hVl] at hcw
          rw [hs, hL] at hinn
          obtain ⟨NW, hNW⟩ : ∃ n, 2 * S.v + 3 = n := ⟨_, rfl⟩
          rw [hNW] at c3 hslv
          have hnl6 : nl ≤ 1000000 := by
            have := HL.out.1.o.ri.wf.wlen s
            have h2 := HL.out.1.o.ri.fix.2.1
            have h3 := HB.out.2.2.2.1
            rw [hL, hnL] at this
            omega
          have hsi : (s : Int) < NW := by omega
          have hs0 : (0 : Int) ≤ s := by omega
          have hnli : (nl : Int) ≤ 1000000 := by omega
          have HC0 : Hid (LoopC base b w A S0 lit s L hd (.slice pl nl cl) 0 S V1 wr) := Lib.hid ⟨HL.out.1.ck, HL.out.1.bel, hinn, hVl, hs⟩
          have HY := Lib.hid (And.intro hnL (HL.out.1.keep))
          have HS := Lib.hid hs
          have Hhd : Hid (hdOf wr b = hd) := Lib.hid (HL.out.1.ck.hd.trans HL.out.2.2.2)
          have HK : Hid (s < NW ∧ 2 * S0.v + 3 = NW) := Lib.hid ⟨hslv, by rw [← hNW, hv1]⟩
          clear hy hyv hlit hv1 hv0 hVt' hcl hVl hL hnL hNW hslv hinn hnl hs hVw HL
          go_wp2_with fail
          go_quiet (fail)
          go_wp2_with fail
          go_quiet (fail)
          go_wp2_with fail
          go_quiet (go_must (exact (HSl.out _).mono fun e w' ⟨he, hw⟩ => ⟨he, _, hw.symm⟩))
          go_wp2_with fail
          go_loopw [79, 8] (fun iv kv wr => ∃ i S V1, i ≤ nl ∧ iv = .int .i64 i ∧ kv = V1 .kept ∧ LoopC base b w A S0 lit s L hd (.slice pl nl cl) i S V1 wr) (fun iv _ _ => nl - (intOf iv).toNat)
          case atStart => exact ⟨0, S, V1, Nat.zero_le _, rfl, HY.out.2.symm, HC0.out.drewN _⟩
          case round =>
            clear c6 c5 hct c3 hcw HC0
            obtain ⟨i, S, V1, hin, rfl, rfl, hC⟩ := hrel
            have HC := Lib.hid hC
            by_cases hlt : i < nl
            · have hlt2 : i < L.length := by rw [HY.out.1]; exact hlt
              obtain ⟨a, ha, ham, ha2⟩ := hC.inn.at hlt2
              have hv0 := HB.out.2.2.1
              have hv1 := hC.inn.ri.fix.1
              have hm0 := HB.out.2.2.2.1
              have hm1 := hC.inn.ri.fix.2.1
              have htl := hC.inn.ri.wf.vals.tlen
              have hvis := visit_any (a := a) lit hC.ck hC.inn.ri.wf.vals ham ha2 (hC.inn.ri.wf.lits a ham).1 (by omega) (by omega) (by rw [hC.inn.ri.len]; exact HB.out.2.2.2.2.1 a) (hC.inn.wtlen (by rw [HY.out.1]; omega) (by omega)) (by omega)
              have hVis := Lib.hid hvis
              obtain ⟨gl, c', hVl, hcl, _⟩ := hC.ck.mem.at (.w s) (i := i) (u := .int .i64 (L.getD i 0)) (by
                show (ints (S.wt s))[i]? = _
                have e : S.wt s = L := by rw [← hC.sl]; exact hC.inn.L
                rw [e]; exact ints_at _ _ hlt2)
              have hln : (Rof S V1 (.w s)).2.length = nl := by
                have e : S.wt s = L := by rw [← hC.sl]; exact hC.inn.L
                exact (ints_len _).trans (by rw [e]; exact HY.out.1)
              rw [hln] at hVl
              have hV2 := hVl.symm.trans hC.lv
              cases hV2
              rw [ha] at hcl
              have hkl := hC.inn.klen
              have HA := Lib.hid (And.intro ha (And.intro ham ha2))
              have hii : (i : Int) < nl := by omega
              have hid : decide (i < nl) = true := decide_eq_true hlt
              have hi0 : (0 : Int) ≤ i := by omega
              have hiw : IntKind.i64.wrap ((i : Int) + 1) = (i : Int) + 1 := i64_of (by omega)
              clear hC hvis ha ham ha2 hv0 hv1 hm0 hm1 htl hlt2 hVl hln
              go_wp2_with fail
              refine hVis.out.mono ?_
              rintro e w2 ⟨S', moved, fails, rfl, hp, V2, hk2, hb2, hkv⟩
              obtain ⟨hkp, hv', hwtL, hri, hbad, hgood⟩ := HC.out.inn.visit (fun l h => h) (by rw [HY.out.1]; exact hlt) HA.out.1 hp
              have hkk : V2 .kept = V1 .kept := hkv .kept (by simp) (fun s h => by simp at h)
              have hkw : V2 (.w s) = V1 (.w s) := hkv (.w s) (by simp) (fun s' h => by cases h; rw [← HC.out.sl, hwtL, HC.out.inn.L])
              have HV := Lib.hid (And.intro hk2 (And.intro (HC.out.bel.trans hb2) (And.intro hkk (And.intro hkw (And.intro hkp (And.intro (hv'.trans HC.out.inn.ri.fix.1) (And.intro hwtL (And.intro hri (And.intro hbad hgood)))))))))
              have hmf : moved = true → fails = false := fun h => by
                rcases hp with ⟨_, h2, _⟩ | ⟨h1, _⟩
                · exact h2
                · rw [h1] at h; cases h
              clear hp hk2 hb2 hkv hkp hv' hwtL hri hbad hgood hkk hkw
              cases moved with
              | true =>
                obtain rfl := hmf rfl
                go_wp2_with fail
                go_roundw
                case rel => exact ⟨i + 1, S', V2, by omega, by go_num, HV.out.2.2.1.symm, HV.out.1, HV.out.2.1, by
                  have := HV.out.2.2.2.2.2.2.2.2.2 trivial
                  have e : setkept S' S.kept = S' := by rw [← HV.out.2.2.2.2.1]; rfl
                  simp only [if_true, e] at this
                  exact this, HV.out.2.2.2.1.trans HC.out.lv, HC.out.sl⟩
                case measure => simp [intOf]; omega
              | false =>
                clear hmf
                go_upto_region 18 with fail
                have hbn := Below.new w2 (.cells #[.int .i64 a] 3)
                have hck1 := HV.out.1.below hbn
                have hown : w2.ownsRow base 3 1 (V2 .kept) (ints S'.kept).length (ints S'.kept) := HV.out.1.mem.own .kept
                obtain ⟨nk, hnk⟩ : ∃ n, (ints S'.kept).length = n := ⟨_, rfl⟩
                rw [hnk, HV.out.2.2.1] at hown
                have hnk6 : nk ≤ 1000000 := by
                  have h1 := HC.out.inn.klen
                  have h2 := HC.out.inn.ri.fix.2.1
                  have h3 := HB.out.2.2.2.1
                  have h4 : (ints S'.kept).length = S.kept.length := by rw [ints_len, HV.out.2.2.2.2.1]
                  omega
                have hs1 := hown.alloc (.cells #[.int .i64 a] 3)
                have hr1 : RO (w2.alloc (.cells #[.int .i64 (a : Int)] 3)) (.slice (some ⟨w2.heap.size, 0, none⟩) 1 1) 1 1 [.int .i64 (a : Int)] := ro_one _ _
                have hsz : base ≤ (w2.alloc (.cells #[.int .i64 (a : Int)] 3)).heap.size := hck1.base_le
                have HP := Lib.hid (And.intro hs1 (And.intro hr1 (And.intro hck1 (HV.out.2.1.alloc HV.out.1.base_le (.cells #[.int .i64 (a : Int)] 3)))))
                clear hbn hck1 hs1 hr1 hown hnk
                cases fails with
                | false =>
                  go_wp2_with (at_builtin; refine wpList_appR rfl _ _ 23 rfl TInts base (V1 .kept) nk (ints S'.kept) rfl HP.out.1 _ 1 _ rfl HP.out.2.1 (by simp [Value.oneCell']) (by omega) (by omega) hsz ?_; intro v8 w8 happ; rw [← ints_snoc, ← HV.out.2.2.1] at happ; have hk8 := HP.out.2.2.1.appk happ; have hbl8 := happ.below HP.out.2.2.2 hsz (fun j hj => (HP.out.2.2.1.mem.lts .kept j hj).1); have H8 := Lib.hid (And.intro hk8 hbl8); clear happ hk8 hbl8)
                  go_roundw
                  case rel => exact ⟨i + 1, _, _, by omega, by go_num, by simp [updV], H8.out.1, H8.out.2, by
                    have := HV.out.2.2.2.2.2.2.2.2.2 rfl
                    simp only [Bool.false_eq_true, if_false] at this
                    rw [← HV.out.2.2.2.2.1] at this
                    exact this, (show updV V2 .kept v8 (.w s) = V2 (.w s) from rfl).trans (HV.out.2.2.2.1.trans HC.out.lv), HC.out.sl⟩
                  case measure => simp [intOf]; omega
                | true =>
                  go_wp2_with (at_builtin; refine wpList_appR rfl _ _ 23 rfl TInts base (V1 .kept) nk (ints S'.kept) rfl HP.out.1 _ 1 _ rfl HP.out.2.1 (by simp [Value.oneCell']) (by omega) (by omega) hsz ?_; intro v8 w8 happ; rw [← ints_snoc, ← HV.out.2.2.1] at happ; have hk8 := HP.out.2.2.1.appk happ; have hbl8 := happ.below HP.out.2.2.2 hsz (fun j hj => (HP.out.2.2.1.mem.lts .kept j hj).1); have H8 := Lib.hid (And.intro hk8 hbl8); clear happ hk8 hbl8)
                  obtain ⟨l, hl⟩ : ∃ l, S'.kept ++ [(a : Int)] = l := ⟨_, rfl⟩
                  obtain ⟨S8, hS8⟩ : ∃ Z, ({ S' with kept := S'.kept ++ [(a : Int)] } : St) = Z := ⟨_, rfl⟩
                  obtain ⟨V8, hV8⟩ : ∃ Z, updV V2 .kept v8 = Z := ⟨_, rfl⟩
                  have hkd := H8.out.1.drew
                  have hbd := H8.out.2.drew
                  have hkep : V8 .kept = v8 := by rw [← hV8]; simp [updV]
                  have hkw : V8 (.w s) = .slice (some ⟨gl, 0, none⟩) nl cl := by rw [← hV8]; exact (show updV V2 .kept v8 (.w s) = V2 (.w s) from rfl).trans (HV.out.2.2.2.1.trans HC.out.lv)
                  have hwL : S8.wt s = L := by rw [← hS8, ← HC.out.sl]; exact HV.out.2.2.2.2.2.2.1
                  have hkl8 : S8.kept = l := by rw [← hS8]; exact hl
                  rw [hS8, hV8] at hkd
                  have hNW8 : 2 * S8.v + 3 = NW := by
                    have h1 := HK.out.2
                    have h2 : S8.v = S0.v := by rw [← hS8]; exact HV.out.2.2.2.2.2.2.2.1.fix.1
                    rw [h2]; exact h1
                  obtain ⟨gw, cw, hVw, hcw, _, _, hgwb⟩ := hkd.wtc (s := s) (by rw [hNW8]; exact HK.out.1)
                  rw [hNW8] at hVw
                  have c3 := hkd.cell (i := 3) rfl
                  rw [hVw] at c3
                  have hown := hkd.mem.own .kept
                  have hown2 : w8.drew.ownsRow base 3 1 v8 (ints l).length (ints l) := by
                    have h2 : w8.drew.ownsRow base 3 1 (V8 .kept) (ints S8.kept).length (ints S8.kept) := hown
                    rw [hkep, hkl8] at h2; exact h2
                  have hlist : w8.drew.ownsRow base 3 1 (V8 (.w s)) (ints (S8.wt s)).length (ints (S8.wt s)) := hkd.mem.own (.w s)
                  rw [hkw, hwL] at hlist
                  have hll : (ints L).length = nl := (ints_len _).trans HY.out.1
                  rw [hll] at hlist
                  have hro := RO.own hlist
                  have hnl1 : nl ≤ cl := by rcases own_form hlist with ⟨_, _, e, h, _⟩; cases e; exact h
                  obtain ⟨nk1, hnk1⟩ : ∃ n, (ints l).length = n := ⟨_, rfl⟩
                  have hnk16 : nk1 ≤ 1000001 := by
                    have h1 := HC.out.inn.klen
                    have h2 := HC.out.inn.ri.fix.2.1
                    have h3 := HB.out.2.2.2.1
                    have h4 : S'.kept.length = S.kept.length := by rw [HV.out.2.2.2.2.1]
                    rw [← hnk1, ints_len, ← hl]; simp; omega
                  rw [hnk1] at hown2
                  have hi1 : i + 1 ≤ nl := hlt
                  have hc1i : (i : Int) + 1 ≤ (cl : Int) := by omega
                  have hi1i : (i : Int) + 1 ≤ (nl : Int) := by omega
                  have hi1p : (0 : Int) ≤ (i : Int) + 1 := by omega
                  have hi1n : ((i : Int) + 1).toNat = i + 1 := by omega
                  have HD := Lib.hid (And.intro hkd (And.intro hbd (And.intro hkep (And.intro hkl8 (And.intro hwL (And.intro hro (And.intro hown2 (And.intro hVw (And.intro hl (And.intro hS8 (And.intro hV8 hNW8)))))))))))
                  clear hkd hbd hkep hkl8 hwL hro hown2 hVw hl hS8 hV8 hNW8 hlist hll hkw hcw hnk1 hown
                  generalize hWd : w8.drew = Wd at *
                  refine wp_region_held_drew (S := (fun W => W.cell? ⟨b, 3, none⟩ = some (.slice (some ⟨gw, 0, none⟩) NW cw))) (by kernel_rfl) ?_ (fun hHeld => ?_)
                  · rw [hWd]; exact c3
                  rw [hWd] at hHeld ⊢
                  clear hWd c3
                  obtain ⟨q, hq⟩ : ∃ q, (if cl = i + 1 then some (⟨gl, 0, none⟩ : Addr) else some ⟨gl, i + 1, none⟩) = q := ⟨_, rfl⟩
                  have hro2 : RO Wd (.slice q (nl - (i + 1)) (cl - (i + 1))) 1 (nl - (i + 1)) ((ints L).drop (i + 1)) := HD.out.2.2.2.2.2.1.dropS hi1 (fun hlt => by rw [← hq, if_neg (by omega), Nat.zero_add])
                  have hone : ∀ u ∈ (ints L).drop (i + 1), u.oneCell' = true := fun u hu => by obtain ⟨x, _, rfl⟩ := List.mem_map.1 (List.mem_of_mem_drop hu); rfl
                  refine held_take (i := 0) (v := .pointer (some ⟨b, 0, none⟩)) rfl (by kernel_rfl) (by kernel_rfl) (by kernel_rfl) (fun _ _ _ h => h) (Or.inl ⟨by rfl, ?_⟩) hHeld ?_
                  · intro w hSw; go_simp; (try with_reducible rfl)
                  (try simp only [Act.put, List.setIfInBounds_toArray, List.set_cons_zero, List.set_cons_succ])
                  refine held_take (i := 1) (v := .pointer (some ⟨b, 0, none⟩)) rfl (by kernel_rfl) (by kernel_rfl) (by kernel_rfl) (fun _ _ _ h => h) (Or.inl ⟨by rfl, ?_⟩) hHeld ?_
                  · intro w hSw; go_simp; (try with_reducible rfl)
                  (try simp only [Act.put, List.setIfInBounds_toArray, List.set_cons_zero, List.set_cons_succ])
                  refine held_take (i := 2) (v := .pointer (some ⟨b, 3, none⟩)) rfl (by kernel_rfl) (by kernel_rfl) (by kernel_rfl) (fun _ _ _ h => h) (Or.inl ⟨by rfl, ?_⟩) hHeld ?_
                  · intro w hSw; go_simp; (try with_reducible rfl)
                  (try simp only [Act.put, List.setIfInBounds_toArray, List.set_cons_zero, List.set_cons_succ])
                  refine held_take (i := 3) (v := .slice (some ⟨gw, 0, none⟩) NW cw) rfl (by kernel_rfl) (by kernel_rfl) (by kernel_rfl) (fun _ _ _ h => h) (Or.inl ⟨by rfl, ?_⟩) hHeld ?_
                  · intro w hSw; go_simp; (try with_reducible rfl)
                  (try simp only [Act.put, List.setIfInBounds_toArray, List.set_cons_zero, List.set_cons_succ])
                  refine held_take (i := 4) (v := .int .i64 lit) rfl (by kernel_rfl) (by kernel_rfl) (by kernel_rfl) (fun _ _ _ h => h) (Or.inl ⟨by rfl, ?_⟩) hHeld ?_
                  · intro w hSw; go_simp; (try with_reducible rfl)
                  (try simp only [Act.put, List.setIfInBounds_toArray, List.set_cons_zero, List.set_cons_succ])
                  refine held_take (i := 6) (v := v8) rfl (by kernel_rfl) (by kernel_rfl) (by kernel_rfl) (fun _ _ _ h => h) (Or.inl ⟨by rfl, ?_⟩) hHeld ?_
                  · intro w hSw; go_simp; (try with_reducible rfl)
                  (try simp only [Act.put, List.setIfInBounds_toArray, List.set_cons_zero, List.set_cons_succ])
                  refine held_take (i := 7) (v := .slice (some ⟨gl, 0, none⟩) nl cl) rfl (by kernel_rfl) (by kernel_rfl) (by kernel_rfl) (fun _ _ _ h => h) (Or.inl ⟨by rfl, ?_⟩) hHeld ?_
                  · intro w hSw; go_simp; (try with_reducible rfl)
                  (try simp only [Act.put, List.setIfInBounds_toArray, List.set_cons_zero, List.set_cons_succ])
                  refine held_take (i := 8) (v := .int .i64 i) rfl (by kernel_rfl) (by kernel_rfl) (by kernel_rfl) (fun _ _ _ h => h) (Or.inl ⟨by rfl, ?_⟩) hHeld ?_
                  · intro w hSw; go_simp; (try with_reducible rfl)
                  (try simp only [Act.put, List.setIfInBounds_toArray, List.set_cons_zero, List.set_cons_succ])
                  refine held_take (i := 9) (v := .int .i64 ((i : Int) + 1)) rfl (by kernel_rfl) (by kernel_rfl) (by kernel_rfl) (fun _ _ _ h => h) (Or.inl ⟨by rfl, ?_⟩) hHeld ?_
                  · intro w hSw; go_simp; (try with_reducible rfl)
                  (try simp only [Act.put, List.setIfInBounds_toArray, List.set_cons_zero, List.set_cons_succ])
                  refine held_take (i := 10) (v := .slice (q) (nl - (i + 1)) (cl - (i + 1))) rfl (by kernel_rfl) (by kernel_rfl) (by kernel_rfl) (fun _ _ _ h => h) (Or.inl ⟨by rfl, ?_⟩) hHeld ?_
                  · intro w hSw; go_simp; (try exact hq)
                  (try simp only [Act.put, List.setIfInBounds_toArray, List.set_cons_zero, List.set_cons_succ])
                  have HD2 := Lib.hid (And.intro hro2 hone)
                  clear hro2 hone hq
                  refine wpAnyH_ready (rs := [5]) (by kernel_rfl) (by simp) ?_
                  refine held_cons rfl (fun K hK => ?_) AllReadyH.nil
                  go_simp
                  refine (HSl.out _).mono ?_; rintro e w4 ⟨rfl, hw4⟩
                  subst hw4
                  (try go_simp)
                  refine hK.out _ _ hHeld (fun _ => ?_)
                  clear hK K
                  (try simp only [Act.put, List.setIfInBounds_toArray, List.set_cons_zero, List.set_cons_succ])
                  refine wpAnyH_ready (rs := [11]) (by kernel_rfl) (by simp) ?_
                  refine held_cons rfl (fun K hK => step_appR rfl _ _ 23 rfl TInts base v8 nk1 (ints l) rfl HD.out.2.2.2.2.2.2.1 _ (nl - (i + 1)) _ rfl HD2.out.1 HD2.out.2 (by omega) (by omega) HD.out.1.base_le ?_) AllReadyH.nil
                  intro v9 w9 happ
                  rw [ints_drop, ints_app, ← HD.out.2.2.1] at happ
                  have hk9 := HD.out.1.appk happ
                  have hb9 := happ.below HD.out.2.1 HD.out.1.base_le (fun j hj => (HD.out.1.mem.lts .kept j hj).1)
                  obtain ⟨p9, c9, ev9⟩ := ownsRow_form happ.own
                  subst ev9
                  obtain ⟨gw2, cw2, hVw2, hcs9, hfs9, hgb2, hck9⟩ := hk9.move (s := s) (by show s < 2 * S8.v + 3; rw [HD.out.2.2.2.2.2.2.2.2.2.2.2]; exact HK.out.1)
                  have e2 : V8 .wt = .slice (some ⟨gw2, 0, none⟩) NW cw2 := by rw [← HD.out.2.2.2.2.2.2.2.2.2.2.2]; exact hVw2
                  have e3 := e2.symm.trans HD.out.2.2.2.2.2.2.2.1
                  cases e3
                  have hb10 := hb9.trans ((upd_set (w := w9) (b := gw) (i := s) (F := fun j => j = gw) (.slice p9 (nk1 + (nl - (i + 1))) c9) rfl).toBelow (B := base) (fun j e => by omega) hk9.base_le)
                  have hHeld9 : (fun W => W.cell? ⟨b, 3, none⟩ = some (.slice (some ⟨gw, 0, none⟩) NW cw)) w9 := by
                    have h3 := hk9.cell (i := 3) rfl
                    have e4 : updV V8 .kept (.slice p9 (nk1 + (nl - (i + 1))) c9) .wt = .slice (some ⟨gw, 0, none⟩) NW cw := e2
                    rw [e4] at h3
                    exact h3
                  refine hK.out _ _ hHeld9 (fun _ => ?_)
                  clear hK K hHeld
                  have hHeld := hHeld9
                  clear hHeld9
                  (try simp only [Act.put, List.setIfInBounds_toArray, List.set_cons_zero, List.set_cons_succ])
                  refine held_take (i := 12) (v := .pointer (some ⟨gw, s, none⟩)) rfl (by kernel_rfl) (by kernel_rfl) (by kernel_rfl) (fun _ _ _ h => h) (Or.inl ⟨by rfl, ?_⟩) hHeld ?_
                  · intro w hSw; go_simp; (try with_reducible rfl)
                  (try simp only [Act.put, List.setIfInBounds_toArray, List.set_cons_zero, List.set_cons_succ])
                  clear e2 hVw2 happ hk9 hb9
                  refine wpAnyH_ready (rs := [13]) (by kernel_rfl) (by simp) ?_
                  refine held_cons rfl (fun K hK => ?_) AllReadyH.nil
                  go_simp
                  refine hK.out _ _ ?_ (fun _ => ?_)
                  · exact (World.cell?_setCell_other _ _ _ _ (by simp [])).trans hHeld
                  clear hK K
                  (try simp only [Act.put, List.setIfInBounds_toArray, List.set_cons_zero, List.set_cons_succ])
                  refine wpAnyH_done (by kernel_rfl) ?_ _
                  have HE := Lib.hid (And.intro hck9 hb10)
                  clear hck9 hb10 hcs9 hfs9 hHeld
                  go_wp2_with fail
                  go_ret
                  have hri := HV.out.2.2.2.2.2.2.2.1.stop
                  simp only [Bool.false_eq_true, if_false] at hri
                  rw [← HV.out.2.2.2.2.1, HD.out.2.2.2.2.2.2.2.2.1, HC.out.sl] at hri
                  refine ⟨true, _, _, rfl, HE.out.1, HE.out.2, by simp [updV], rfl, ?_, fun _ => HV.out.2.2.2.2.2.2.2.2.1 trivial, fun _ => rfl⟩
                  rw [← HD.out.2.2.2.2.2.2.2.2.2.1]
                  exact hri
            ·
              have hkd := HC.out.ck.drew
              have hbd := HC.out.bel.drew
              have hv8 : S.v = S0.v := HC.out.inn.ri.fix.1
              have hNW8 : 2 * S.v + 3 = NW := by rw [hv8]; exact HK.out.2
              obtain ⟨gw, cw, hVw, hcw, _, _, hgwb⟩ := hkd.wtc (s := s) (by rw [hNW8]; exact HK.out.1)
              rw [hNW8] at hVw
              have c3 := hkd.cell (i := 3) rfl
              rw [hVw] at c3
              obtain ⟨gw2, cw2, hVw2, hcs9, hfs9, hgb2, hck9⟩ := hkd.move (s := s) (by rw [hNW8]; exact HK.out.1)
              rw [hNW8] at hVw2
              have e3 := hVw2.symm.trans hVw
              cases e3
              obtain ⟨p9, c9, ev9⟩ := hkd.form .kept
              obtain ⟨nk, hnk⟩ : ∃ n, (Rof S V1 .kept).2.length = n := ⟨_, rfl⟩
              rw [hnk] at ev9
              have hb10 := hbd.trans ((upd_set (w := wr.drew) (b := gw) (i := s) (F := fun j => j = gw) (V1 .kept) rfl).toBelow (B := base) (fun j e => by omega) hkd.base_le)
              have h6 := hck9.cell (i := 6) rfl
              have f6 := hck9.blk.frz 6
              have hck10 := hck9.sethd (S.head + 1)
              have hb11 := hb10.trans ((upd_set (w := wr.drew.setCell ⟨gw, s, none⟩ (V1 .kept)) (b := b) (i := 6) (F := fun j => j = b) (.int .i64 (S.head + 1 : Nat)) rfl).toBelow (B := base) (fun j e => by have := hkd.mem.hb; omega) hck9.base_le)
              have hdn := HC.out.inn
              have hin2 : i = L.length := by rw [HY.out.1]; omega
              rw [hin2] at hdn
              have hout := hdn.done
              rw [HC.out.sl] at hout
              have hlast := hdn.lt
              have htl := hdn.ri.wf.vals.tlen
              have hv1 := hdn.ri.fix.1
              have hv0 := HB.out.2.2.1
              obtain ⟨hz, hhz⟩ : ∃ n, S.head = n := ⟨_, rfl⟩
              have h6' : (wr.drew.setCell ⟨gw, s, none⟩ (V1 .kept)).cell? ⟨b, 6, none⟩ = some (.int .i64 hz) := by rw [← hhz]; exact h6
              rw [ev9] at h6' f6
              have hzw : IntKind.i64.wrap ((hz : Int) + 1) = (hz : Int) + 1 := i64_of (by omega)
              have HE := Lib.hid (And.intro hck10 (And.intro hb11 (And.intro hout (And.intro hhz (And.intro ev9 (And.intro hlast (And.intro htl (And.intro hv1 hv0))))))))
              have hnid : decide (i < nl) = false := decide_eq_false hlt
              clear hkd hbd hv8 hNW8 hVw hVw2 hck9 hb10 h6 hck10 hb11 hdn hin2 hout hC hlast htl hv1 hv0 hhz hnk
              rw [ev9]
              clear ev9
              go_upto_region 23 with fail
              generalize hWd : wr.drew = Wd at *
              refine wp_region_held_drew (S := (fun W => W.cell? ⟨b, 3, none⟩ = some (.slice (some ⟨gw, 0, none⟩) NW cw))) (by kernel_rfl) ?_ (fun hHeld => ?_)
              · rw [hWd]; exact c3
              rw [hWd] at hHeld ⊢
              clear hWd c3
              refine held_take (i := 0) (v := .pointer (some ⟨b, 0, none⟩)) rfl (by kernel_rfl) (by kernel_rfl) (by kernel_rfl) (fun _ _ _ h => h) (Or.inl ⟨by rfl, ?_⟩) hHeld ?_
              · intro w hSw; go_simp; (try with_reducible rfl)
              (try simp only [Act.put, List.setIfInBounds_toArray, List.set_cons_zero, List.set_cons_succ])
              refine held_take (i := 1) (v := .pointer (some ⟨b, 0, none⟩)) rfl (by kernel_rfl) (by kernel_rfl) (by kernel_rfl) (fun _ _ _ h => h) (Or.inl ⟨by rfl, ?_⟩) hHeld ?_
              · intro w hSw; go_simp; (try with_reducible rfl)
              (try simp only [Act.put, List.setIfInBounds_toArray, List.set_cons_zero, List.set_cons_succ])
              refine held_take (i := 2) (v := .pointer (some ⟨b, 3, none⟩)) rfl (by kernel_rfl) (by kernel_rfl) (by kernel_rfl) (fun _ _ _ h => h) (Or.inl ⟨by rfl, ?_⟩) hHeld ?_
              · intro w hSw; go_simp; (try with_reducible rfl)
              (try simp only [Act.put, List.setIfInBounds_toArray, List.set_cons_zero, List.set_cons_succ])
              refine held_take (i := 3) (v := .slice (some ⟨gw, 0, none⟩) NW cw) rfl (by kernel_rfl) (by kernel_rfl) (by kernel_rfl) (fun _ _ _ h => h) (Or.inl ⟨by rfl, ?_⟩) hHeld ?_
              · intro w hSw; go_simp; (try with_reducible rfl)
              (try simp only [Act.put, List.setIfInBounds_toArray, List.set_cons_zero, List.set_cons_succ])
              refine held_take (i := 4) (v := .int .i64 lit) rfl (by kernel_rfl) (by kernel_rfl) (by kernel_rfl) (fun _ _ _ h => h) (Or.inl ⟨by rfl, ?_⟩) hHeld ?_
              · intro w hSw; go_simp; (try with_reducible rfl)
              (try simp only [Act.put, List.setIfInBounds_toArray, List.set_cons_zero, List.set_cons_succ])
              refine held_take (i := 6) (v := .slice p9 nk c9) rfl (by kernel_rfl) (by kernel_rfl) (by kernel_rfl) (fun _ _ _ h => h) (Or.inl ⟨by rfl, ?_⟩) hHeld ?_
              · intro w hSw; go_simp; (try with_reducible rfl)
              (try simp only [Act.put, List.setIfInBounds_toArray, List.set_cons_zero, List.set_cons_succ])
              refine wpAnyH_ready (rs := [5]) (by kernel_rfl) (by simp) ?_
              refine held_cons rfl (fun K hK => ?_) AllReadyH.nil
              go_simp
              refine (HSl.out _).mono ?_; rintro e w4 ⟨rfl, hw4⟩
              subst hw4
              (try go_simp)
              refine hK.out _ _ hHeld (fun _ => ?_)
              clear hK K
              (try simp only [Act.put, List.setIfInBounds_toArray, List.set_cons_zero, List.set_cons_succ])
              refine held_take (i := 7) (v := .pointer (some ⟨gw, s, none⟩)) rfl (by kernel_rfl) (by kernel_rfl) (by kernel_rfl) (fun _ _ _ h => h) (Or.inl ⟨by rfl, ?_⟩) hHeld ?_
              · intro w hSw; go_simp; (try with_reducible rfl)
              (try simp only [Act.put, List.setIfInBounds_toArray, List.set_cons_zero, List.set_cons_succ])
              refine wpAnyH_ready (rs := [8]) (by kernel_rfl) (by simp) ?_
              refine held_cons rfl (fun K hK => ?_) AllReadyH.nil
              go_simp
              refine hK.out _ _ ?_ (fun _ => ?_)
              · exact (World.cell?_setCell_other _ _ _ _ (by simp [])).trans hHeld
              clear hK K
              (try simp only [Act.put, List.setIfInBounds_toArray, List.set_cons_zero, List.set_cons_succ])
              refine wpAnyH_done (by kernel_rfl) ?_ _
              go_wp2_with fail
              go_roundw
              case rel =>
                have e1 : (Value.int .i64 ((hz : Int) + 1)) = .int .i64 ((S.head + 1 : Nat) : Int) := by rw [HE.out.2.2.2.1]; rfl
                rw [e1, ← HE.out.2.2.2.2.1]
                exact ⟨_, _, HE.out.1, HE.out.2.1, by simp [updV], HE.out.2.2.1⟩
              case measure =>
                have e1 : (Value.int .i64 ((hz : Int) + 1)) = .int .i64 ((S.head + 1 : Nat) : Int) := by rw [HE.out.2.2.2.1]; rfl
                rw [e1, ← HE.out.2.2.2.2.1, HE.out.1.hd, Hhd.out]
                have h1 := HE.out.2.2.2.2.2.1
                have h2 := HE.out.2.2.2.2.2.2.1
                have h3 := HE.out.2.2.2.2.2.2.2.1
                have h4 := HC.out.inn.hd
                show 2 * S0.v + 3 - (S.head + 1) < _
                omega
        · have hii : decide (hd < T) = false := decide_eq_false hlt
          go_wp2_with fail
          go_quiet (fail)
          go_wp2_with fail
          go_ret
          refine ⟨false, S, V1, rfl, HL.out.1.ck.below (below_drewN _), HL.out.1.bel.trans (below_drewN _), HL.out.1.keep, HL.out.1.o.kept, HL.out.1.o.ri, fun h => by simp at h, fun hf => absurd hf ?_⟩
          have hp := HL.out.1.o.pr
          have hle := HL.out.2.2.2
          have hT := HL.out.2.2.1
          rw [List.take_of_length_le (by omega)] at hp
          exact run_ok HL.out.1.o.ri.wf (fun l ⟨i, hi, hm⟩ => ⟨i, by rw [HL.out.1.o.ri.fix.2.1]; exact hi, fun x => (HL.out.1.o.ri.mem i x).trans (hm x)⟩) (fun x hx => HL.out.1.o.ri.sub x (HB.out.2.2.2.2.2.1 x hx)) hp HL.out.1.o.sh
end Go.Proofs.Ytcifiibpiooeiaa
