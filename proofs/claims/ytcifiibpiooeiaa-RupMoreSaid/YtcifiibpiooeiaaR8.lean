import Derived.Test.YtcifiibpiooeiaaR7
namespace Go.Proofs.Ytcifiibpiooeiaa
set_option linter.unusedVariables false
open Go.RowKit Go.Sort

/-! ## follows -/
/-- a checker at rest -/
structure Idle (base b : Nat) (w : World) (S : St) (V : Key → Value) : Prop where
  ck : Ck base b w S V
  keep : V .kept = .slice none 0 0
  kp : S.kept = []
  wf : Wf S S.wt
  tr : S.trail = []
  hd : S.head = 0
/-- the same clauses, as sets -/
structure Same (S0 S : St) : Prop where
  mem : ∀ i x, x ∈ S.cl i ↔ x ∈ S0.cl i
  len : ∀ i, (S.cl i).length = (S0.cl i).length
  fix : S.v = S0.v ∧ S.m = S0.m ∧ S.short = S0.short
def FollowsR (base b : Nat) (w : World) (S0 : St) (l : List Int) (e : Ending) (w' : World) : Prop :=
  ∃ f S V, e = .returned (.bool f) ∧ Idle base b w' S V ∧ Below base w w' ∧ Same S0 S ∧ (f = true ↔ Fails (ClsOf S0) (fun x => -x ∈ l))
structure LoopF (base b : Nat) (w : World) (l : List Int) (S0 : St) (i : Nat) (S : St) (V1 : Key → Value) (wr : World) : Prop where
  ck : Ck base b wr S V1
  bel : Below base w wr
  keep : V1 .kept = .slice none 0 0
  ri : RI (ClsOf S0) (fun x => -x ∈ l) S0 S S.wt
  asm : ∀ j, j < i → -(l.getD j 0) ∈ S.trail
  hd : S.head = 0
  kp : S.kept = []
theorem RI.idle {base b : Nat} {w : World} {cls : List Int → Prop} {A : Int → Prop} {S0 S : St} {V : Key → Value} (h : RI cls A S0 S S.wt) (hk : S.kept = []) (hc : Ck base b w (clearS S) V) (hV : V .kept = .slice none 0 0) : Idle base b w (clearS S) V ∧ Same S0 (clearS S) :=
  ⟨⟨hc, hV, hk, h.wf.cleared, rfl, rfl⟩, ⟨h.mem, h.len, h.fix⟩⟩
set_option maxRecDepth 100000 in
set_option maxHeartbeats 4000000 in
theorem follows_any {base b : Nat} {w : World} {S0 : St} {V : Key → Value} {lv : Value} {n : Nat} {l : List Int} (h : Idle base b w S0 V) (hl : ∀ x, x ∈ l → x ≠ 0 ∧ x.natAbs ≤ S0.v) (hn : l.length = n) (hn6 : n ≤ 1000000) (hro : ∀ W, Below base w W → RO W lv 1 n (ints l))
    (hv : S0.v ≤ 400000) (hm : S0.m ≤ 1000000) (hlen : ∀ i, (S0.cl i).length ≤ 1000000) (hsh : S0.short.length ≤ 1000000) :
    Calls Try.prog 27 #[.pointer (some ⟨b, 0, none⟩), lv] w (FollowsR base b w S0 l) := by
  have hF0 : LoopF base b w l S0 0 S0 V w := ⟨h.ck, Below.refl _ _, h.keep, ⟨h.wf, fun x hx => by rw [h.tr] at hx; simp at hx, fun _ _ => Iff.rfl, fun _ => rfl, ⟨rfl, rfl, rfl⟩, fun _ h => h⟩, fun j hj => absurd hj (by omega), h.hd, h.kp⟩
  obtain ⟨_, pl, cl, rfl, _⟩ := hro w (Below.refl _ _)
  have HF0 := Lib.hid hF0
  have HB := Lib.hid (And.intro hl (And.intro hn (And.intro hro (And.intro hv (And.intro hm (And.intro hlen hsh))))))
  have hni : (n : Int) ≤ 1000000 := by omega
  clear h hl hn hro hv hm hlen hsh hF0
  go_enter_defers Try.func27, Try.ntmps27
  go_wp2_with fail
  go_loopw [10] (fun iv wr => ∃ i S V1, i ≤ n ∧ iv = .int .i64 i ∧ LoopF base b w l S0 i S V1 wr) (fun iv _ => n - (intOf iv).toNat)
  case atStart => exact ⟨0, S0, V, Nat.zero_le _, rfl, HF0.out⟩
  case round =>
    obtain ⟨i, S, V1, hin, rfl, hL⟩ := hrel
    have HL := Lib.hid hL
    by_cases hlt : i < n
    · have hil : i < l.length := by rw [HB.out.2.1]; exact hlt
      obtain ⟨_, p', c', e, hcells⟩ := HB.out.2.2.1 wr hL.bel
      cases e
      obtain ⟨bl, o, rfl, hcl⟩ := hcells i (.int .i64 (l.getD i 0)) (ints_at _ _ hil)
      obtain ⟨y, hy⟩ : ∃ y, l.getD i 0 = y := ⟨_, rfl⟩
      rw [hy] at hcl
      have hyl : y ∈ l := by rw [← hy]; exact getD_mem hil
      have hyv := HB.out.1 y hyl
      have hv0 := HB.out.2.2.2.1
      have hv1 := hL.ri.fix.1
      have htl := hL.ri.wf.vals.tlen
      obtain ⟨x, hx⟩ : ∃ x, -y = x := ⟨_, rfl⟩
      have hyw : IntKind.i64.wrap (-y) = x := by rw [hx]; exact i64_of (by omega)
      have hx0 : x ≠ 0 := by omega
      have hxv : x.natAbs ≤ S.v := by omega
      have ha := assume_any hL.ck (x := x) (tr := S.trail) hL.ri.wf.vals hx0 hxv (by omega) (by omega)
      have hAx : -x ∈ l := by rw [← hx]; simpa using hyl
      have hri := hL.ri.assume (x := x) hx0 hxv (.asm hAx)
      have hsp := assumeS_spec hL.ri.wf.vals hx0 hxv
      have hsub := assumeS_sub hL.ri.wf.vals hx0 hxv
      have hwt : (assumeS S x).1.wt = S.wt := by rw [assumeS_eq]
      have hhd : (assumeS S x).1.head = 0 := by rw [assumeS_eq]; exact hL.hd
      have hkp : (assumeS S x).1.kept = [] := by rw [assumeS_eq]; exact hL.kp
      obtain ⟨q, hq⟩ : ∃ q, (assumeS S x).2 = q := ⟨_, rfl⟩
      obtain ⟨S1, hS1⟩ : ∃ S1, (assumeS S x).1 = S1 := ⟨_, rfl⟩
      rw [hS1] at hri hwt hhd hkp ha hsp hsub
      rw [hq] at ha hsp
      rw [← hwt] at hri
      have hbad : q = false → Fails (ClsOf S0) (fun x => -x ∈ l) := fun hf => by
        rcases hsp with ⟨e, _⟩ | ⟨_, _, e⟩
        · rw [hf] at e; cases e
        · exact .inr ⟨x, .asm hAx, hL.ri.snd _ e⟩
      have hgood : q = true → ∀ j, j < i + 1 → -(l.getD j 0) ∈ S1.trail := fun ht j hj => by
        by_cases hji : j < i
        · exact hsub _ (hL.asm j hji)
        · obtain rfl : j = i := by omega
          rw [hy, hx]
          rcases hsp with ⟨_, e, _⟩ | ⟨e, _⟩
          · exact e
          · rw [ht] at e; cases e
      have HA := Lib.hid ha
      have HQ := Lib.hid (And.intro hri (And.intro hbad (And.intro hgood (And.intro hhd (And.intro hkp (hL.ri.fix.1))))))
      have hii : (i : Int) < n := by omega
      have hi0 : (0 : Int) ≤ i := by omega
      have hid : decide (i < n) = true := decide_eq_true hlt
      have hiw : IntKind.i64.wrap ((i : Int) + 1) = (i : Int) + 1 := i64_of (by omega)
      clear hL hil hcells hy hyl hyv hv0 hv1 htl hx hx0 hxv ha hAx hri hsp hsub hwt hhd hkp hq hS1 hbad hgood
      go_wp2_with fail
      refine HA.out.mono ?_
      rintro e w2 ⟨rfl, V2, hk2, hb2, hv2⟩
      have HR := Lib.hid (And.intro hk2 (And.intro (HL.out.bel.trans hb2) (hv2 .kept (by simp))))
      clear hk2 hb2 hv2
      cases q with
      | false =>
        go_wp2_with fail
        refine leaves_cons (f := 56) (args := #[.pointer (some ⟨b, 0, none⟩)]) (by simp) (by simp [go_sem]) ?_
        refine (clear_any .returning HR.out.1 HQ.out.1.wf.vals (by rw [HQ.out.1.fix.1]; exact HB.out.2.2.2.1)).mono ?_
        rintro e u' w3 ⟨rfl, rfl, V3, hc3, hb3, hk3⟩
        obtain ⟨hid3, hsame⟩ := HQ.out.1.idle HQ.out.2.2.2.2.1 hc3 (hk3.trans (HR.out.2.2.trans HL.out.keep))
        exact ⟨_, results_tmp rfl _ _ _, true, _, V3, rfl, hid3, HR.out.2.1.trans hb3, hsame, fun _ => HQ.out.2.1 trivial, fun _ => rfl⟩
      | true =>
        go_wp2_with fail
        go_roundw
        case rel => exact ⟨i + 1, S1, V2, by omega, by go_num, HR.out.1, HR.out.2.1, HR.out.2.2.trans HL.out.keep, HQ.out.1, HQ.out.2.2.1 trivial, HQ.out.2.2.2.1, HQ.out.2.2.2.2.1⟩
        case measure => simp [intOf]; omega
    · have hid : decide (i < n) = false := decide_eq_false hlt
      have hv0 := HB.out.2.2.2.1
      have hv1 := hL.ri.fix.1
      have hrun := run_any (A := fun x => -x ∈ l) hL.ck hL.kp hL.keep hL.ri.wf hL.hd (fun x hx => by
        have := hL.ri.snd x hx
        exact this.mono (fun l' ⟨i, hi, hm⟩ => ⟨i, by rw [hL.ri.fix.2.1]; exact hi, fun x => (hL.ri.mem i x).trans (hm x)⟩) (fun _ h => h)) (fun x hx => by
        obtain ⟨j, hj, e⟩ := List.getElem_of_mem hx
        have := hL.asm j (by have := HB.out.2.1; omega)
        rw [show l.getD j 0 = -x by simp [List.getD, List.getElem?_eq_getElem hj, e]] at this
        simpa using this) (by omega) (by rw [hL.ri.fix.2.1]; exact HB.out.2.2.2.2.1) (fun i => by rw [hL.ri.len]; exact HB.out.2.2.2.2.2.1 i) (by rw [hL.ri.fix.2.2]; exact HB.out.2.2.2.2.2.2)
      have HRun := Lib.hid hrun
      clear hL hrun hlt hv0 hv1
      go_wp2_with fail
      refine HRun.out.mono ?_
      rintro e w2 ⟨f, S2, V2, rfl, hk2, hb2, hkeep2, hkp2, hri2, hiff⟩
      have HR := Lib.hid (And.intro hk2 (And.intro hb2 (And.intro hkeep2 (And.intro hkp2 (And.intro hri2 hiff)))))
      clear hk2 hb2 hkeep2 hkp2 hri2 hiff
      go_wp2_with fail
      refine leaves_cons (f := 56) (args := #[.pointer (some ⟨b, 0, none⟩)]) (by simp) (by simp [go_sem]) ?_
      refine (clear_any .returning HR.out.1 HR.out.2.2.2.2.1.wf.vals (by rw [HR.out.2.2.2.2.1.fix.1, HL.out.ri.fix.1]; exact HB.out.2.2.2.1)).mono ?_
      rintro e u' w3 ⟨rfl, rfl, V3, hc3, hb3, hk3⟩
      obtain ⟨hid3, hsame⟩ := HR.out.2.2.2.2.1.idle HR.out.2.2.2.1 hc3 (hk3.trans HR.out.2.2.1)
      have hto : ∀ l', ClsOf S l' ↔ ClsOf S0 l' := fun l' => ⟨fun ⟨i, hi, hm⟩ => ⟨i, by rw [← HL.out.ri.fix.2.1]; exact hi, fun x => (HL.out.ri.mem i x).symm.trans (hm x)⟩, fun ⟨i, hi, hm⟩ => ⟨i, by rw [HL.out.ri.fix.2.1]; exact hi, fun x => (HL.out.ri.mem i x).trans (hm x)⟩⟩
      have hff : Fails (ClsOf S) (fun x => -x ∈ l) ↔ Fails (ClsOf S0) (fun x => -x ∈ l) := ⟨fun h => h.mono (fun l' => (hto l').1) (fun _ h => h), fun h => h.mono (fun l' => (hto l').2) (fun _ h => h)⟩
      exact ⟨_, results_tmp rfl _ _ _, f, _, V3, rfl, hid3, (HL.out.bel.trans HR.out.2.1).trans hb3, ⟨fun i x => (hsame.mem i x).trans (HL.out.ri.mem i x), fun i => (hsame.len i).trans (HL.out.ri.len i), hsame.fix.1.trans HL.out.ri.fix.1, hsame.fix.2.1.trans HL.out.ri.fix.2.1, hsame.fix.2.2.trans HL.out.ri.fix.2.2⟩, HR.out.2.2.2.2.2.trans hff⟩
end Go.Proofs.Ytcifiibpiooeiaa
