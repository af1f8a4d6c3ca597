import Derived.Test.YtoccghbkfnalgaaB6
import Derived.Deep.CutBlock
import Derived.Deep.CutRange
import Derived.Deep.DeepCutAuto
namespace Go.Proofs.Ytoccghbkfnalgaa
set_option linter.unusedVariables false
open Go.RowKit

theorem Try.T25 : SlTy Try.prog 25 3 1 8 (.int .i64 0) := SlTy.of Try.underlying25 Try.info3 rfl Nat.one_pos

theorem len_has {w : World} {bg F g} (hG : HasG w bg F g) : Calls Try.prog 10 #[.pointer (some ⟨bg, 0, none⟩)] w fun e w' => e = .returned (.int .i64 g.nodes.length) ∧ w = w' := by
  obtain ⟨vn, vi, bm, hG, rfl⟩ := hG
  obtain ⟨p, c, rfl⟩ := ownsRow_form hG.hn
  exact len_any bg _ c p w hG.cell0

set_option maxRecDepth 100000 in
set_option maxHeartbeats 4000000 in
theorem build_any (w : World) (va : Value) (acts : List Actn) (ha : RO w va 4 acts.length (actCells acts)) (hal : acts.length ≤ 200)
    (hkd : ∀ k, k < acts.length → 0 ≤ (acts.getD k default).kind ∧ (acts.getD k default).kind ≤ 5) :
    Calls Try.prog 8 #[va] w (BldPost acts w) := by
  obtain ⟨pa, ca, rfl⟩ := ha.form
  have H := Lib.hid (And.intro ha hkd)
  have hal' : (acts.length : Int) ≤ 200 := by omega
  have HN := Lib.hid (new_has w)
  clear ha hkd
  go_enter Try.func8, Try.ntmps8
  go_wp2_with fail
  refine HN.out.mono ?_
  rintro e w1 ⟨bg, F0, rfl, hG0, hF0, hbel0⟩
  have H0 := Lib.hid (And.intro hG0 (And.intro hF0 hbel0))
  clear hG0 hF0 hbel0
  go_wp2_with fail
  generalize hB : w.heap.size = B at *
  generalize hbc : w1.heap.size = bc at *
  go_loopw [20] (fun i wr => BldRel acts w B bg bc i wr) (fun i _ => acts.length - (intOf i).toNat)
  case atStart =>
    have hb1 : Below w1.heap.size w1 (w1.alloc (Obj.cells #[Value.slice none 0 0] 25)) := (Below.refl _ _).alloc (Nat.le_refl _) _
    obtain ⟨vn, vi, bm, hG, rfl⟩ := H0.out.1
    have hlt := hG.lt
    exact ⟨0, _, _, Nat.zero_le _, rfl, ⟨_, _, _, hG.below hb1, rfl⟩, hbc ▸ Blk.new 25 [.slice none 0 0], World.ownsRow_nil _ _ _ _, fun hf => by have := hlt _ hf; omega, fun j hj => by simp [Value.ownBlock] at hj, H0.out.2.1, by have := H0.out.2.2.size; omega, H0.out.2.2.trans (hb1.mono (by have := H0.out.2.2.size; omega))⟩
  case round =>
    obtain ⟨k, F, vl, hk, rfl, hrel⟩ := hrel
    have HR := Lib.hid hrel
    by_cases hlt : k < acts.length
    · obtain ⟨ba, oa, rfl⟩ := H.out.1.sl (acts_at acts k hlt).1
      have ha0 := (H.out.1.below (hB ▸ hrel.b)).cell (acts_at acts k hlt).1
      have ha1 := (H.out.1.below (hB ▸ hrel.b)).cell (acts_at acts k hlt).2.1
      have ha2 := (H.out.1.below (hB ▸ hrel.b)).cell (acts_at acts k hlt).2.2.1
      have ha3 := (H.out.1.below (hB ▸ hrel.b)).cell (acts_at acts k hlt).2.2.2
      rw [← Nat.add_assoc] at ha1 ha2 ha3
      have hkk := H.out.2 k hlt
      have hinv := build_inv acts k
      have hnext : buildTo acts (k + 1) = ((gStep (buildTo acts k).1 (acts.getD k default).kind (ofL (buildTo acts k).2 (acts.getD k default).a) (ofL (buildTo acts k).2 (acts.getD k default).b) (ofL (buildTo acts k).2 (acts.getD k default).c)).1, (buildTo acts k).2 ++ [(gStep (buildTo acts k).1 (acts.getD k default).kind (ofL (buildTo acts k).2 (acts.getD k default).a) (ofL (buildTo acts k).2 (acts.getD k default).b) (ofL (buildTo acts k).2 (acts.getD k default).c)).2]) := rfl
      clear hrel
      generalize buildTo acts k = S at *
      obtain ⟨g, lits⟩ := S
      generalize acts.getD k default = X at *
      obtain ⟨kd, xa, xb, xc⟩ := X
      dsimp only at hnext hinv hkk ha0 ha1 ha2 ha3 HR
      have la := ofL_lit hinv xa
      have lb := ofL_lit hinv xb
      have lc := ofL_lit hinv xc
      have hlen : lits.length = k := hinv.len
      have R1 := Lib.hid (HR.out.alloc (Obj.cells #[Value.int IntKind.i64 kd, Value.int IntKind.i64 xa, Value.int IntKind.i64 xb, Value.int IntKind.i64 xc] 52))
      have HC : Hid (∀ i n, Calls Try.prog 24 #[.int .i64 i, .pointer (some ⟨bc, 0, none⟩)] ((wr.alloc (Obj.cells #[Value.int IntKind.i64 kd, Value.int IntKind.i64 xa, Value.int IntKind.i64 xb, Value.int IntKind.i64 xc] 52)).drewN n) fun e w' => e = .returned (.int .i64 (ofL lits i)) ∧ w' = (wr.alloc (Obj.cells #[Value.int IntKind.i64 kd, Value.int IntKind.i64 xa, Value.int IntKind.i64 xb, Value.int IntKind.i64 xc] 52)).drewN n) := by
        intro i n
        have r := R1.out.drewN n
        have rl := r.l
        rw [← hlen] at rl
        exact of_any bc vl lits B i _ (r.c.cell rfl) rl (by omega)
      have HX := Lib.hid (And.intro hnext (And.intro hinv (And.intro hkk hlen)))
      clear hnext hinv hkk hlen
      have HL := Lib.hid (And.intro la (And.intro lb lc))
      clear la lb lc
      go_wp2_with fail
      go_quiet ((first | (go_at_call_of 24 (Value.int .i64 xa); exact Calls.quiet_of_same (HC.out xa _)) | (go_at_call_of 24 (Value.int .i64 xb); exact Calls.quiet_of_same (HC.out xb _)) | (go_at_call_of 24 (Value.int .i64 xc); exact Calls.quiet_of_same (HC.out xc _))))
      go_wp2_with fail
      refine (len_has (R1.out.drewN nq).g).mono ?_
      rintro e w' ⟨rfl, rfl⟩
      have R2 := Lib.hid (R1.out.drewN nq)
      have hgl : (g.nodes.length : Int) ≤ 700 := by have := HX.out.2.1.hi; omega
      go_upto_block 2 with fail
      obtain ⟨g', r, hst⟩ : ∃ g' r, gStep g kd (ofL lits xa) (ofL lits xb) (ofL lits xc) = (g', r) := ⟨_, _, rfl⟩
      have HS := Lib.hid hst
      clear hst
      generalize ofL lits xa = A at *
      generalize ofL lits xb = Bb at *
      generalize ofL lits xc = C at *
      go_cut [14, 15, 20] (fun v14 v15 v20 wx => ∃ F', v14 = .int .i64 r ∧ v15 = .int .i64 0 ∧ v20 = .int .i64 k ∧ BRel w B bg bc k g' lits F' vl wx)
      case first =>
        go_wp2_with fail
        · have hk0 : (kd == 0) = true := by assumption
          have he : gStep g kd A Bb C = gInput g := by simp only [beq_iff_eq] at hk0; simp [gStep, hk0]
          have hgi : gInput g = (g', r) := he.symm.trans HS.out
          have HI := Lib.hid (input_any _ bg F g R2.out.g (by omega) (by have := HX.out.2.1.il; omega))
          rw [hgi] at HI
          clear he hgi
          refine HI.out.mono ?_
          rintro e w2 ⟨rfl, F', hG', hU⟩
          have HU := Lib.hid (R2.out.upd hG' hU)
          clear hG' hU
          go_wp2_with fail
          go_meet
          exact ⟨F', rfl, rfl, rfl, HU.out⟩
        · have hk0 : (kd == 1) = true := by assumption
          have he : gStep g kd A Bb C = gAnd g A Bb := by simp only [beq_iff_eq] at hk0; simp [gStep, hk0]
          have hgi : gAnd g A Bb = (g', r) := he.symm.trans HS.out
          have HI := Lib.hid (and_any _ bg F A Bb g R2.out.g (by omega) HL.out.1 HL.out.2.1 HX.out.2.1.kn)
          rw [hgi] at HI
          have hA0 : 0 ≤ A := HL.out.1.1
          have hB0 : 0 ≤ Bb := HL.out.2.1.1
          have hkn := gAnd_known g A Bb hA0 hB0
          rw [hgi] at hkn
          have HKN := Lib.hid hkn
          have HNB := Lib.hid (fun w => not_any Bb w hB0 (by have := HL.out.2.1.2; omega))
          clear he hgi hkn hA0 hB0
          have hc : (A == 0) = true ∨ ((A == 0) = false ∧ (Bb == 0) = true) ∨ ((A == 0) = false ∧ (Bb == 0) = false ∧ (A == 1) = true) ∨ ((A == 0) = false ∧ (Bb == 0) = false ∧ (A == 1) = false ∧ (Bb == 1) = true)
             ∨ ((A == 0) = false ∧ (Bb == 0) = false ∧ (A == 1) = false ∧ (Bb == 1) = false ∧ (A == Bb) = true)
             ∨ ((A == 0) = false ∧ (Bb == 0) = false ∧ (A == 1) = false ∧ (Bb == 1) = false ∧ (A == Bb) = false ∧ (A == tnot Bb) = true)
             ∨ ((A == 0) = false ∧ (Bb == 0) = false ∧ (A == 1) = false ∧ (Bb == 1) = false ∧ (A == Bb) = false ∧ (A == tnot Bb) = false) := by
            cases (A == 0) <;> cases (Bb == 0) <;> cases (A == 1) <;> cases (Bb == 1) <;> cases (A == Bb) <;> cases (A == tnot Bb) <;> simp
          refine HI.out.mono ?_
          rintro e w2 ⟨rfl, F', hG', hU⟩
          have HU := Lib.hid (R2.out.upd hG' hU)
          clear hG' hU
          rcases hc with h1 | ⟨h1, h2⟩ | ⟨h1, h2, h3⟩ | ⟨h1, h2, h3, h4⟩ | ⟨h1, h2, h3, h4, h5⟩ | ⟨h1, h2, h3, h4, h5, h6⟩ | ⟨h1, h2, h3, h4, h5, h6⟩
          iterate 5
            · obtain rfl : g' = g := HKN.out (by first | exact .inl (beq_iff_eq.1 h1) | exact .inr (.inl (beq_iff_eq.1 h2)) | exact .inr (.inr (.inl (beq_iff_eq.1 h3))) | exact .inr (.inr (.inr (.inl (beq_iff_eq.1 h4)))) | exact .inr (.inr (.inr (.inr (.inl (beq_iff_eq.1 h5))))) | exact .inr (.inr (.inr (.inr (.inr (beq_iff_eq.1 h6))))))
              go_wp2_with fail
              refine (len_has HU.out.g).mono ?_
              rintro e w' ⟨rfl, rfl⟩
              go_wp2_with fail
              go_meet
              exact ⟨F', rfl, rfl, rfl, HU.out⟩
          · obtain rfl : g' = g := HKN.out (by first | exact .inl (beq_iff_eq.1 h1) | exact .inr (.inl (beq_iff_eq.1 h2)) | exact .inr (.inr (.inl (beq_iff_eq.1 h3))) | exact .inr (.inr (.inr (.inl (beq_iff_eq.1 h4)))) | exact .inr (.inr (.inr (.inr (.inl (beq_iff_eq.1 h5))))) | exact .inr (.inr (.inr (.inr (.inr (beq_iff_eq.1 h6))))))
            go_wp2_with fail
            refine (HNB.out _).mono ?_
            rintro e w' ⟨rfl, rfl⟩
            go_wp2_with fail
            refine (len_has HU.out.g).mono ?_
            rintro e w' ⟨rfl, rfl⟩
            go_wp2_with fail
            go_meet
            exact ⟨F', rfl, rfl, rfl, HU.out⟩
          · go_wp2_with fail
            refine (HNB.out _).mono ?_
            rintro e w' ⟨rfl, rfl⟩
            go_wp2_with fail
            go_meet
            exact ⟨F', rfl, rfl, rfl, HU.out⟩
        · have hk0 : (kd == 2) = true := by assumption
          have he : gStep g kd A Bb C = gOr g A Bb := by simp only [beq_iff_eq] at hk0; simp [gStep, hk0]
          have hgi : gOr g A Bb = (g', r) := he.symm.trans HS.out
          have HI := Lib.hid (or_any _ bg F A Bb g R2.out.g (by omega) HL.out.1 HL.out.2.1 HX.out.2.1.kn HX.out.2.1.pos g' r hgi)
          clear he hgi
          refine HI.out.mono ?_
          rintro e w2 ⟨rfl, F', hG', hU⟩
          have HU := Lib.hid (R2.out.upd hG' hU)
          clear hG' hU
          go_wp2_with fail
          go_meet
          exact ⟨F', rfl, rfl, rfl, HU.out⟩
        · have hk0 : (kd == 3) = true := by assumption
          have he : gStep g kd A Bb C = gXor g A Bb := by simp only [beq_iff_eq] at hk0; simp [gStep, hk0]
          have hgi : gXor g A Bb = (g', r) := he.symm.trans HS.out
          have HI := Lib.hid (xor_any _ bg F A Bb g R2.out.g (by omega) HL.out.1 HL.out.2.1 HX.out.2.1.kn HX.out.2.1.pos g' r hgi)
          clear he hgi
          refine HI.out.mono ?_
          rintro e w2 ⟨rfl, F', hG', hU⟩
          have HU := Lib.hid (R2.out.upd hG' hU)
          clear hG' hU
          go_wp2_with fail
          go_meet
          exact ⟨F', rfl, rfl, rfl, HU.out⟩
        · have hk0 : (kd == 4) = true := by assumption
          have he : gStep g kd A Bb C = gMux g C A Bb := by simp only [beq_iff_eq] at hk0; simp [gStep, hk0]
          have hgi : gMux g C A Bb = (g', r) := he.symm.trans HS.out
          have HI := Lib.hid (mux_any _ bg F C A Bb g R2.out.g (by omega) HL.out.2.2 HL.out.1 HL.out.2.1 HX.out.2.1.kn HX.out.2.1.pos g' r hgi)
          clear he hgi
          refine HI.out.mono ?_
          rintro e w2 ⟨rfl, F', hG', hU⟩
          have HU := Lib.hid (R2.out.upd hG' hU)
          clear hG' hU
          go_wp2_with fail
          go_meet
          exact ⟨F', rfl, rfl, rfl, HU.out⟩
        · have he : gStep g kd A Bb C = (g, tnot A) := by
            have k0 : (kd == 0) = false := by assumption
            have k1 : (kd == 1) = false := by assumption
            have k2 : (kd == 2) = false := by assumption
            have k3 : (kd == 3) = false := by assumption
            have k4 : (kd == 4) = false := by assumption
            simp only [beq_eq_false_iff_ne, ne_eq] at k0 k1 k2 k3 k4
            simp [gStep, k0, k1, k2, k3, k4]
          obtain ⟨rfl, rfl⟩ : g = g' ∧ tnot A = r := by have := he.symm.trans HS.out; simpa using this
          have HI := Lib.hid (fun w => not_any A w HL.out.1.1 (by have := HL.out.1.2; omega))
          clear he
          refine (HI.out _).mono ?_
          rintro e w2 ⟨rfl, rfl⟩
          go_wp2_with fail
          go_meet
          exact ⟨F, rfl, rfl, rfl, R2.out⟩
      case rest =>
        obtain ⟨F', rfl, rfl, rfl, hcut⟩ := hcut
        have HU := Lib.hid hcut
        clear hcut
        have hgr := gStep_grows g kd A Bb C HL.out.1 HL.out.2.1 HL.out.2.2 HX.out.2.1.kn HX.out.2.1.pos
        rw [HS.out] at hgr
        obtain ⟨⟨hlo, hhi, hkn⟩, ⟨hr0, hr1⟩, hil⟩ := hgr
        have HG' := Lib.hid (And.intro hlo (And.intro hhi (And.intro hkn hil)))
        have hr2 : r / 2 < (g'.nodes.length : Int) := hr1
        have hg3 : (g'.nodes.length : Int) ≤ g.nodes.length + 3 := by simp only at hhi; omega
        have HLn := Lib.hid (len_has HU.out.g)
        have hrb : r < 100000 := by omega
        clear hlo hhi hkn hil hr1
        go_wp2_with fail
        refine HLn.out.mono ?_
        rintro e w' ⟨rfl, rfl⟩
        go_wp2_with fail
        refine HLn.out.mono ?_
        rintro e w' ⟨rfl, rfl⟩
        have hcv := HU.out.c.cell (i := 0) rfl
        have hcf := HU.out.c.frz 0
        have hvl : ∃ p c, vl = .slice p k c := ownsRow_form HU.out.l
        obtain ⟨pl, cl, rfl⟩ := hvl
        have HU1 := Lib.hid (HU.out.alloc (Obj.cells #[Value.int IntKind.i64 r] 3))
        have hbB : B ≤ wc.heap.size := Nat.le_trans HU.out.cB (Nat.le_of_lt HU.out.c.lt)
        go_wp2_with (at_builtin; go_must (refine wpList_app rfl _ _ 25 rfl Try.T25 B _ k _ rfl HU1.out.l _ 1 1 [_] rfl _ (new_at _ _ _ rfl) rfl rfl (by simp [Value.oneCell']) Nat.one_pos (by omega) (by omega) (by simp; omega) ?_); intro gk cap w3 happ; have e3 := happ.old HU1.out.c.lt (fun e => (HU1.out.fl _ e).2 rfl); have hc3 := (World.cell?_of_block (a := ⟨bc, 0, none⟩) e3).trans (HU1.out.c.cell (i := 0) rfl); have hf3 := (World.frozen?_of_block (a := ⟨bc, 0, none⟩) e3).trans (HU1.out.c.frz 0); have HP := Lib.hid happ; clear happ e3)
        go_roundw
        case rel =>
          refine ⟨k + 1, F', .slice (some ⟨gk, 0, none⟩) (k + 1) cap, hlt, by go_num, ?_⟩
          have hsn := HU1.out.snoc HP.out
          rw [HX.out.1, HS.out]
          exact hsn
        case measure => simp [intOf]; omega
    · obtain rfl : k = acts.length := by omega
      have hcv := HR.out.c.cell (i := 0) rfl
      clear hrel
      go_wp2_with fail
      go_quiet (fail)
      go_wp2_with fail
      go_ret3
      have hd := HR.out.drewN nq
      exact ⟨bg, F, vl, rfl, hd.g, hB ▸ hd.l, fun j hj => (hd.fl j hj).1, hB ▸ hd.fB, hB ▸ hd.b⟩
end Go.Proofs.Ytoccghbkfnalgaa
