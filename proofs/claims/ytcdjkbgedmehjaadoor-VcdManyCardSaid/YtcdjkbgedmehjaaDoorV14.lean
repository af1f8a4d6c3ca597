import Derived.Test.YtcdjkbgedmehjaaDoorV7
namespace Go.Proofs.YtcdjkbgedmehjaaDoor
set_option linter.unusedVariables false
open Go.RowKit Go.Sort

/-! # a text's words -/
def spaces : ByteArray := ⟨#[32, 9, 13, 10]⟩
theorem idx_blank (c : UInt8) : ∃ r : Int, Lib.indexByte spaces.data.toList c = r ∧ (r < 0 ↔ blankB c = false) := by
  refine ⟨_, rfl, ?_⟩
  show (Lib.indexByte [32, 9, 13, 10] c < 0 ↔ _)
  unfold blankB
  simp only [Lib.indexByte]
  by_cases h1 : (32 : UInt8) = c
  · subst h1; decide
  by_cases h2 : (9 : UInt8) = c
  · subst h2; decide
  by_cases h3 : (13 : UInt8) = c
  · subst h3; decide
  by_cases h4 : (10 : UInt8) = c
  · subst h4; decide
  have e1 : ((32 : UInt8) == c) = false := by simpa using h1
  have e2 : ((9 : UInt8) == c) = false := by simpa using h2
  have e3 : ((13 : UInt8) == c) = false := by simpa using h3
  have e4 : ((10 : UInt8) == c) = false := by simpa using h4
  have f1 : (c == 32) = false := by simpa using Ne.symm h1
  have f2 : (c == 9) = false := by simpa using Ne.symm h2
  have f3 : (c == 13) = false := by simpa using Ne.symm h3
  have f4 : (c == 10) = false := by simpa using Ne.symm h4
  simp [e1, e2, e3, e4, f1, f2, f3, f4]
theorem extract_word (l : Bs) (a i : Nat) : (bstr l).extract a i = bstr ((l.drop a).take (i - a)) := by
  apply ByteArray.ext
  rw [ByteArray.data_extract]
  simp [bstr, List.extract_eq_take_drop]
theorem tok_blk {w : World} (X : ByteArray) (y : Nat) : RO (w.alloc (.cells #[.string X, .int .i64 y] 79)) (.slice (some ⟨w.heap.size, 0, none⟩) 1 1) 2 1 [.string X, .int .i64 y] :=
  RO.own ((Blk.new (w := w) 79 [.string X, .int .i64 y]).own (n := 1) (size := 2) rfl (by decide) 0 (Nat.zero_le _))
structure SplS (base : Nat) (W wr : World) (ov : Value) (t : Spl) : Prop where
  own : wr.ownsRow base 79 2 ov t.out.length (tokCells t.out)
  bel : Below base W wr
set_option maxRecDepth 100000 in
set_option maxHeartbeats 8000000 in
theorem split_any (l : Bs) (hl : (l.length : Int) ≤ 2000000) (w : World) :
    Calls Tryd.prog 21 #[.string (bstr l)] w fun e w' => ∃ tv, e = .returned (.tuple #[tv, .int .i64 (spTo l (l.length + 1)).last]) ∧ w'.ownsRow w.heap.size 79 2 tv (spTo l (l.length + 1)).out.length (tokCells (spTo l (l.length + 1)).out) ∧ Below w.heap.size w w' := by
  obtain ⟨X, hX⟩ : ∃ X, bstr l = X := ⟨_, rfl⟩
  have hsz : X.size = l.length := by rw [← hX]; show l.toArray.size = _; simp
  have hat : ∀ k (hk : k < X.size), X[k] = l.getD k 0 := by
    intro k hk
    subst hX
    have hk' : k < l.length := by omega
    show l.toArray[k]'(by simpa using hk') = _
    simp [List.getD, List.getElem?_eq_getElem hk']
  have hex : ∀ a i, X.extract a i = bstr ((l.drop a).take (i - a)) := fun a i => by rw [← hX]; exact extract_word l a i
  have HH := Lib.hid (And.intro hsz (And.intro hat hex))
  have hxi : (X.size : Int) ≤ 2000000 := by omega
  have HI : Hid (∀ (c : UInt8) w', Calls Tryd.prog 40 #[.string ⟨#[32, 9, 13, 10]⟩, .int .u8 (c.toNat : Nat)] w' fun e w'' => ∃ r : Int, e = .returned (.int .i64 r) ∧ (r < 0 ↔ blankB c = false) ∧ w'' = w') := Lib.hid fun c w' => by
    refine (Tryd.strings_IndexByte ⟨#[32, 9, 13, 10]⟩ (c.toNat : Nat) w').mono fun e w'' h => ?_
    obtain ⟨r, hr, hb⟩ := idx_blank c
    refine ⟨r, ?_, hb, h.2⟩
    rw [h.1, show ((c.toNat : Nat) : Int).toNat.toUInt8 = c by simp, ← hr]
    rfl
  rw [hX]
  clear hX hsz hat hex hl
  go_enter Tryd.func21, Tryd.ntmps21
  go_wp2_with fail
  go_loopw [4, 5, 6, 7, 8] (fun ov Lv La fv iv wr => ∃ i : Nat, i ≤ X.size + 1 ∧ iv = .int .i64 i ∧ Lv = .int .i64 (spTo l i).line ∧ La = .int .i64 (spTo l i).last ∧ fv = .int .i64 (spTo l i).frm ∧ SplS w.heap.size w wr ov (spTo l i)) (fun _ _ _ _ iv _ => X.size + 1 - (intOf iv).toNat)
  case atStart => exact ⟨0, Nat.zero_le _, rfl, rfl, rfl, rfl, World.ownsRow_nil _ _ _ _, Below.refl _ _⟩
  case round =>
    obtain ⟨i, hi, rfl, rfl, rfl, rfl, hs⟩ := hrel
    obtain ⟨po, co, rfl⟩ := ownsRow_form hs.own
    have HS := Lib.hid hs
    have hln := spTo_line l i
    have hfr := spTo_frm l i
    have hou := spTo_out l i
    clear hs
    obtain ⟨t, ht⟩ : ∃ t, spTo l i = t := ⟨_, rfl⟩
    rw [ht] at HS hln hfr hou ⊢
    by_cases hlt : i ≤ X.size
    · have hiw : IntKind.i64.wrap ((i : Int) + 1) = (i : Int) + 1 := i64_of (by omega)
      have hlw : IntKind.i64.wrap ((t.line : Int) + 1) = (t.line : Int) + 1 := i64_of (by omega)
      have hstep : spTo l (i + 1) = t.step l i := by rw [← ht]; rfl
      have HT := Lib.hid (And.intro hstep hlt)
      by_cases hli : i < X.size
      · have hat := HH.out.2.1 i hli
        have hll : i < l.length := by rw [← HH.out.1]; exact hli
        obtain ⟨c, hc⟩ : ∃ c, l.getD i 0 = c := ⟨_, rfl⟩
        rw [hc] at hat
        have HIc := Lib.hid (HI.out c wr)
        by_cases hb : blankB c = false
        · have hst : t.step l i = { t with last := t.line } := by unfold Spl.step; rw [if_pos ⟨hll, by rw [hc]; exact hb⟩]
          have HX := Lib.hid (And.intro hb hst)
          clear hb hst hc hll hstep ht hln hou hi
          go_wp2_with fail
          refine HIc.out.mono ?_; rintro e w2 ⟨r, rfl, hr, rfl⟩
          have hr0 : r < 0 := hr.2 HX.out.1
          clear hr HIc
          go_wp2_with fail
          go_roundw
          case rel => exact ⟨i + 1, by omega, by go_num, by rw [HT.out.1, HX.out.2], by rw [HT.out.1, HX.out.2], by rw [HT.out.1, HX.out.2], by rw [HT.out.1, HX.out.2]; exact ⟨HS.out.own, HS.out.bel⟩⟩
          case measure => simp [intOf]; omega
        · replace hb : blankB c = true := by simpa using hb
          have HBl := Lib.hid hb
          by_cases hfi : t.frm < i
          · by_cases h10 : c = 10
            · have hst : t.step l i = { frm := i + 1, line := t.line + 1, last := t.line, out := t.out ++ [((l.drop t.frm).take (i - t.frm), t.line)] } := by
                unfold Spl.step
                rw [if_neg (by rw [hc, hb]; simp), if_pos ⟨hll, by rw [hc]; exact h10⟩, if_pos hll, if_pos hfi]
              have HX := Lib.hid (And.intro True.intro hst)
              have hfi0 : (0 : Int) ≤ t.frm := by omega
              have hfi1 : (t.frm : Int) ≤ i := by omega
              have hfi2 : (i : Int) ≤ X.size := by omega
              have hfi3 : (t.frm : Int) < i := by omega
              have hou2 : (t.out.length : Int) ≤ 2000001 := by omega
              have hsb : X.extract t.frm i = bstr ((l.drop t.frm).take (i - t.frm)) := HH.out.2.2 t.frm i
              have hbx := Below.new wr (.cells #[.string (bstr ((l.drop t.frm).take (i - t.frm))), .int .i64 t.line] 79)
              have HA := Lib.hid (And.intro (ownsRow_below HS.out.own hbx) (And.intro (tok_blk (w := wr) (bstr ((l.drop t.frm).take (i - t.frm))) t.line) (Nat.le_trans HS.out.bel.size hbx.size)))
              have HBx := Lib.hid hbx
              have h10c : c.toNat = 10 := by rw [h10]; rfl
              rw [h10c] at HIc
              clear hst hb hc hll h10 hstep ht hln hou hi hfi hbx
              go_wp2_with fail
              refine HIc.out.mono ?_; rintro e w2 ⟨r, rfl, hr, rfl⟩
              have hr0 : ¬ r < 0 := fun h => by have := hr.1 h; rw [HBl.out] at this; cases this
              clear hr HIc
              go_wp2_with (at_builtin; refine wpList_appR rfl _ _ 61 rfl TToks w.heap.size (.slice po t.out.length co) t.out.length _ rfl HA.out.1 _ 1 _ rfl HA.out.2.1 (by simp [Value.oneCell']) (by omega) (by omega) HA.out.2.2 ?_; intro v4 w4 happ; obtain ⟨p4, c4, ev4⟩ := ownsRow_form happ.own; subst ev4; have HP := Lib.hid happ; clear happ)
              have hbel4 := HP.out.below (HS.out.bel.trans (HBx.out.mono HS.out.bel.size)) HA.out.2.2 (fun k hk => (own_lt HA.out.1 k hk).1)
              have hown4 : w4.ownsRow w.heap.size 79 2 (.slice p4 (t.out.length + 1) c4) (t.out ++ [((l.drop t.frm).take (i - t.frm), t.line)]).length (tokCells (t.out ++ [((l.drop t.frm).take (i - t.frm), t.line)])) := by
                rw [← tokCells_snoc, List.length_append]; exact HP.out.own
              have H4 := Lib.hid (And.intro hown4 hbel4)
              clear hbel4 hown4 HP
              go_roundw
              case rel => exact ⟨i + 1, by have := HT.out.2; omega, by go_num, by rw [HT.out.1, HX.out.2]; go_num, by rw [HT.out.1, HX.out.2], by rw [HT.out.1, HX.out.2]; go_num, by rw [HT.out.1, HX.out.2]; exact ⟨H4.out.1, H4.out.2⟩⟩
              case measure => have := HT.out.2; simp [intOf]; omega
            · have hst : t.step l i = { frm := i + 1, line := t.line, last := t.line, out := t.out ++ [((l.drop t.frm).take (i - t.frm), t.line)] } := by
                unfold Spl.step
                rw [if_neg (by rw [hc, hb]; simp), if_neg (fun h => h10 (by rw [← hc]; exact h.2)), if_pos hll, if_pos hfi]
              have HX := Lib.hid (And.intro True.intro hst)
              have hfi0 : (0 : Int) ≤ t.frm := by omega
              have hfi1 : (t.frm : Int) ≤ i := by omega
              have hfi2 : (i : Int) ≤ X.size := by omega
              have hfi3 : (t.frm : Int) < i := by omega
              have hou2 : (t.out.length : Int) ≤ 2000001 := by omega
              have hsb : X.extract t.frm i = bstr ((l.drop t.frm).take (i - t.frm)) := HH.out.2.2 t.frm i
              have hbx := Below.new wr (.cells #[.string (bstr ((l.drop t.frm).take (i - t.frm))), .int .i64 t.line] 79)
              have HA := Lib.hid (And.intro (ownsRow_below HS.out.own hbx) (And.intro (tok_blk (w := wr) (bstr ((l.drop t.frm).take (i - t.frm))) t.line) (Nat.le_trans HS.out.bel.size hbx.size)))
              have HBx := Lib.hid hbx
              have h10c : ¬ c.toNat = 10 := fun h => h10 (UInt8.toNat_inj.1 h)
              clear hst hb hc hll h10 hstep ht hln hou hi hfi hbx
              go_wp2_with fail
              refine HIc.out.mono ?_; rintro e w2 ⟨r, rfl, hr, rfl⟩
              have hr0 : ¬ r < 0 := fun h => by have := hr.1 h; rw [HBl.out] at this; cases this
              clear hr HIc
              go_wp2_with (at_builtin; refine wpList_appR rfl _ _ 61 rfl TToks w.heap.size (.slice po t.out.length co) t.out.length _ rfl HA.out.1 _ 1 _ rfl HA.out.2.1 (by simp [Value.oneCell']) (by omega) (by omega) HA.out.2.2 ?_; intro v4 w4 happ; obtain ⟨p4, c4, ev4⟩ := ownsRow_form happ.own; subst ev4; have HP := Lib.hid happ; clear happ)
              have hbel4 := HP.out.below (HS.out.bel.trans (HBx.out.mono HS.out.bel.size)) HA.out.2.2 (fun k hk => (own_lt HA.out.1 k hk).1)
              have hown4 : w4.ownsRow w.heap.size 79 2 (.slice p4 (t.out.length + 1) c4) (t.out ++ [((l.drop t.frm).take (i - t.frm), t.line)]).length (tokCells (t.out ++ [((l.drop t.frm).take (i - t.frm), t.line)])) := by
                rw [← tokCells_snoc, List.length_append]; exact HP.out.own
              have H4 := Lib.hid (And.intro hown4 hbel4)
              clear hbel4 hown4 HP
              go_roundw
              case rel => exact ⟨i + 1, by have := HT.out.2; omega, by go_num, by rw [HT.out.1, HX.out.2], by rw [HT.out.1, HX.out.2], by rw [HT.out.1, HX.out.2]; go_num, by rw [HT.out.1, HX.out.2]; exact ⟨H4.out.1, H4.out.2⟩⟩
              case measure => have := HT.out.2; simp [intOf]; omega
          · by_cases h10 : c = 10
            · have hst : t.step l i = { frm := i + 1, line := t.line + 1, last := t.line, out := t.out } := by
                unfold Spl.step
                rw [if_neg (by rw [hc, hb]; simp), if_pos ⟨hll, by rw [hc]; exact h10⟩, if_pos hll, if_neg hfi]
              have HX := Lib.hid (And.intro True.intro hst)
              have hfi3 : (i : Int) ≤ t.frm := by omega
              have hfi4 : t.frm = i := by omega
              have h10c : c.toNat = 10 := by rw [h10]; rfl
              rw [h10c] at HIc
              clear hst hb hc hll h10 hstep ht hln hou hi hfi 
              go_wp2_with fail
              refine HIc.out.mono ?_; rintro e w2 ⟨r, rfl, hr, rfl⟩
              have hr0 : ¬ r < 0 := fun h => by have := hr.1 h; rw [HBl.out] at this; cases this
              clear hr HIc
              go_wp2_with fail
              go_roundw
              case rel => exact ⟨i + 1, by have := HT.out.2; omega, by go_num, by rw [HT.out.1, HX.out.2]; go_num, by rw [HT.out.1, HX.out.2], by rw [HT.out.1, HX.out.2]; go_num, by rw [HT.out.1, HX.out.2]; exact ⟨HS.out.own, HS.out.bel⟩⟩
              case measure => have := HT.out.2; simp [intOf]; omega
            · have hst : t.step l i = { frm := i + 1, line := t.line, last := t.line, out := t.out } := by
                unfold Spl.step
                rw [if_neg (by rw [hc, hb]; simp), if_neg (fun h => h10 (by rw [← hc]; exact h.2)), if_pos hll, if_neg hfi]
              have HX := Lib.hid (And.intro True.intro hst)
              have hfi3 : (i : Int) ≤ t.frm := by omega
              have hfi4 : t.frm = i := by omega
              have h10c : ¬ c.toNat = 10 := fun h => h10 (UInt8.toNat_inj.1 h)
              clear hst hb hc hll h10 hstep ht hln hou hi hfi 
              go_wp2_with fail
              refine HIc.out.mono ?_; rintro e w2 ⟨r, rfl, hr, rfl⟩
              have hr0 : ¬ r < 0 := fun h => by have := hr.1 h; rw [HBl.out] at this; cases this
              clear hr HIc
              go_wp2_with fail
              go_roundw
              case rel => exact ⟨i + 1, by have := HT.out.2; omega, by go_num, by rw [HT.out.1, HX.out.2], by rw [HT.out.1, HX.out.2], by rw [HT.out.1, HX.out.2]; go_num, by rw [HT.out.1, HX.out.2]; exact ⟨HS.out.own, HS.out.bel⟩⟩
              case measure => have := HT.out.2; simp [intOf]; omega
      · have hll : ¬ i < l.length := by rw [← HH.out.1]; exact hli
        by_cases hfi : t.frm < i
        · have hst : t.step l i = { frm := i + 1, line := t.line, last := t.last, out := t.out ++ [((l.drop t.frm).take (i - t.frm), t.line)] } := by
            unfold Spl.step
            rw [if_neg (fun h => hll h.1), if_neg (fun h => hll h.1), if_neg hll, if_pos hfi]
          have HX := Lib.hid (And.intro True.intro hst)
          have hfi0 : (0 : Int) ≤ t.frm := by omega
          have hfi1 : (t.frm : Int) ≤ i := by omega
          have hfi2 : (i : Int) ≤ X.size := by omega
          have hfi3 : (t.frm : Int) < i := by omega
          have hou2 : (t.out.length : Int) ≤ 2000001 := by omega
          have hsb : X.extract t.frm i = bstr ((l.drop t.frm).take (i - t.frm)) := HH.out.2.2 t.frm i
          have hbx := Below.new wr (.cells #[.string (bstr ((l.drop t.frm).take (i - t.frm))), .int .i64 t.line] 79)
          have HA := Lib.hid (And.intro (ownsRow_below HS.out.own hbx) (And.intro (tok_blk (w := wr) (bstr ((l.drop t.frm).take (i - t.frm))) t.line) (Nat.le_trans HS.out.bel.size hbx.size)))
          have HBx := Lib.hid hbx
          clear hst hll hstep ht hln hou hi hfi hbx
          go_wp2_with (at_builtin; refine wpList_appR rfl _ _ 61 rfl TToks w.heap.size (.slice po t.out.length co) t.out.length _ rfl HA.out.1 _ 1 _ rfl HA.out.2.1 (by simp [Value.oneCell']) (by omega) (by omega) HA.out.2.2 ?_; intro v4 w4 happ; obtain ⟨p4, c4, ev4⟩ := ownsRow_form happ.own; subst ev4; have HP := Lib.hid happ; clear happ)
          have hbel4 := HP.out.below (HS.out.bel.trans (HBx.out.mono HS.out.bel.size)) HA.out.2.2 (fun k hk => (own_lt HA.out.1 k hk).1)
          have hown4 : w4.ownsRow w.heap.size 79 2 (.slice p4 (t.out.length + 1) c4) (t.out ++ [((l.drop t.frm).take (i - t.frm), t.line)]).length (tokCells (t.out ++ [((l.drop t.frm).take (i - t.frm), t.line)])) := by
            rw [← tokCells_snoc, List.length_append]; exact HP.out.own
          have H4 := Lib.hid (And.intro hown4 hbel4)
          clear hbel4 hown4 HP
          go_roundw
          case rel => exact ⟨i + 1, by have := HT.out.2; omega, by go_num, by rw [HT.out.1, HX.out.2], by rw [HT.out.1, HX.out.2], by rw [HT.out.1, HX.out.2]; go_num, by rw [HT.out.1, HX.out.2]; exact ⟨H4.out.1, H4.out.2⟩⟩
          case measure => have := HT.out.2; simp [intOf]; omega
        · have hst : t.step l i = { frm := i + 1, line := t.line, last := t.last, out := t.out } := by
            unfold Spl.step
            rw [if_neg (fun h => hll h.1), if_neg (fun h => hll h.1), if_neg hll, if_neg hfi]
          have HX := Lib.hid (And.intro True.intro hst)
          have hfi3 : (i : Int) ≤ t.frm := by omega
          have hfi4 : t.frm = i := by omega
          clear hst hll hstep ht hln hou hi hfi 
          go_wp2_with fail
          go_roundw
          case rel => exact ⟨i + 1, by have := HT.out.2; omega, by go_num, by rw [HT.out.1, HX.out.2], by rw [HT.out.1, HX.out.2], by rw [HT.out.1, HX.out.2]; go_num, by rw [HT.out.1, HX.out.2]; exact ⟨HS.out.own, HS.out.bel⟩⟩
          case measure => have := HT.out.2; simp [intOf]; omega
    · obtain rfl : i = X.size + 1 := by omega
      have hii : ¬ ((X.size + 1 : Nat) : Int) ≤ X.size := by omega
      obtain ⟨k, hk⟩ : ∃ k, X.size + 1 = k := ⟨_, rfl⟩
      rw [hk] at hii ht ⊢
      have hkl : l.length + 1 = k := by have := HH.out.1; omega
      have HT := Lib.hid (And.intro ht hkl)
      clear hlt hi hk ht hln hfr hou hkl
      go_wp2_with fail
      go_ret2
      refine ⟨.slice po t.out.length co, ?_, ?_, HS.out.bel⟩
      · rw [HT.out.2, HT.out.1]; rfl
      · rw [HT.out.2, HT.out.1]; exact HS.out.own
end Go.Proofs.YtcdjkbgedmehjaaDoor
