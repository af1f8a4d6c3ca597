/- Texts of this claim, one behind another: V14, V15, V16. They state lemmas; each names its own conditions. -/
import Derived.Test.YtcdjkbgedmehjaaGreatDoorZD
import Derived.Test.YtcdjkbgedmehjaaGreatDoorZG
import Derived.Test.YtcdjkbgedmehjaaGreatDoorZA
namespace Go.Proofs.YtcdjkbgedmehjaaGreatDoor
set_option linter.unusedVariables false
open Go.RowKit Go.Sort

/-! # a text's words -/
def spaces : ByteArray := ⟨#[32, 9, 13, 10]⟩
theorem idx_blank (c : UInt8) : ∃ r : Int, Lib.indexByte spaces.data.toList c = r ∧ (r < 0 ↔ blankB c = false) := by
  refine ⟨_, rfl, ?_⟩
  show (Lib.indexByte [32, 9, 13, 10] c < 0 ↔ _)
  unfold blankB
  simp only [Lib.indexByte]
  by_cases h1 : (32 : UInt8) = c
  · subst h1; decide
  by_cases h2 : (9 : UInt8) = c
  · subst h2; decide
  by_cases h3 : (13 : UInt8) = c
  · subst h3; decide
  by_cases h4 : (10 : UInt8) = c
  · subst h4; decide
  have e1 : ((32 : UInt8) == c) = false := by simpa using h1
  have e2 : ((9 : UInt8) == c) = false := by simpa using h2
  have e3 : ((13 : UInt8) == c) = false := by simpa using h3
  have e4 : ((10 : UInt8) == c) = false := by simpa using h4
  have f1 : (c == 32) = false := by simpa using Ne.symm h1
  have f2 : (c == 9) = false := by simpa using Ne.symm h2
  have f3 : (c == 13) = false := by simpa using Ne.symm h3
  have f4 : (c == 10) = false := by simpa using Ne.symm h4
  simp [e1, e2, e3, e4, f1, f2, f3, f4]
theorem extract_word (l : Bs) (a i : Nat) : (bstr l).extract a i = bstr ((l.drop a).take (i - a)) := by
  apply ByteArray.ext
  rw [ByteArray.data_extract]
  simp [bstr, List.extract_eq_take_drop]
theorem tok_blk {w : World} (X : ByteArray) (y : Nat) : RO (w.alloc (.cells #[.string X, .int .i64 y] 97)) (.slice (some ⟨w.heap.size, 0, none⟩) 1 1) 2 1 [.string X, .int .i64 y] :=
  RO.own ((Blk.new (w := w) 97 [.string X, .int .i64 y]).own (n := 1) (size := 2) rfl (by decide) 0 (Nat.zero_le _))
structure SplS (base : Nat) (W wr : World) (ov : Value) (t : Spl) : Prop where
  own : wr.ownsRow base 97 2 ov t.out.length (tokCells t.out)
  bel : Below base W wr
set_option maxRecDepth 100000 in
set_option maxHeartbeats 8000000 in
theorem split_any (l : Bs) (hl : (l.length : Int) ≤ 2000000) (w : World) :
    Calls Tryz.prog 34 #[.string (bstr l)] w fun e w' => ∃ tv, e = .returned (.tuple #[tv, .int .i64 (spTo l (l.length + 1)).last]) ∧ w'.ownsRow w.heap.size 97 2 tv (spTo l (l.length + 1)).out.length (tokCells (spTo l (l.length + 1)).out) ∧ Below w.heap.size w w' := by
  obtain ⟨X, hX⟩ : ∃ X, bstr l = X := ⟨_, rfl⟩
  have hsz : X.size = l.length := by rw [← hX]; show l.toArray.size = _; simp
  have hat : ∀ k (hk : k < X.size), X[k] = l.getD k 0 := by
    intro k hk
    subst hX
    have hk' : k < l.length := by omega
    show l.toArray[k]'(by simpa using hk') = _
    simp [List.getD, List.getElem?_eq_getElem hk']
  have hex : ∀ a i, X.extract a i = bstr ((l.drop a).take (i - a)) := fun a i => by rw [← hX]; exact extract_word l a i
  have HH := Lib.hid (And.intro hsz (And.intro hat hex))
  have hxi : (X.size : Int) ≤ 2000000 := by omega
  have HI : Hid (∀ (c : UInt8) w', Calls Tryz.prog 56 #[.string ⟨#[32, 9, 13, 10]⟩, .int .u8 (c.toNat : Nat)] w' fun e w'' => ∃ r : Int, e = .returned (.int .i64 r) ∧ (r < 0 ↔ blankB c = false) ∧ w'' = w') := Lib.hid fun c w' => by
    refine (Tryz.strings_IndexByte ⟨#[32, 9, 13, 10]⟩ (c.toNat : Nat) w').mono fun e w'' h => ?_
    obtain ⟨r, hr, hb⟩ := idx_blank c
    refine ⟨r, ?_, hb, h.2⟩
    rw [h.1, show ((c.toNat : Nat) : Int).toNat.toUInt8 = c by simp, ← hr]
    rfl
  rw [hX]
  clear hX hsz hat hex hl
  go_enter Tryz.func34, Tryz.ntmps34
  go_wp2_with fail
  go_loopw [4, 5, 6, 7, 8] (fun ov Lv La fv iv wr => ∃ i : Nat, i ≤ X.size + 1 ∧ iv = .int .i64 i ∧ Lv = .int .i64 (spTo l i).line ∧ La = .int .i64 (spTo l i).last ∧ fv = .int .i64 (spTo l i).frm ∧ SplS w.heap.size w wr ov (spTo l i)) (fun _ _ _ _ iv _ => X.size + 1 - (intOf iv).toNat)
  case atStart => exact ⟨0, Nat.zero_le _, rfl, rfl, rfl, rfl, World.ownsRow_nil _ _ _ _, Below.refl _ _⟩
  case round =>
    obtain ⟨i, hi, rfl, rfl, rfl, rfl, hs⟩ := hrel
    obtain ⟨po, co, rfl⟩ := ownsRow_form hs.own
    have HS := Lib.hid hs
    have hln := spTo_line l i
    have hfr := spTo_frm l i
    have hou := spTo_out l i
    clear hs
    obtain ⟨t, ht⟩ : ∃ t, spTo l i = t := ⟨_, rfl⟩
    rw [ht] at HS hln hfr hou ⊢
    by_cases hlt : i ≤ X.size
    · have hiw : IntKind.i64.wrap ((i : Int) + 1) = (i : Int) + 1 := i64_of (by omega)
      have hlw : IntKind.i64.wrap ((t.line : Int) + 1) = (t.line : Int) + 1 := i64_of (by omega)
      have hstep : spTo l (i + 1) = t.step l i := by rw [← ht]; rfl
      have HT := Lib.hid (And.intro hstep hlt)
      by_cases hli : i < X.size
      · have hat := HH.out.2.1 i hli
        have hll : i < l.length := by rw [← HH.out.1]; exact hli
        obtain ⟨c, hc⟩ : ∃ c, l.getD i 0 = c := ⟨_, rfl⟩
        rw [hc] at hat
        have HIc := Lib.hid (HI.out c wr)
        by_cases hb : blankB c = false
        · have hst : t.step l i = { t with last := t.line } := by unfold Spl.step; rw [if_pos ⟨hll, by rw [hc]; exact hb⟩]
          have HX := Lib.hid (And.intro hb hst)
          clear hb hst hc hll hstep ht hln hou hi
          go_wp2_with fail
          refine HIc.out.mono ?_; rintro e w2 ⟨r, rfl, hr, rfl⟩
          have hr0 : r < 0 := hr.2 HX.out.1
          clear hr HIc
          go_wp2_with fail
          go_roundw
          case rel => exact ⟨i + 1, by omega, by go_num, by rw [HT.out.1, HX.out.2], by rw [HT.out.1, HX.out.2], by rw [HT.out.1, HX.out.2], by rw [HT.out.1, HX.out.2]; exact ⟨HS.out.own, HS.out.bel⟩⟩
          case measure => simp [intOf]; omega
        · replace hb : blankB c = true := by simpa using hb
          have HBl := Lib.hid hb
          by_cases hfi : t.frm < i
          · by_cases h10 : c = 10
            · have hst : t.step l i = { frm := i + 1, line := t.line + 1, last := t.line, out := t.out ++ [((l.drop t.frm).take (i - t.frm), t.line)] } := by
                unfold Spl.step
                rw [if_neg (by rw [hc, hb]; simp), if_pos ⟨hll, by rw [hc]; exact h10⟩, if_pos hll, if_pos hfi]
              have HX := Lib.hid (And.intro True.intro hst)
              have hfi0 : (0 : Int) ≤ t.frm := by omega
              have hfi1 : (t.frm : Int) ≤ i := by omega
              have hfi2 : (i : Int) ≤ X.size := by omega
              have hfi3 : (t.frm : Int) < i := by omega
              have hou2 : (t.out.length : Int) ≤ 2000001 := by omega
              have hsb : X.extract t.frm i = bstr ((l.drop t.frm).take (i - t.frm)) := HH.out.2.2 t.frm i
              have hbx := Below.new wr (.cells #[.string (bstr ((l.drop t.frm).take (i - t.frm))), .int .i64 t.line] 97)
              have HA := Lib.hid (And.intro (ownsRow_below HS.out.own hbx) (And.intro (tok_blk (w := wr) (bstr ((l.drop t.frm).take (i - t.frm))) t.line) (Nat.le_trans HS.out.bel.size hbx.size)))
              have HBx := Lib.hid hbx
              have h10c : c.toNat = 10 := by rw [h10]; rfl
              rw [h10c] at HIc
              clear hst hb hc hll h10 hstep ht hln hou hi hfi hbx
              go_wp2_with fail
              refine HIc.out.mono ?_; rintro e w2 ⟨r, rfl, hr, rfl⟩
              have hr0 : ¬ r < 0 := fun h => by have := hr.1 h; rw [HBl.out] at this; cases this
              clear hr HIc
              go_wp2_with (at_builtin; refine wpList_appR rfl _ _ 80 rfl TToks w.heap.size (.slice po t.out.length co) t.out.length _ rfl HA.out.1 _ 1 _ rfl HA.out.2.1 (by simp [Value.oneCell']) (by omega) (by omega) HA.out.2.2 ?_; intro v4 w4 happ; obtain ⟨p4, c4, ev4⟩ := ownsRow_form happ.own; subst ev4; have HP := Lib.hid happ; clear happ)
              have hbel4 := HP.out.below (HS.out.bel.trans (HBx.out.mono HS.out.bel.size)) HA.out.2.2 (fun k hk => (own_lt HA.out.1 k hk).1)
              have hown4 : w4.ownsRow w.heap.size 97 2 (.slice p4 (t.out.length + 1) c4) (t.out ++ [((l.drop t.frm).take (i - t.frm), t.line)]).length (tokCells (t.out ++ [((l.drop t.frm).take (i - t.frm), t.line)])) := by
                rw [← tokCells_snoc, List.length_append]; exact HP.out.own
              have H4 := Lib.hid (And.intro hown4 hbel4)
              clear hbel4 hown4 HP
              go_roundw
              case rel => exact ⟨i + 1, by have := HT.out.2; omega, by go_num, by rw [HT.out.1, HX.out.2]; go_num, by rw [HT.out.1, HX.out.2], by rw [HT.out.1, HX.out.2]; go_num, by rw [HT.out.1, HX.out.2]; exact ⟨H4.out.1, H4.out.2⟩⟩
              case measure => have := HT.out.2; simp [intOf]; omega
            · have hst : t.step l i = { frm := i + 1, line := t.line, last := t.line, out := t.out ++ [((l.drop t.frm).take (i - t.frm), t.line)] } := by
                unfold Spl.step
                rw [if_neg (by rw [hc, hb]; simp), if_neg (fun h => h10 (by rw [← hc]; exact h.2)), if_pos hll, if_pos hfi]
              have HX := Lib.hid (And.intro True.intro hst)
              have hfi0 : (0 : Int) ≤ t.frm := by omega
              have hfi1 : (t.frm : Int) ≤ i := by omega
              have hfi2 : (i : Int) ≤ X.size := by omega
              have hfi3 : (t.frm : Int) < i := by omega
              have hou2 : (t.out.length : Int) ≤ 2000001 := by omega
              have hsb : X.extract t.frm i = bstr ((l.drop t.frm).take (i - t.frm)) := HH.out.2.2 t.frm i
              have hbx := Below.new wr (.cells #[.string (bstr ((l.drop t.frm).take (i - t.frm))), .int .i64 t.line] 97)
              have HA := Lib.hid (And.intro (ownsRow_below HS.out.own hbx) (And.intro (tok_blk (w := wr) (bstr ((l.drop t.frm).take (i - t.frm))) t.line) (Nat.le_trans HS.out.bel.size hbx.size)))
              have HBx := Lib.hid hbx
              have h10c : ¬ c.toNat = 10 := fun h => h10 (UInt8.toNat_inj.1 h)
              clear hst hb hc hll h10 hstep ht hln hou hi hfi hbx
              go_wp2_with fail
              refine HIc.out.mono ?_; rintro e w2 ⟨r, rfl, hr, rfl⟩
              have hr0 : ¬ r < 0 := fun h => by have := hr.1 h; rw [HBl.out] at this; cases this
              clear hr HIc
              go_wp2_with (at_builtin; refine wpList_appR rfl _ _ 80 rfl TToks w.heap.size (.slice po t.out.length co) t.out.length _ rfl HA.out.1 _ 1 _ rfl HA.out.2.1 (by simp [Value.oneCell']) (by omega) (by omega) HA.out.2.2 ?_; intro v4 w4 happ; obtain ⟨p4, c4, ev4⟩ := ownsRow_form happ.own; subst ev4; have HP := Lib.hid happ; clear happ)
              have hbel4 := HP.out.below (HS.out.bel.trans (HBx.out.mono HS.out.bel.size)) HA.out.2.2 (fun k hk => (own_lt HA.out.1 k hk).1)
              have hown4 : w4.ownsRow w.heap.size 97 2 (.slice p4 (t.out.length + 1) c4) (t.out ++ [((l.drop t.frm).take (i - t.frm), t.line)]).length (tokCells (t.out ++ [((l.drop t.frm).take (i - t.frm), t.line)])) := by
                rw [← tokCells_snoc, List.length_append]; exact HP.out.own
              have H4 := Lib.hid (And.intro hown4 hbel4)
              clear hbel4 hown4 HP
              go_roundw
              case rel => exact ⟨i + 1, by have := HT.out.2; omega, by go_num, by rw [HT.out.1, HX.out.2], by rw [HT.out.1, HX.out.2], by rw [HT.out.1, HX.out.2]; go_num, by rw [HT.out.1, HX.out.2]; exact ⟨H4.out.1, H4.out.2⟩⟩
              case measure => have := HT.out.2; simp [intOf]; omega
          · by_cases h10 : c = 10
            · have hst : t.step l i = { frm := i + 1, line := t.line + 1, last := t.line, out := t.out } := by
                unfold Spl.step
                rw [if_neg (by rw [hc, hb]; simp), if_pos ⟨hll, by rw [hc]; exact h10⟩, if_pos hll, if_neg hfi]
              have HX := Lib.hid (And.intro True.intro hst)
              have hfi3 : (i : Int) ≤ t.frm := by omega
              have hfi4 : t.frm = i := by omega
              have h10c : c.toNat = 10 := by rw [h10]; rfl
              rw [h10c] at HIc
              clear hst hb hc hll h10 hstep ht hln hou hi hfi 
              go_wp2_with fail
              refine HIc.out.mono ?_; rintro e w2 ⟨r, rfl, hr, rfl⟩
              have hr0 : ¬ r < 0 := fun h => by have := hr.1 h; rw [HBl.out] at this; cases this
              clear hr HIc
              go_wp2_with fail
              go_roundw
              case rel => exact ⟨i + 1, by have := HT.out.2; omega, by go_num, by rw [HT.out.1, HX.out.2]; go_num, by rw [HT.out.1, HX.out.2], by rw [HT.out.1, HX.out.2]; go_num, by rw [HT.out.1, HX.out.2]; exact ⟨HS.out.own, HS.out.bel⟩⟩
              case measure => have := HT.out.2; simp [intOf]; omega
            · have hst : t.step l i = { frm := i + 1, line := t.line, last := t.line, out := t.out } := by
                unfold Spl.step
                rw [if_neg (by rw [hc, hb]; simp), if_neg (fun h => h10 (by rw [← hc]; exact h.2)), if_pos hll, if_neg hfi]
              have HX := Lib.hid (And.intro True.intro hst)
              have hfi3 : (i : Int) ≤ t.frm := by omega
              have hfi4 : t.frm = i := by omega
              have h10c : ¬ c.toNat = 10 := fun h => h10 (UInt8.toNat_inj.1 h)
              clear hst hb hc hll h10 hstep ht hln hou hi hfi 
              go_wp2_with fail
              refine HIc.out.mono ?_; rintro e w2 ⟨r, rfl, hr, rfl⟩
              have hr0 : ¬ r < 0 := fun h => by have := hr.1 h; rw [HBl.out] at this; cases this
              clear hr HIc
              go_wp2_with fail
              go_roundw
              case rel => exact ⟨i + 1, by have := HT.out.2; omega, by go_num, by rw [HT.out.1, HX.out.2], by rw [HT.out.1, HX.out.2], by rw [HT.out.1, HX.out.2]; go_num, by rw [HT.out.1, HX.out.2]; exact ⟨HS.out.own, HS.out.bel⟩⟩
              case measure => have := HT.out.2; simp [intOf]; omega
      · have hll : ¬ i < l.length := by rw [← HH.out.1]; exact hli
        by_cases hfi : t.frm < i
        · have hst : t.step l i = { frm := i + 1, line := t.line, last := t.last, out := t.out ++ [((l.drop t.frm).take (i - t.frm), t.line)] } := by
            unfold Spl.step
            rw [if_neg (fun h => hll h.1), if_neg (fun h => hll h.1), if_neg hll, if_pos hfi]
          have HX := Lib.hid (And.intro True.intro hst)
          have hfi0 : (0 : Int) ≤ t.frm := by omega
          have hfi1 : (t.frm : Int) ≤ i := by omega
          have hfi2 : (i : Int) ≤ X.size := by omega
          have hfi3 : (t.frm : Int) < i := by omega
          have hou2 : (t.out.length : Int) ≤ 2000001 := by omega
          have hsb : X.extract t.frm i = bstr ((l.drop t.frm).take (i - t.frm)) := HH.out.2.2 t.frm i
          have hbx := Below.new wr (.cells #[.string (bstr ((l.drop t.frm).take (i - t.frm))), .int .i64 t.line] 97)
          have HA := Lib.hid (And.intro (ownsRow_below HS.out.own hbx) (And.intro (tok_blk (w := wr) (bstr ((l.drop t.frm).take (i - t.frm))) t.line) (Nat.le_trans HS.out.bel.size hbx.size)))
          have HBx := Lib.hid hbx
          clear hst hll hstep ht hln hou hi hfi hbx
          go_wp2_with (at_builtin; refine wpList_appR rfl _ _ 80 rfl TToks w.heap.size (.slice po t.out.length co) t.out.length _ rfl HA.out.1 _ 1 _ rfl HA.out.2.1 (by simp [Value.oneCell']) (by omega) (by omega) HA.out.2.2 ?_; intro v4 w4 happ; obtain ⟨p4, c4, ev4⟩ := ownsRow_form happ.own; subst ev4; have HP := Lib.hid happ; clear happ)
          have hbel4 := HP.out.below (HS.out.bel.trans (HBx.out.mono HS.out.bel.size)) HA.out.2.2 (fun k hk => (own_lt HA.out.1 k hk).1)
          have hown4 : w4.ownsRow w.heap.size 97 2 (.slice p4 (t.out.length + 1) c4) (t.out ++ [((l.drop t.frm).take (i - t.frm), t.line)]).length (tokCells (t.out ++ [((l.drop t.frm).take (i - t.frm), t.line)])) := by
            rw [← tokCells_snoc, List.length_append]; exact HP.out.own
          have H4 := Lib.hid (And.intro hown4 hbel4)
          clear hbel4 hown4 HP
          go_roundw
          case rel => exact ⟨i + 1, by have := HT.out.2; omega, by go_num, by rw [HT.out.1, HX.out.2], by rw [HT.out.1, HX.out.2], by rw [HT.out.1, HX.out.2]; go_num, by rw [HT.out.1, HX.out.2]; exact ⟨H4.out.1, H4.out.2⟩⟩
          case measure => have := HT.out.2; simp [intOf]; omega
        · have hst : t.step l i = { frm := i + 1, line := t.line, last := t.last, out := t.out } := by
            unfold Spl.step
            rw [if_neg (fun h => hll h.1), if_neg (fun h => hll h.1), if_neg hll, if_neg hfi]
          have HX := Lib.hid (And.intro True.intro hst)
          have hfi3 : (i : Int) ≤ t.frm := by omega
          have hfi4 : t.frm = i := by omega
          clear hst hll hstep ht hln hou hi hfi 
          go_wp2_with fail
          go_roundw
          case rel => exact ⟨i + 1, by have := HT.out.2; omega, by go_num, by rw [HT.out.1, HX.out.2], by rw [HT.out.1, HX.out.2], by rw [HT.out.1, HX.out.2]; go_num, by rw [HT.out.1, HX.out.2]; exact ⟨HS.out.own, HS.out.bel⟩⟩
          case measure => have := HT.out.2; simp [intOf]; omega
    · obtain rfl : i = X.size + 1 := by omega
      have hii : ¬ ((X.size + 1 : Nat) : Int) ≤ X.size := by omega
      obtain ⟨k, hk⟩ : ∃ k, X.size + 1 = k := ⟨_, rfl⟩
      rw [hk] at hii ht ⊢
      have hkl : l.length + 1 = k := by have := HH.out.1; omega
      have HT := Lib.hid (And.intro ht hkl)
      clear hlt hi hk ht hln hfr hou hkl
      go_wp2_with fail
      go_ret2
      refine ⟨.slice po t.out.length co, ?_, ?_, HS.out.bel⟩
      · rw [HT.out.2, HT.out.1]; rfl
      · rw [HT.out.2, HT.out.1]; exact HS.out.own
end Go.Proofs.YtcdjkbgedmehjaaGreatDoor
namespace Go.Proofs.YtcdjkbgedmehjaaGreatDoor
set_option linter.unusedVariables false
open Go.RowKit Go.Sort

/-! # Read, of a text that Write wrote -/
def csOf (T : Trc) (n : Nat) : List (Nat × Nat) := (rowCh T n).map fun c => (c.1, c.2.2)
theorem apTo_apT (r : List Nat) (l : List (Nat × (Nat × Nat))) : apTo r (l.map fun c => (c.1, c.2.2)) = apT r l := by
  unfold apTo apT
  rw [List.foldl_map]
def rowS (S : RdS) (T : Trc) (n : Nat) (rows' : List (List VecE)) : RdS := { S with pos := 12 + 6 * T.vars.length + rowPos T n, top := T.top, vars := T.vars, ids := (List.range T.vars.length).map idL, rows := rows' }
theorem numsT (rows : List (List VecE)) : (nums rows).length = rows.length := by simp [nums]
theorem timeAt_of {S : RdS} {T : Trc} (hW : S.toks.map Prod.fst = (headLines T).flatten ++ rowsW T T.rows.length) (hT : TOk T) (hN : (S.toks.length : Int) ≤ 3000000) {n : Nat} (hn : n < T.rows.length) {rows' : List (List VecE)} (hr : rows'.length = n) :
    TimeAt (rowS S T n rows') T.vars.length n (csOf T n) := by
  have hwd : ∀ k x, k < (rowW T n).length → (rowW T n)[k]? = some x → ∃ y, S.toks[12 + 6 * T.vars.length + rowPos T n + k]? = some (x, y) := fun k x hk hx => tok_of hW (by
    rw [Nat.add_assoc, hw_r, rowsW_at T _ n hn k hk]; exact hx)
  have hgr : T.rows[n]? = some (T.rows.getD n []) := by rw [List.getD_eq_getElem?_getD, List.getElem?_eq_getElem hn]; rfl
  have hrow := hT.row n _ hgr
  refine ⟨rfl, rfl, hT.nv, fun i v hv => (hT.nms i v hv).2, hr, by have := hT.nr; omega, hN, ?_, fun j c hc => ?_, fun t ht => ?_⟩
  · have := hwd 0 _ (by rw [rowW_len]; omega) rfl
    rw [itoa_ds] at this
    exact this
  · unfold csOf at hc
    rw [List.getElem?_map] at hc
    obtain ⟨q, hq, rfl⟩ := Option.map_eq_some_iff.1 hc
    have hm := chL_mem _ _ _ q (List.mem_of_getElem? hq)
    rw [Nat.sub_zero] at hm
    have hjl : j < (rowCh T n).length := (List.getElem?_eq_some_iff.1 hq).1
    have hql : q.1 < T.vars.length := by rw [← hrow.1]; exact (List.getElem?_eq_some_iff.1 hm.2).1
    obtain ⟨v, hv⟩ : ∃ v, T.vars[q.1]? = some v := ⟨_, List.getElem?_eq_getElem hql⟩
    have hqv := hrow.2 q.1 q.2 v hm.2 hv
    have ha := flat2_at (rowCh T n) j q hq
    refine ⟨v, hv, by rw [← hqv.1]; exact hqv.2, ?_, ?_⟩
    · have := hwd (1 + 2 * j) (98 :: bitL q.2.1 q.2.2) (by rw [rowW_len]; omega) (by unfold rowW; rw [Nat.add_comm 1, List.getElem?_cons_succ]; exact ha.1)
      rw [← hqv.1]
      rw [← Nat.add_assoc] at this
      exact this
    · have := hwd (1 + 2 * j + 1) (idL q.1) (by rw [rowW_len]; omega) (by unfold rowW; rw [show 1 + 2 * j + 1 = 2 * j + 1 + 1 by omega, List.getElem?_cons_succ]; exact ha.2)
      rw [← Nat.add_assoc, ← Nat.add_assoc] at this
      exact this
  · have hl : (csOf T n).length = (rowCh T n).length := by simp [csOf]
    have ht' : S.toks[12 + 6 * T.vars.length + rowPos T n + 1 + 2 * (rowCh T n).length]? = some t := by rw [← hl]; exact ht
    rw [show 12 + 6 * T.vars.length + rowPos T n + 1 + 2 * (rowCh T n).length = 12 + 6 * T.vars.length + rowPos T (n + 1) by rw [rowPos_succ]; omega] at ht'
    have he : (S.toks.map Prod.fst)[12 + 6 * T.vars.length + rowPos T (n + 1)]? = some t.1 := by rw [List.getElem?_map, ht']; rfl
    rw [hW, hw_r, rowsW_end T _ (n + 1) (by omega)] at he
    by_cases h1 : n + 1 < T.rows.length
    · rw [if_pos h1] at he; exact ⟨_, (Option.some.inj he).symm⟩
    · rw [if_neg h1] at he; cases he
theorem apTo_row {T : Trc} (hT : TOk T) {n : Nat} (hn : n < T.rows.length) (h0 : n = 0) : apTo (List.replicate T.vars.length 0) (csOf T n) = (T.rows.getD n []).map Prod.snd := by
  have hgr : T.rows[n]? = some (T.rows.getD n []) := by rw [List.getD_eq_getElem?_getD, List.getElem?_eq_getElem hn]; rfl
  have hrow := (hT.row n _ hgr).1
  unfold csOf rowCh
  rw [apTo_apT]
  subst h0
  have h := apT_none (T.rows.getD 0 []) [] (List.replicate T.vars.length 0) (by rw [List.length_replicate, hrow])
  exact h
theorem apTo_row2 {T : Trc} (hT : TOk T) {k : Nat} (hn : k + 1 < T.rows.length) : apTo ((T.rows.getD k []).map Prod.snd) (csOf T (k + 1)) = (T.rows.getD (k + 1) []).map Prod.snd := by
  have hgr : ∀ j, j < T.rows.length → T.rows[j]? = some (T.rows.getD j []) := fun j hj => by rw [List.getD_eq_getElem?_getD, List.getElem?_eq_getElem hj]; rfl
  have h1 := (hT.row _ _ (hgr (k + 1) hn)).1
  have h2 := (hT.row _ _ (hgr k (by omega))).1
  unfold csOf rowCh
  rw [apTo_apT]
  have h := apT_some (T.rows.getD (k + 1) []) [] (T.rows.getD k []) (by rw [h1, h2])
  exact h
/-- the numbers of the first n rows -/
def numT (T : Trc) (n : Nat) : List (List Nat) := (T.rows.take n).map fun r => r.map Prod.snd
theorem numT_succ (T : Trc) {n : Nat} (hn : n < T.rows.length) : numT T (n + 1) = numT T n ++ [(T.rows.getD n []).map Prod.snd] := by
  unfold numT
  rw [List.take_add_one, List.map_append, List.getD_eq_getElem?_getD, List.getElem?_eq_getElem hn]
  rfl
theorem time_any {base b : Nat} {w : World} {S : RdS} {V : Key → Value} {T : Trc} {n : Nat} {rows' : List (List VecE)} (h : Rdr base b w (rowS S T n rows') V) (hW : S.toks.map Prod.fst = (headLines T).flatten ++ rowsW T T.rows.length) (hT : TOk T) (hN : (S.toks.length : Int) ≤ 3000000) (hn : n < T.rows.length) (hnu : nums rows' = numT T n) :
    Calls Tryz.prog 37 #[.pointer (some ⟨b, 0, none⟩)] w fun e w' => e = .returned (.tuple #[]) ∧ (∃ rows'' V', nums rows'' = numT T (n + 1) ∧ Rdr base b w' (rowS S T (n + 1) rows'') V') ∧ Below base w w' := by
  have hr : rows'.length = n := by
    have := congrArg List.length hnu
    rw [numsT] at this
    rw [this]; unfold numT; simp; omega
  have hta := timeAt_of hW hT hN hn hr
  have hpos : ∀ rows'', ({ rowS S T n rows' with pos := (rowS S T n rows').pos + 1 + 2 * (csOf T n).length, rows := rows'' } : RdS) = rowS S T (n + 1) rows'' := fun rows'' => by
    have hl : (csOf T n).length = (rowCh T n).length := by simp [csOf]
    unfold rowS
    simp only [RdS.mk.injEq, true_and, and_true]
    rw [hl, rowPos_succ]; omega
  cases hn0 : n with
  | zero =>
    subst hn0
    refine (time_zero h hta rfl).mono ?_
    rintro e w' ⟨rfl, ⟨rows'', V', hnu', hr'⟩, hb⟩
    rw [hpos] at hr'
    refine ⟨rfl, ⟨rows'', V', ?_, hr'⟩, hb⟩
    rw [hnu', numT_succ T hn, ← hnu, apTo_row hT hn rfl]
    rfl
  | succ k =>
    subst hn0
    refine (time_next h hta rfl).mono ?_
    rintro e w' ⟨rfl, ⟨rows'', V', hnu', hr'⟩, hb⟩
    rw [hpos] at hr'
    refine ⟨rfl, ⟨rows'', V', ?_, hr'⟩, hb⟩
    have e1 : (nums (rowS S T (k + 1) rows').rows).getD k [] = (T.rows.getD k []).map Prod.snd := by
      show (nums rows').getD k [] = _
      rw [hnu]
      unfold numT
      rw [List.getD_eq_getElem?_getD, List.getElem?_map, List.getElem?_take, if_pos (Nat.lt_succ_self k), List.getD_eq_getElem?_getD, List.getElem?_eq_getElem (show k < T.rows.length by omega)]
      rfl
    rw [hnu', numT_succ T hn, ← hnu, e1, apTo_row2 hT hn]
    rfl
end Go.Proofs.YtcdjkbgedmehjaaGreatDoor
namespace Go.Proofs.YtcdjkbgedmehjaaGreatDoor
set_option linter.unusedVariables false
open Go.RowKit Go.Sort

/-- a trace's value in memory, read -/
structure TrR (w : World) (tv : Value) (T : Trc) : Prop where
  ex : ∃ (vv rv : Value) (rvs : List Value) (ess : List (List VecE)), tv = .agg #[.string (bstr T.top), vv, rv] ∧ RO w vv 2 T.vars.length (tokCells T.vars) ∧ RO w rv 1 rvs.length rvs ∧ ess.length = rvs.length ∧ T.rows = ess.map (fun es => es.map fun e => (e.w, e.x)) ∧
    ∀ (i : Nat) (v : Value) (es : List VecE), rvs[i]? = some v → ess[i]? = some es → RO w v 2 es.length (rowCells es) ∧ ∀ e ∈ es, VR w (vecV e) e.w e.x
  cap : ∀ s p n c rv, tv = .agg #[.string s, .slice p n c, rv] → n ≤ c
theorem TrR.below {w w' : World} {tv : Value} {T : Trc} (h : TrR w tv T) (hb : Below w.heap.size w w') : TrR w' tv T := by
  obtain ⟨vv, rv, rvs, ess, h1, h2, h3, h4, h5, h6⟩ := h.ex
  exact ⟨⟨vv, rv, rvs, ess, h1, h2.below hb, h3.below hb, h4, h5, fun i v es hv he => ⟨(h6 i v es hv he).1.below hb, fun e hm => ((h6 i v es hv he).2 e hm).below hb⟩⟩, h.cap⟩
theorem okW_name {s : Bs} (h : wordB (bstr s) = true) : okW s := by
  unfold wordB at h
  rw [Bool.and_eq_true] at h
  have h1 := h.1
  unfold printedB at h1
  rw [bstr_size] at h1
  simp only [Bool.and_eq_true, decide_eq_true_eq] at h1
  refine okW_of (List.length_pos_iff.1 (by omega)) fun c hc => ?_
  have h2 : seens s = true := by have := h1.2; simpa [bstr] using this
  unfold seens at h2
  rw [List.all_eq_true] at h2
  have h3 := h2 c hc
  unfold seen at h3
  simpa using h3
theorem toks_words {T : Trc} (hT : TOk T) : (spTo (trcText T) ((trcText T).length + 1)).out.map Prod.fst = (headLines T).flatten ++ rowsW T T.rows.length := by
  have h := sp_text (trcLines T) (lines_ok T (okW_name hT.top) (fun v hv => by
    obtain ⟨i, hi, rfl⟩ := List.mem_iff_getElem.1 hv
    exact okW_name (hT.nms i _ (List.getElem?_eq_getElem hi)).1))
  rw [trc_words] at h
  exact h
/-- the reader's rows are the trace's -/
theorem rows_eq {base b : Nat} {w : World} {S : RdS} {V : Key → Value} (h : Rdr base b w S V) {T : Trc} (hv : S.vars = T.vars) (hT : TOk T) (hn : nums S.rows = numT T T.rows.length) : T.rows = S.rows.map (fun es => es.map fun e => (e.w, e.x)) := by
  unfold numT at hn
  rw [List.take_length] at hn
  have hlen : S.rows.length = T.rows.length := by have := congrArg List.length hn; simpa [nums] using this
  refine List.ext_getElem? fun i => ?_
  rw [List.getElem?_map]
  by_cases hi : i < T.rows.length
  · have hi' : i < S.rows.length := by omega
    have h1 : T.rows[i]? = some T.rows[i] := List.getElem?_eq_getElem hi
    have h2 : S.rows[i]? = some S.rows[i] := List.getElem?_eq_getElem hi'
    rw [h1, h2]
    simp only [Option.map_some, Option.some.injEq]
    have hx : (S.rows[i]).map VecE.x = (T.rows[i]).map Prod.snd := by
      have := congrArg (fun l => l[i]?) hn
      simp only [nums, List.getElem?_map, h1, h2, Option.map_some, Option.some.injEq] at this
      exact this
    have hrow := hT.row i _ h1
    have hlr : (S.rows[i]).length = (T.rows[i]).length := by have := congrArg List.length hx; simpa using this
    refine List.ext_getElem? fun j => ?_
    rw [List.getElem?_map]
    by_cases hj : j < (T.rows[i]).length
    · have hj' : j < (S.rows[i]).length := by omega
      have k1 : (T.rows[i])[j]? = some (T.rows[i])[j] := List.getElem?_eq_getElem hj
      have k2 : (S.rows[i])[j]? = some (S.rows[i])[j] := List.getElem?_eq_getElem hj'
      have hjv : j < T.vars.length := by rw [← hrow.1]; exact hj
      have k3 : T.vars[j]? = some T.vars[j] := List.getElem?_eq_getElem hjv
      have hw := (h.vec i _ h2 j _ _ k2 (by rw [hv]; exact k3)).1
      have hp := hrow.2 j _ _ k1 k3
      have hx' : (S.rows[i])[j].x = (T.rows[i])[j].2 := by
        have := congrArg (fun l => l[j]?) hx
        simp only [List.getElem?_map, k1, k2, Option.map_some, Option.some.injEq] at this
        exact this
      rw [k1, k2]
      simp only [Option.map_some, Option.some.injEq]
      exact Prod.ext (by simp only; rw [hw, hp.1]) hx'.symm
    · rw [List.getElem?_eq_none (by omega), List.getElem?_eq_none (by omega)]; rfl
  · rw [List.getElem?_eq_none (by omega), List.getElem?_eq_none (by omega)]; rfl
theorem trR_of {base b : Nat} {w : World} {S : RdS} {V : Key → Value} (h : Rdr base b w S V) {T : Trc} (hv : S.vars = T.vars) (ht : S.top = T.top) (hT : TOk T) (hn : nums S.rows = numT T T.rows.length) : TrR w (.agg #[.string (bstr T.top), V .vars, V .vals]) T := by
  have ho := h.mem.own .vars
  have hl := h.mem.own .vals
  refine ⟨⟨V .vars, V .vals, (List.range S.rows.length).map (fun i => V (.row i)), S.rows, rfl, ?_, ?_, by simp, rows_eq h hv hT hn, fun i v es hvi hei => ?_⟩, fun s p n c rv e => ?_⟩
  · rw [← hv]; exact RO.own ho
  · have := RO.own hl
    simp only [List.length_map, List.length_range]
    exact this
  · have hi : i < S.rows.length := (List.getElem?_eq_some_iff.1 hei).1
    rw [List.getElem?_map, List.getElem?_range hi] at hvi
    simp only [Option.map_some, Option.some.injEq] at hvi
    subst hvi
    have hr := h.mem.own (.row i)
    have e : Rof S V (.row i) = (V (.row i), es.length, rowCells es) := by
      have : S.rows.getD i [] = es := by rw [List.getD_eq_getElem?_getD, hei]; rfl
      simp only [Rof, if_pos hi, this]
    rw [e] at hr
    refine ⟨RO.own hr, fun e' he' => ?_⟩
    obtain ⟨j, hj, rfl⟩ := List.mem_iff_getElem.1 he'
    have hjv : j < S.vars.length := by rw [← h.len i es hei]; exact hj
    exact (h.vec i es hei j _ _ (List.getElem?_eq_getElem hj) (List.getElem?_eq_getElem hjv)).2.1
  · obtain ⟨p', c', e', hle⟩ := ownsRow_le ho
    have e2 : V .vars = .slice p' S.vars.length c' := e'
    simp only [Value.agg.injEq, Array.mk.injEq, List.cons.injEq, and_true] at e
    rw [e2] at e
    obtain ⟨_, e3, _⟩ := e
    simp only [Value.slice.injEq] at e3
    have hle' : S.vars.length ≤ c' := hle
    omega
/-- what Read hands back -/
def ReadR (w : World) (T : Trc) (e : Ending) (w' : World) : Prop := ∃ tv, e = .returned (.tuple #[tv, .int .i64 0, .int .i64 0]) ∧ TrR w' tv T ∧ Below w.heap.size w w'
def rd0 (out : List (Bs × Nat)) (last : Nat) : RdS := ⟨out, 0, last, [], [], [], []⟩
def V0 (tv : Value) : Key → Value := fun k => if k = .tok then tv else .slice none 0 0
theorem rdr0 {w : World} {base R last : Nat} {tv : Value} {out : List (Bs × Nat)} (hk : Blk w R 82 [tv, .int .i64 0, .int .i64 last, .string ⟨#[]⟩, .slice none 0 0, .slice none 0 0, .slice none 0 0, .int .i64 0, .int .i64 0]) (hb : base ≤ R) (hn : tv.ownBlock ≠ some R) (ho : w.ownsRow base 97 2 tv out.length (tokCells out)) : Rdr base R w (rd0 out last) (V0 tv) := by
  have hnil : ∀ q, q ≠ .tok → Rof (rd0 out last) (V0 tv) q = (.slice none 0 0, 0, []) := fun q hq => by
    cases q with
    | tok => exact absurd rfl hq
    | row i => simp [Rof, rd0]
    | ids => simp [Rof, rd0, V0, strCells]
    | vars => simp [Rof, rd0, V0, tokCells]
    | vals => simp [Rof, rd0, V0]
  refine ⟨⟨fun q => ?_, fun q q' hqq g hg => ?_, fun q => ?_, hb, hk.lt⟩, hk, fun i r hr => by simp [rd0] at hr, fun i r hr => by simp [rd0] at hr⟩
  · by_cases hq : q = .tok
    · subst hq; exact ho
    · rw [hnil q hq]; exact World.ownsRow_nil _ _ _ _
  · by_cases hq : q = .tok
    · rw [hnil q' (fun e => hqq (by rw [hq, e]))]; intro e; cases e
    · rw [hnil q hq] at hg; cases hg
  · by_cases hq : q = .tok
    · subst hq; exact hn
    · rw [hnil q hq]; intro e; cases e
theorem VR.box3 {w w' : World} {g t : Nat} {s : ByteArray} {v1 v2 v : Value} {n x : Nat} (h : VR w v n x) (hk : Blk w g t [.string s, v1, v2]) (h1 : ∀ z, v1 ≠ .int .u64 z) (h2 : ∀ z, v2 ≠ .int .u64 z) (hold : ∀ k, k ≠ g → w'.heap[k]? = w.heap[k]?) : VR w' v n x := by
  obtain ⟨⟨p, c, rfl, hl, p2, c2, e2, hcs⟩, h3, h4⟩ := h
  cases e2
  refine ⟨⟨p, c, rfl, hl, p, c, rfl, fun j u' hj => ?_⟩, h3, h4⟩
  obtain ⟨b, o, hp, hc⟩ := hcs j u' hj
  refine ⟨b, o, hp, ?_⟩
  have hu : ∃ z, u' = .int .u64 z := by
    unfold wordsV at hj
    rw [List.getElem?_map] at hj
    obtain ⟨q, _, rfl⟩ := Option.map_eq_some_iff.1 hj
    exact ⟨_, rfl⟩
  obtain ⟨z, rfl⟩ := hu
  have hbg : b ≠ g := by
    rintro rfl
    unfold Blk at hk
    simp only [World.cell?, hk] at hc
    have hlt : o + j < 3 := by
      rcases Nat.lt_or_ge (o + j) 3 with h | h
      · exact h
      · have : ([Value.string s, v1, v2])[o + j]? = none := List.getElem?_eq_none (by simpa using h)
        simp [this] at hc
    have hc' : ([Value.string s, v1, v2])[o + j]? = some (.int .u64 z) := by simpa using hc
    have h012 : o + j = 0 ∨ o + j = 1 ∨ o + j = 2 := by omega
    rcases h012 with h | h | h
    · rw [h] at hc'; cases hc'
    · rw [h] at hc'; exact h1 z (Option.some.inj hc')
    · rw [h] at hc'; exact h2 z (Option.some.inj hc')
  rw [World.cell?_of_block (hold b hbg)]
  exact hc
theorem Rdr.box3 {base b : Nat} {w w' : World} {S : RdS} {V : Key → Value} {g t : Nat} {s : ByteArray} {v1 v2 : Value} (h : Rdr base b w S V) (hg : g < base) (hk : Blk w g t [.string s, v1, v2]) (h1 : ∀ z, v1 ≠ .int .u64 z) (h2 : ∀ z, v2 ≠ .int .u64 z) (hs : w.heap.size ≤ w'.heap.size) (hold : ∀ k, k ≠ g → w'.heap[k]? = w.heap[k]?) : Rdr base b w' S V := by
  refine ⟨h.mem.keep hs fun q k hq => hold k (by have := (h.mem.lts q k hq).1; omega), ?_, h.len, fun i r hi j p v hp hv => ?_⟩
  · have := h.blk
    unfold Blk at this ⊢
    rw [hold b (by have := h.mem.hb; omega)]; exact this
  · obtain ⟨a1, a2, a3⟩ := h.vec i r hi j p v hp hv
    exact ⟨a1, a2.box3 hk h1 h2 hold, a3.mono hs⟩
set_option maxRecDepth 100000 in
set_option maxHeartbeats 8000000 in
theorem read_any {w : World} {T : Trc} (hT : TOk T) (hl : (trcText T).length ≤ 1048576) : Calls Tryz.prog 10 #[.string (bstr (trcText T))] w (ReadR w T) := by
  have hli : ((trcText T).length : Int) ≤ 1048576 := by omega
  have HSp := Lib.hid (fun w => split_any (trcText T) (by omega) w)
  have hW := toks_words hT
  have hN := spTo_out (trcText T) ((trcText T).length + 1)
  generalize spTo (trcText T) ((trcText T).length + 1) = st at *
  obtain ⟨X, hX⟩ : ∃ X, bstr (trcText T) = X := ⟨_, rfl⟩
  have hsz : (X.size : Int) ≤ 1048576 := by rw [← hX, bstr_size]; exact hli
  have hd : decide ((1048576 : Int) < (X.size : Int)) = false := decide_eq_false (by omega)
  have hN3 : (st.out.length : Int) ≤ 3000000 := by omega
  rw [hX] at HSp ⊢
  have HH := Lib.hid (And.intro hT (And.intro hW hN3))
  clear hT hl hli hW hN hX hN3
  go_enter Tryz.func10, Tryz.ntmps10
  go_wp2_with fail
  obtain ⟨R, hR⟩ : ∃ R, w.heap.size + 1 = R := ⟨_, rfl⟩
  have hk1 := (Blk.new (w := w) 31 [.string ⟨#[]⟩, .slice none 0 0, .slice none 0 0]).alloc (.cells #[.slice none 0 0, .int .i64 0, .int .i64 0, .string ⟨#[]⟩, .slice none 0 0, .slice none 0 0, .slice none 0 0, .int .i64 0, .int .i64 0] 82)
  have hk2 := Blk.new (w := w.alloc (.cells #[.string ⟨#[]⟩, .slice none 0 0, .slice none 0 0] 31)) 82 [.slice none 0 0, .int .i64 0, .int .i64 0, .string ⟨#[]⟩, .slice none 0 0, .slice none 0 0, .slice none 0 0, .int .i64 0, .int .i64 0]
  have hb2 : Below w.heap.size w ((w.alloc (.cells #[.string ⟨#[]⟩, .slice none 0 0, .slice none 0 0] 31)).alloc (.cells #[.slice none 0 0, .int .i64 0, .int .i64 0, .string ⟨#[]⟩, .slice none 0 0, .slice none 0 0, .slice none 0 0, .int .i64 0, .int .i64 0] 82)) := (Below.new _ _).alloc (by simp) _
  have hs2 : ((w.alloc (.cells #[.string ⟨#[]⟩, .slice none 0 0, .slice none 0 0] 31)).alloc (.cells #[.slice none 0 0, .int .i64 0, .int .i64 0, .string ⟨#[]⟩, .slice none 0 0, .slice none 0 0, .slice none 0 0, .int .i64 0, .int .i64 0] 82)).heap.size = R + 1 := by simp; omega
  rw [World.size_alloc, hR] at hk2
  rw [hR]
  simp only [List.toArray] at hk1 hk2
  generalize (w.alloc (.cells #[.string ⟨#[]⟩, .slice none 0 0, .slice none 0 0] 31)).alloc (.cells #[.slice none 0 0, .int .i64 0, .int .i64 0, .string ⟨#[]⟩, .slice none 0 0, .slice none 0 0, .slice none 0 0, .int .i64 0, .int .i64 0] 82) = W2 at *
  have H2 := Lib.hid (And.intro hk1 (And.intro hk2 (And.intro hb2 (And.intro hs2 hR))))
  clear hk1 hk2 hb2 hs2 hR
  refine (HSp.out _).mono ?_; rintro e w3 ⟨tv, rfl, ho3, hb3⟩
  obtain ⟨pt, ct, rfl⟩ := ownsRow_form ho3
  have hk3 := H2.out.2.1.next hb3
  have f0 := hk3.frz 0
  have f2 := hk3.frz 2
  have d0 := hk3.cell (i := 0) rfl
  have d2 := hk3.cell (i := 2) rfl
  have hk4 := (hk3.set 0 (.slice pt st.out.length ct)).set 2 (.int .i64 st.last)
  have hnR : (Value.slice pt st.out.length ct).ownBlock ≠ some R := fun e => by have := (own_lt ho3 R e).1; have := H2.out.2.2.2.1; omega
  have ho4 : ((w3.setCell ⟨R, 0, none⟩ (.slice pt st.out.length ct)).setCell ⟨R, 2, none⟩ (.int .i64 st.last)).ownsRow R 97 2 (.slice pt st.out.length ct) st.out.length (tokCells st.out) :=
    ownsRow_base (ownsRow_keep ho3 fun g hg => by
      have hgR : g ≠ R := fun e => hnR (by rw [hg, e])
      rw [Below.heap_setCell _ _ _ _ hgR, Below.heap_setCell _ _ _ _ hgR]) (by have := H2.out.2.2.2.1; omega)
  have hr4 := rdr0 (base := R) hk4 (Nat.le_refl _) hnR ho4
  have hb4 : Below R W2 ((w3.setCell ⟨R, 0, none⟩ (.slice pt st.out.length ct)).setCell ⟨R, 2, none⟩ (.int .i64 st.last)) :=
    ((hb3.mono (by have := H2.out.2.2.2.1; omega)).setCell (show R ≤ (⟨R, 0, none⟩ : Addr).block from Nat.le_refl _) _).setCell (show R ≤ (⟨R, 2, none⟩ : Addr).block from Nat.le_refl _) _
  have H4 := Lib.hid (And.intro hr4 hb4)
  clear hk3 hk4 hnR ho4 hr4 hb4 ho3 hb3 HSp
  go_upto_region 5 with fail
  clear f0 f2 d0 d2
  generalize (w3.setCell ⟨R, 0, none⟩ (.slice pt st.out.length ct)).setCell ⟨R, 2, none⟩ (.int .i64 st.last) = w4 at *
  have HHd := Lib.hid (head_any H4.out.1 HH.out.2.1 HH.out.1 ⟨rfl, rfl, rfl, rfl⟩ HH.out.2.2 (by
    have := rowsW_end T T.rows.length 0 (Nat.zero_le _)
    unfold rowPos at this
    rw [show (rowsW T 0).length = 0 from rfl] at this
    rw [this]
    split
    · intro e
      have e' := Option.some.inj e
      simp only [kCom, List.cons.injEq] at e'
      exact absurd e'.1 (by decide)
    · intro e; cases e))
  go_wp2_with fail
  refine HHd.out.mono ?_; rintro e w5 ⟨rfl, ⟨V5, hr5⟩, hb5⟩
  have H5 := Lib.hid (And.intro hr5 (H4.out.2.trans hb5))
  clear hr5 hb5 HHd H4
  go_wp2_with fail
  go_loopw [] (fun wr => ∃ (n : Nat) (rows' : List (List VecE)) (V' : Key → Value), n ≤ T.rows.length ∧ nums rows' = numT T n ∧ Rdr R R wr (rowS (rd0 st.out st.last) T n rows') V' ∧ Below R W2 wr) (fun wr => 12 + 6 * T.vars.length + rowPos T T.rows.length - posOf wr R)
  case atStart =>
    refine ⟨0, [], V5, Nat.zero_le _, rfl, ?_, H5.out.2⟩
    exact H5.out.1
  case round =>
    obtain ⟨n, rows', V', hn, hnu, hr, hb⟩ := hrel
    have HL := Lib.hid (And.intro hr (And.intro hb hnu))
    clear hr hb hnu
    have htl : st.out.length = 12 + 6 * T.vars.length + rowPos T T.rows.length := by
      have h1 := congrArg List.length HH.out.2.1
      rw [List.length_map, List.length_append] at h1
      have hl : (headLines T).flatten.length = 12 + 6 * T.vars.length := by rw [head_words]; simp only [List.length_append, varLines_len, headA, headB, List.length_cons, List.length_nil]; omega
      rw [hl] at h1
      exact h1
    have HTl := Lib.hid htl
    clear htl
    by_cases hlt : n < T.rows.length
    · have hrl : rows'.length = n := by
        have := congrArg List.length HL.out.2.2
        rw [numsT] at this
        rw [this]; unfold numT; simp; omega
      obtain ⟨y, ht0⟩ := (timeAt_of (S := rd0 st.out st.last) HH.out.2.1 HH.out.1 HH.out.2.2 hlt hrl).t0
      have hpl : (rowS (rd0 st.out st.last) T n rows').pos < st.out.length := (List.getElem?_eq_some_iff.1 ht0).1
      have HM := Lib.hid (more_any HL.out.1 (q := true) (decide_eq_true hpl))
      have HX := Lib.hid hlt
      clear hrl ht0 hpl hlt hn
      go_wp2_with fail
      refine HM.out.mono ?_; rintro e w6 ⟨rfl, k6, rfl⟩
      have H6 := Lib.hid (And.intro (HL.out.1.below (below_drewN k6)) (HL.out.2.1.trans ((below_drewN (B := wr.heap.size) k6).mono HL.out.1.base_le)))
      generalize wr.drewN k6 = w6 at *
      have HTm := Lib.hid (time_any (S := rd0 st.out st.last) H6.out.1 HH.out.2.1 HH.out.1 HH.out.2.2 HX.out HL.out.2.2)
      go_wp2_with fail
      refine HTm.out.mono ?_; rintro e w7 ⟨rfl, ⟨rows2, V2, hnu2, hr7⟩, hb7⟩
      have H7 := Lib.hid (And.intro hnu2 (And.intro hr7 (H6.out.2.trans hb7)))
      clear hnu2 hr7 hb7 HTm H6
      go_wp2_with fail
      go_roundw
      case rel => exact ⟨n + 1, rows2, V2, HX.out, H7.out.1, H7.out.2.1, H7.out.2.2⟩
      case measure =>
        have e1 := H7.out.2.1.posOf
        have e2 := HL.out.1.posOf
        have e3 : (rowS (rd0 st.out st.last) T (n + 1) rows2).pos = 12 + 6 * T.vars.length + rowPos T (n + 1) := rfl
        have e4 : (rowS (rd0 st.out st.last) T n rows').pos = 12 + 6 * T.vars.length + rowPos T n := rfl
        have e5 := rowPos_succ T n
        have e6 : rowPos T (n + 1) ≤ rowPos T T.rows.length := by
          have hmono : ∀ d, rowPos T (n + 1) ≤ rowPos T (n + 1 + d) := by
            intro d
            induction d with
            | zero => exact Nat.le_refl _
            | succ d ih => have := rowPos_succ T (n + 1 + d); rw [show n + 1 + (d + 1) = n + 1 + d + 1 by omega]; omega
          have := hmono (T.rows.length - (n + 1))
          have := HX.out
          rwa [show n + 1 + (T.rows.length - (n + 1)) = T.rows.length by omega] at *
        omega
    · obtain rfl : n = T.rows.length := by omega
      have HM := Lib.hid (more_any HL.out.1 (q := false) (decide_eq_false (by
        have e4 : (rowS (rd0 st.out st.last) T T.rows.length rows').pos = 12 + 6 * T.vars.length + rowPos T T.rows.length := rfl
        have e5 : (rowS (rd0 st.out st.last) T T.rows.length rows').toks.length = st.out.length := rfl
        have := HTl.out
        omega)))
      clear hlt hn
      go_wp2_with fail
      refine HM.out.mono ?_; rintro e w6 ⟨rfl, k6, rfl⟩
      have H6 := Lib.hid (And.intro (HL.out.1.below (below_drewN k6)) (HL.out.2.1.trans ((below_drewN (B := wr.heap.size) k6).mono HL.out.1.base_le)))
      generalize wr.drewN k6 = w6 at *
      clear HM
      have c3 := H6.out.1.cell (i := 3) rfl
      have c4 := H6.out.1.cell (i := 4) rfl
      have c5 := H6.out.1.cell (i := 5) rfl
      have c8 := H6.out.1.cell (i := 8) rfl
      have hR1 : w.heap.size < R := by have := H2.out.2.2.2.2; omega
      have hkB : Blk w6 w.heap.size 31 [.string ⟨#[]⟩, .slice none 0 0, .slice none 0 0] := by
        have := H2.out.1
        unfold Blk at this ⊢
        rw [H6.out.2.block _ hR1]; exact this
      have f0 := hkB.frz 0
      have f1 := hkB.frz 1
      have f2 := hkB.frz 2
      have d0 := hkB.cell (i := 0) rfl
      have d1 := hkB.cell (i := 1) rfl
      have d2 := hkB.cell (i := 2) rfl
      have HK := Lib.hid (And.intro hkB hR1)
      clear hkB hR1
      have ht : (rowS (rd0 st.out st.last) T T.rows.length rows').top = T.top := rfl
      rw [ht] at c3
      clear ht
      obtain ⟨vv, hvv⟩ : ∃ vv, V' .vars = vv := ⟨_, rfl⟩
      obtain ⟨rv, hrv⟩ : ∃ rv, V' .vals = rv := ⟨_, rfl⟩
      obtain ⟨p1, cc1, hV1, _⟩ := H6.out.1.varsRO
      obtain ⟨p2, cc2, hV2, _⟩ := H6.out.1.valsRO
      rw [hV1] at c4
      rw [hV2] at c5
      have HVs := Lib.hid (And.intro hV1 hV2)
      clear hV1 hV2 hvv hrv
      have en : (rowS (rd0 st.out st.last) T T.rows.length rows').vars.length = T.vars.length := rfl
      have er : (rowS (rd0 st.out st.last) T T.rows.length rows').rows.length = rows'.length := rfl
      rw [en] at c4
      rw [er] at c5
      rw [en, er] at HVs
      clear en er
      generalize T.vars.length = nv at c4 HVs
      generalize rows'.length = nr at c5 HVs
      go_wp2_with fail
      have hk' := ((HK.out.1.set 0 (.string (bstr T.top))).set 1 (.slice p1 nv cc1)).set 2 (.slice p2 nr cc2)
      have e0 := hk'.cell (i := 0) rfl
      have e1 := hk'.cell (i := 1) rfl
      have e2 := hk'.cell (i := 2) rfl
      have hold : ∀ k, k ≠ w.heap.size → (((w6.setCell ⟨w.heap.size, 0, none⟩ (.string (bstr T.top))).setCell ⟨w.heap.size, 1, none⟩ (.slice p1 nv cc1)).setCell ⟨w.heap.size, 2, none⟩ (.slice p2 nr cc2)).heap[k]? = w6.heap[k]? := fun k hk => by
        rw [Below.heap_setCell _ _ _ _ hk, Below.heap_setCell _ _ _ _ hk, Below.heap_setCell _ _ _ _ hk]
      have hrE := H6.out.1.box3 HK.out.2 HK.out.1 (fun z e => by cases e) (fun z e => by cases e) (by simp) hold
      have hTE := trR_of hrE rfl rfl HH.out.1 HL.out.2.2
      rw [HVs.out.1, HVs.out.2] at hTE
      have hbE : Below w.heap.size w (((w6.setCell ⟨w.heap.size, 0, none⟩ (.string (bstr T.top))).setCell ⟨w.heap.size, 1, none⟩ (.slice p1 nv cc1)).setCell ⟨w.heap.size, 2, none⟩ (.slice p2 nr cc2)) :=
        (((H2.out.2.2.1.trans (H6.out.2.mono (Nat.le_of_lt HK.out.2))).setCell (show w.heap.size ≤ (⟨w.heap.size, 0, none⟩ : Addr).block from Nat.le_refl _) _).setCell (show w.heap.size ≤ (⟨w.heap.size, 1, none⟩ : Addr).block from Nat.le_refl _) _).setCell (show w.heap.size ≤ (⟨w.heap.size, 2, none⟩ : Addr).block from Nat.le_refl _) _
      exact bodyPost_ret (v := .tuple #[.agg #[.string (bstr T.top), .slice p1 nv cc1, .slice p2 nr cc2], .int .i64 0, .int .i64 0]) (by simp [results, Tryz.results10, go_sem, e0, e1, e2]) rfl ⟨_, rfl, hTE, hbE⟩
end Go.Proofs.YtcdjkbgedmehjaaGreatDoor
