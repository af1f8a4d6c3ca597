import Derived.Test.YtcdjkbgedmehjaaDoorV2
namespace Go.Proofs.YtcdjkbgedmehjaaDoor
set_option linter.unusedVariables false
open Go.RowKit Go.Sort

/-! # the reader: words that are wanted -/
theorem strCells_at (l : List Bs) (i : Nat) (h : i < l.length) : (strCells l)[i]? = some (.string (bstr (l.getD i []))) := by
  unfold strCells
  rw [List.getElem?_map, List.getElem?_eq_getElem h]
  simp [List.getD, List.getElem?_eq_getElem h]
set_option maxRecDepth 100000 in
set_option maxHeartbeats 4000000 in
theorem want_any {base b : Nat} {w : World} {S : RdS} {V : Key → Value} (h : Rdr base b w S V) (ws : List Bs) {lv : Value} (hl : RO w lv 1 ws.length (strCells ws)) (hlb : ∀ g, lv.ownBlock = some g → g ≠ b)
    (ht : ∀ j, j < ws.length → ∃ y, S.toks[S.pos + j]? = some (ws.getD j [], y)) (hN : (S.toks.length : Int) ≤ 3000000) (hn : (ws.length : Int) ≤ 1000) :
    Calls Tryd.prog 42 #[.pointer (some ⟨b, 0, none⟩), lv] w fun e w' => e = .returned (.tuple #[]) ∧ Rdr base b w' { S with pos := S.pos + ws.length } V ∧ Only (fun k => k = b) w w' := by
  obtain ⟨pl, cl, rfl⟩ := hl.form
  obtain ⟨n, hnn⟩ : ∃ n, ws.length = n := ⟨_, rfl⟩
  have HH := Lib.hid (And.intro h (And.intro ht (And.intro hN (And.intro hl hlb))))
  have HNn := Lib.hid hnn
  rw [hnn] at HH hn ⊢
  clear h hl hlb ht hN hnn
  go_enter Tryd.func42, Tryd.ntmps42
  go_wp2_with fail
  go_loopw [9] (fun iv wr => ∃ i : Nat, i ≤ n ∧ iv = .int .i64 i ∧ Rdr base b wr { S with pos := S.pos + i } V ∧ Only (fun k => k = b) w wr) (fun iv _ => n - (intOf iv).toNat)
  case atStart => exact ⟨0, Nat.zero_le _, rfl, HH.out.1, Only.refl _ _⟩
  case round =>
    obtain ⟨i, hi, rfl, hr, ho⟩ := hrel
    have HL := Lib.hid (And.intro hr ho)
    clear hr ho
    by_cases hlt : i < n
    · obtain ⟨y, ht⟩ := HH.out.2.1 i hlt
      have hat := strCells_at ws i (by rw [HNn.out]; exact hlt)
      have hlw := HL.out.2.ro HH.out.2.2.2.1 HH.out.2.2.2.2
      obtain ⟨bl, ol, rfl⟩ := hlw.sl hat
      have f0 := hlw.cell hat
      have HC := Lib.hid (next_any HL.out.1 (t := _) ht HH.out.2.2.1)
      obtain ⟨X, hX⟩ : ∃ X, bstr (ws.getD i []) = X := ⟨_, rfl⟩
      simp only [hX] at f0 HC
      have HX := Lib.hid hlt
      have hii : (i : Int) < n := by omega
      have hi0 : (0 : Int) ≤ i := by omega
      have hiw : IntKind.i64.wrap ((i : Int) + 1) = (i : Int) + 1 := i64_of (by omega)
      clear hlw hat ht hX hlt hi
      go_wp2_with fail
      refine HC.out.mono ?_; rintro e w1 ⟨rfl, hr1, ho1⟩
      have hb1 := Below.new w1 (.cells #[.string X, .int .i64 y] 79)
      have H1 := Lib.hid (And.intro (hr1.below hb1) ((HL.out.2.trans ho1).below hb1 (HL.out.2.trans ho1).size))
      clear hr1 ho1 HC hb1
      go_wp2_with fail
      go_roundw
      case rel => exact ⟨i + 1, HX.out, by go_num, by rw [← Nat.add_assoc]; exact H1.out.1, H1.out.2⟩
      case measure => have := HX.out; simp [intOf]; omega
    · obtain rfl : i = n := by omega
      clear hlt hi
      go_wp2_with fail
      go_end0
      exact ⟨rfl, HL.out.1, HL.out.2⟩
end Go.Proofs.YtcdjkbgedmehjaaDoor
