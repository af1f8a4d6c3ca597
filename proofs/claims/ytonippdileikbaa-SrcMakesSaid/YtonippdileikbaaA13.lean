import Derived.Test.YtonippdileikbaaA12
namespace Go.Proofs.Ytonippdileikbaa
set_option linter.unusedVariables false
open Go.RowKit

/-- a file: its name, its text -/
structure Fil where
  name : ByteArray
  text : ByteArray
instance : Inhabited Fil := ⟨⟨.empty, .empty⟩⟩
def filCells (l : List Fil) : List Value := l.flatMap fun p => [.string p.name, .string p.text]
theorem fils_at (l : List Fil) (i : Nat) (h : i < l.length) : (filCells l)[i * 2]? = some (.string (l.getD i default).name) ∧ (filCells l)[i * 2 + 1]? = some (.string (l.getD i default).text) := by
  induction l generalizing i with
  | nil => simp at h
  | cons p l ih =>
    cases i with
    | zero => simp [filCells]
    | succ i =>
      have := ih i (by simpa using h)
      simp only [filCells, List.flatMap_cons, List.getD_cons_succ] at *
      rw [show (i + 1) * 2 = i * 2 + 2 by omega, show i * 2 + 2 + 1 = i * 2 + 1 + 2 by omega]
      simpa using this

theorem new1_any {w : World} (nm tx : ByteArray) (hs : nm.size ≤ maxLen) (r : Bool) (hr : isName nm = r) :
    Calls Try.prog 25 #[.agg #[.string nm, .string tx]] w fun e w' => e = .returned (.bool (!r)) ∧ Below w.heap.size w w' := by
  have HN := Lib.hid (fun w => named_any nm w hs)
  rw [hr] at HN
  clear hs hr
  go_enter Try.func25, Try.ntmps25
  go_wp2_with fail
  refine (HN.out _).mono ?_; rintro e w' ⟨rfl, rfl⟩
  go_wp2_with fail
  go_ret
  exact ⟨rfl, (Below.refl _ _).alloc (Nat.le_refl _) _⟩

set_option maxHeartbeats 1000000 in
theorem index36 {w : World} (v : Value) (fs : List Fil) (hr : RO w v 2 fs.length (filCells fs)) (hl : fs.length ≤ 100000) (hsz : ∀ i, i < fs.length → (fs.getD i default).name.size ≤ maxLen) :
    Calls Try.prog 36 #[v, .func (Fn.func 25) #[] #[]] w fun e w' => ∃ r, FirstAt (fun i => !isName (fs.getD i default).name) fs.length r ∧ e = .returned (.int .i64 r) ∧ Below w.heap.size w w' := by
  obtain ⟨p, c, rfl⟩ := hr.form
  have hl' : (fs.length : Int) ≤ 100000 := by omega
  have H := Lib.hid (And.intro hr hsz)
  clear hr hsz hl
  go_enter Try.func36, Try.ntmps36
  go_wp2_with fail
  generalize hB : w.heap.size = B at *
  go_loopw [8] (fun i wr => ∃ k : Nat, k ≤ fs.length ∧ i = .int .i64 k ∧ (∀ j, j < k → (!isName (fs.getD j default).name) = false) ∧ Below B w wr) (fun i _ => fs.length - (intOf i).toNat)
  case atStart => exact ⟨0, Nat.zero_le _, rfl, fun j hj => absurd hj (Nat.not_lt_zero _), Below.refl _ _⟩
  case round =>
    obtain ⟨k, hk, rfl, hno, hbel⟩ := hrel
    have HR := Lib.hid (And.intro hno hbel)
    by_cases hlt : k < fs.length
    · obtain ⟨bb, o, rfl⟩ := H.out.1.sl (fils_at fs k hlt).1
      have hro := H.out.1.below (hB ▸ hbel)
      have h0 := hro.cell (fils_at fs k hlt).1
      have h1 := hro.cell (fils_at fs k hlt).2
      rw [← Nat.add_assoc] at h1
      obtain ⟨r, hr⟩ : ∃ r, isName (fs.getD k default).name = r := ⟨_, rfl⟩
      have HS := Lib.hid (show (fun i => isName (fs.getD i default).name) k = r from hr)
      have HC := Lib.hid (new1_any (w := wr) (fs.getD k default).name (fs.getD k default).text (H.out.2 k hlt) r hr)
      generalize fs.getD k default = P at *
      obtain ⟨nm, tx⟩ := P
      dsimp only at h0 h1 HC
      clear hno hbel hro hr
      go_wp2_with fail
      refine HC.out.mono ?_; rintro e w2 ⟨rfl, hb2⟩
      have HB := Lib.hid (HR.out.2.trans (hb2.mono (by have := HR.out.2.size; omega)))
      clear hb2
      cases r
      · go_wp2_with fail
        go_ret
        exact ⟨k, .inl ⟨k, hlt, congrArg (fun b => !b) HS.out, HR.out.1, rfl⟩, rfl, hB ▸ HB.out⟩
      · go_wp2_with fail
        go_roundw
        case rel => exact ⟨k + 1, by omega, by go_num, fun j hj => by
                      by_cases e : j = k
                      · subst e; exact congrArg (fun b => !b) HS.out
                      · exact HR.out.1 j (by omega), HB.out⟩
        case measure => simp [intOf]; omega
    · obtain rfl : k = fs.length := by omega
      clear hno hbel hlt
      go_wp2_with fail
      go_ret
      exact ⟨-1, .inr ⟨HR.out.1, rfl⟩, rfl, hB ▸ HR.out.2⟩

theorem contains_any {w : World} (v : Value) (fs : List Fil) (hr : RO w v 2 fs.length (filCells fs)) (hl : fs.length ≤ 100000) (hsz : ∀ i, i < fs.length → (fs.getD i default).name.size ≤ maxLen) :
    Calls Try.prog 24 #[v, .func (Fn.func 25) #[] #[]] w fun e w' => ∃ r, FirstAt (fun i => !isName (fs.getD i default).name) fs.length r ∧ e = .returned (.bool (decide (0 ≤ r))) ∧ Below w.heap.size w w' := by
  have HI := Lib.hid (index36 v fs hr hl hsz)
  clear hr hl hsz
  go_enter Try.func24, Try.ntmps24
  go_wp2_with fail
  refine HI.out.mono ?_; rintro e w2 ⟨r, hf, rfl, hb2⟩
  have HF := Lib.hid (And.intro hf hb2)
  clear hf hb2
  go_wp2_with fail
  go_ret
  exact ⟨r, HF.out.1, rfl, HF.out.2⟩
end Go.Proofs.Ytonippdileikbaa
