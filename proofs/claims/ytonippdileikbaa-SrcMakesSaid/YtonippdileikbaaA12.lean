import Derived.Test.YtonippdileikbaaA11
namespace Go.Proofs.Ytonippdileikbaa
set_option linter.unusedVariables false
open Go.RowKit

def sameS (a b : ByteArray) : Bool := a.toList == b.toList

theorem find1_any {w : World} (b : Nat) (s : ByteArray) (p : Part) (hb : Blk w b 9 [.string s]) (r : Bool) (hr : sameS p.name s = r) :
    Calls Try.prog 31 #[.agg #[.string p.name, .string p.text, .slice p.sp p.sn p.sc], .pointer (some ⟨b, 0, none⟩)] w fun e w' => e = .returned (.bool r) ∧ Below w.heap.size w w' := by
  obtain ⟨nm, tx, sp, sn, sc⟩ := p
  have hc := hb.cell (i := 0) (u := .string s) rfl
  have hlt := hb.lt
  have HR := Lib.hid hr
  clear hr
  dsimp only
  go_enter Try.func31, Try.ntmps31
  go_wp2_with fail
  go_ret
  exact ⟨congrArg (fun b => Ending.returned (Value.bool b)) HR.out, (Below.refl _ _).alloc (Nat.le_refl _) _⟩

/-- the first of n places at which f holds, or -1 -/
def FirstAt (f : Nat → Bool) (n : Nat) (r : Int) : Prop := (∃ i : Nat, i < n ∧ f i = true ∧ (∀ j, j < i → f j = false) ∧ r = i) ∨ ((∀ j, j < n → f j = false) ∧ r = -1)

set_option maxHeartbeats 1000000 in
theorem index30 {w : World} (v : Value) (b : Nat) (s : ByteArray) (ps : List Part) (hr : RO w v 3 ps.length (partCells ps)) (hb : Blk w b 9 [.string s]) (hl : ps.length ≤ 100000) :
    Calls Try.prog 30 #[v, .func (Fn.func 31) #[] #[.pointer (some ⟨b, 0, none⟩)]] w fun e w' => ∃ r, FirstAt (fun i => sameS (ps.getD i default).name s) ps.length r ∧ e = .returned (.int .i64 r) ∧ Below w.heap.size w w' := by
  obtain ⟨p, c, rfl⟩ := hr.form
  have hl' : (ps.length : Int) ≤ 100000 := by omega
  have H := Lib.hid (And.intro hr hb)
  clear hr hb hl
  go_enter Try.func30, Try.ntmps30
  go_wp2_with fail
  generalize hB : w.heap.size = B at *
  go_loopw [8] (fun i wr => ∃ k : Nat, k ≤ ps.length ∧ i = .int .i64 k ∧ (∀ j, j < k → sameS (ps.getD j default).name s = false) ∧ Below B w wr) (fun i _ => ps.length - (intOf i).toNat)
  case atStart => exact ⟨0, Nat.zero_le _, rfl, fun j hj => absurd hj (Nat.not_lt_zero _), Below.refl _ _⟩
  case round =>
    obtain ⟨k, hk, rfl, hno, hbel⟩ := hrel
    have HR := Lib.hid (And.intro hno hbel)
    by_cases hlt : k < ps.length
    · obtain ⟨bb, o, rfl⟩ := H.out.1.sl (parts_at ps k hlt).1
      have hro := H.out.1.below (hB ▸ hbel)
      have h0 := hro.cell (parts_at ps k hlt).1
      have h1 := hro.cell (parts_at ps k hlt).2.1
      have h2 := hro.cell (parts_at ps k hlt).2.2
      rw [← Nat.add_assoc] at h1 h2
      obtain ⟨r, hr⟩ : ∃ r, sameS (ps.getD k default).name s = r := ⟨_, rfl⟩
      have HS := Lib.hid (show (fun i => sameS (ps.getD i default).name s) k = r from hr)
      have HC := Lib.hid (find1_any (w := wr) b s (ps.getD k default) (H.out.2.below (hB ▸ hbel) H.out.2.lt) r hr)
      generalize ps.getD k default = P at *
      obtain ⟨nm, tx, sp, sn, sc⟩ := P
      dsimp only [Part.st] at h0 h1 h2 HC
      clear hno hbel hro hr
      go_wp2_with fail
      refine HC.out.mono ?_; rintro e w2 ⟨rfl, hb2⟩
      have HB := Lib.hid (HR.out.2.trans (hb2.mono (by have := HR.out.2.size; omega)))
      clear hb2
      cases r
      · go_wp2_with fail
        go_roundw
        case rel => exact ⟨k + 1, by omega, by go_num, fun j hj => by
                      by_cases e : j = k
                      · subst e; exact HS.out
                      · exact HR.out.1 j (by omega), HB.out⟩
        case measure => simp [intOf]; omega
      · go_wp2_with fail
        go_ret
        exact ⟨k, .inl ⟨k, hlt, HS.out, HR.out.1, rfl⟩, rfl, hB ▸ HB.out⟩
    · obtain rfl : k = ps.length := by omega
      clear hno hbel hlt
      go_wp2_with fail
      go_ret
      exact ⟨-1, .inr ⟨HR.out.1, rfl⟩, rfl, hB ▸ HR.out.2⟩

/-- the number that Find gives -/
theorem find_any {w : World} {bt ps} (h : Tab w bt ps) (s : ByteArray) (hl : ps.length ≤ 100000) :
    Calls Try.prog 14 #[.pointer (some ⟨bt, 0, none⟩), .string s] w fun e w' => ∃ r, FirstAt (fun i => sameS (ps.getD i default).name s) ps.length r ∧ e = .returned (.int .i64 (1 + r)) ∧ Below w.heap.size w w' := by
  obtain ⟨v, hc, hr⟩ := h
  obtain ⟨p, c, rfl⟩ := hr.form
  have hb := World.block_lt_of_cell? _ _ hc
  have HI := Lib.hid (index30 (w := w.alloc (Obj.cells #[Value.string s] 9)) _ w.heap.size s ps (hr.below ((Below.refl _ _).alloc (Nat.le_refl _) _)) (Blk.new 9 [.string s]) hl)
  have hl' : (ps.length : Int) ≤ 100000 := by omega
  clear hr hl
  go_enter Try.func14, Try.ntmps14
  go_wp2_with fail
  refine HI.out.mono ?_; rintro e w2 ⟨r, hf, rfl, hb2⟩
  have hr0 : -1 ≤ r ∧ r ≤ 100000 := by rcases hf with ⟨i, h1, _, _, rfl⟩ | ⟨_, rfl⟩ <;> omega
  obtain ⟨hr1, hr2⟩ := hr0
  have HF := Lib.hid (And.intro hf (((Below.refl w.heap.size w).alloc (Nat.le_refl _) (Obj.cells #[Value.string s] 9)).trans (hb2.mono (by rw [World.size_alloc]; omega))))
  clear hf hb2
  go_wp2_with fail
  go_ret
  exact ⟨r, HF.out.1, rfl, HF.out.2⟩
end Go.Proofs.Ytonippdileikbaa
