import Derived.Test.YtcifiibpiooeiaaR15
namespace Go.Proofs.Ytcifiibpiooeiaa
set_option linter.unusedVariables false

/-! ## RupMore, plainly -/
def FolP (v : Nat) (cls : List (List Int)) (l : List Int) (f : Bool) : Prop := f = true ↔ l.any (badL v) = false ∧ Fails (SetOf cls) (fun x => -x ∈ l)
theorem any_same {p : Int → Bool} {l l' : List Int} (h : ∀ x, x ∈ l ↔ x ∈ l') : l.any p = l'.any p := by
  rw [Bool.eq_iff_iff]
  simp only [List.any_eq_true]
  exact ⟨fun ⟨x, hx, hp⟩ => ⟨x, (h x).1 hx, hp⟩, fun ⟨x, hx, hp⟩ => ⟨x, (h x).2 hx, hp⟩⟩
/-- the same literals: the same answer -/
theorem fol_same {v : Nat} {cls : List (List Int)} {l l' : List Int} {f f' : Bool} (h : ∀ x, x ∈ l ↔ x ∈ l') (h1 : FolP v cls l f) (h2 : FolP v cls l' f') : f' = f := by
  have e : (l.any (badL v) = false ∧ Fails (SetOf cls) (fun x => -x ∈ l)) ↔ (l'.any (badL v) = false ∧ Fails (SetOf cls) (fun x => -x ∈ l')) := by
    rw [any_same h]
    exact and_congr Iff.rfl ⟨fun hf => hf.mono (fun _ h => h) (fun x hx => (h _).1 hx), fun hf => hf.mono (fun _ h => h) (fun x hx => (h _).2 hx)⟩
  have := (h2.trans e.symm).trans h1.symm
  rw [Bool.eq_iff_iff]; exact this
/-- more clauses, more literals: it goes on following -/
theorem fol_more {v : Nat} {cls cls' : List (List Int)} {l l' : List Int} {f : Bool} (h1 : FolP v cls l true) (hc : ∀ c, c ∈ cls → c ∈ cls') (hl : ∀ x, x ∈ l → x ∈ l') (hb : l'.any (badL v) = false) (h2 : FolP v cls' l' f) : f = true :=
  h2.2 ⟨hb, (h1.1 rfl).2.mono (fun c ⟨d, hd, hx⟩ => ⟨d, hc d hd, hx⟩) (fun x hx => hl _ hx)⟩
/-- the literals that the law takes -/
def litsM (v : Nat) (l : List Int) : List Int := l.foldl (fun acc x => if x ≠ 0 ∧ x ≤ (v : Int) ∧ -(v : Int) ≤ x ∧ acc.length < 10 then acc ++ [x] else acc) []
theorem litsM_snoc (v : Nat) (l : List Int) (x : Int) : litsM v (l ++ [x]) = if x ≠ 0 ∧ x ≤ (v : Int) ∧ -(v : Int) ≤ x ∧ (litsM v l).length < 10 then litsM v l ++ [x] else litsM v l := by
  unfold litsM
  rw [List.foldl_append]
  rfl
theorem litsM_ok (v : Nat) (l : List Int) : ∀ k, k ≤ l.length → (litsM v (l.take k)).length ≤ 10 ∧ ∀ x, x ∈ litsM v (l.take k) → x ≠ 0 ∧ x.natAbs ≤ v
  | 0, _ => by simp [litsM]
  | k + 1, hk => by
    obtain ⟨h1, h2⟩ := litsM_ok v l k (by omega)
    have e : l.take (k + 1) = l.take k ++ [l[k]] := by rw [List.take_add_one]; simp [List.getElem?_eq_getElem (show k < l.length by omega)]
    rw [e, litsM_snoc]
    split
    · rename_i hc
      refine ⟨by simp; omega, fun x hx => ?_⟩
      rcases List.mem_append.1 hx with hx | hx
      · exact h2 x hx
      · have : x = l[k] := by simpa using hx
        rw [this]; exact ⟨hc.1, by omega⟩
    · exact ⟨h1, h2⟩
theorem none_bad {v : Nat} {l : List Int} (h : ∀ x, x ∈ l → x ≠ 0 ∧ x.natAbs ≤ v) : l.any (badL v) = false := List.any_eq_false.2 fun x hx => by
  have := h x hx
  simp [badL]
  omega
end Go.Proofs.Ytcifiibpiooeiaa
