import Derived.Test.YtcifiibpiooeiaaRP8
namespace Go.Proofs.Ytcifiibpiooeiaa
set_option linter.unusedVariables false
open Go.RowKit

/-! ## RupMore, plainly: single literals are added -/
theorem HasC.move {A A' : Nat → Prop} {w w' : World} {bc : Nat} {F v cls} (h : HasC A w bc F v cls) (hu : Upd A A' w w') (hF : ∀ k, F k → ¬ A k) : HasC A' w' bc F v cls := by
  obtain ⟨sv, sls, h, rfl, ha⟩ := h
  exact ⟨sv, sls, h.upd hu hF ha, rfl, fun i hi => (ha i hi).upd hu⟩
theorem AppR.upd {base e size : Nat} {w w' : World} {v v' : Value} {n : Nat} {all : List Value} (h : AppR base e size w v n all v' w') : Upd (fun k => v.ownBlock = some k) (fun k => v'.ownBlock = some k) w w' := by
  obtain ⟨hos, ht, ho, hs, hb⟩ := h.grown
  refine ⟨hos, ht, ho, hs, fun k hk hn => hb k hk (Ne.symm hn), fun k hk => ?_⟩
  rcases h.at_ with e | e
  · rw [e] at hk; exact .inl hk
  · rw [e] at hk; cases hk; exact .inr (Nat.le_refl _)
/-- one literal is added, and kept if it was one -/
def oneM (v : Nat) (s : List (List Int) × List Int) (x : Int) : List (List Int) × List Int := ((addC v s.1 [x]).1, if (addC v s.1 [x]).2 = 0 ∧ x ≠ 0 then s.2 ++ [x] else s.2)
def moreM (v : Nat) (cls : List (List Int)) (lits l : List Int) : List (List Int) × List Int := l.foldl (oneM v) (cls, lits)
theorem moreM_snoc (v : Nat) (cls : List (List Int)) (lits l : List Int) (x : Int) : moreM v cls lits (l ++ [x]) = oneM v (moreM v cls lits l) x := by
  unfold moreM
  rw [List.foldl_append]
  rfl
theorem moreM_take (v : Nat) (cls : List (List Int)) (lits l : List Int) {k : Nat} (h : k < l.length) : moreM v cls lits (l.take (k + 1)) = oneM v (moreM v cls lits (l.take k)) (l.getD k 0) := by
  have e : l.take (k + 1) = l.take k ++ [l[k]] := by rw [List.take_add_one]; simp [List.getElem?_eq_getElem h]
  rw [e, moreM_snoc]
  simp [List.getD, List.getElem?_eq_getElem h]
theorem litsM_take (v : Nat) (l : List Int) {k : Nat} (h : k < l.length) : litsM v (l.take (k + 1)) = if l.getD k 0 ≠ 0 ∧ l.getD k 0 ≤ (v : Int) ∧ -(v : Int) ≤ l.getD k 0 ∧ (litsM v (l.take k)).length < 10 then litsM v (l.take k) ++ [l.getD k 0] else litsM v (l.take k) := by
  have e : l.take (k + 1) = l.take k ++ [l[k]] := by rw [List.take_add_one]; simp [List.getElem?_eq_getElem h]
  rw [e, litsM_snoc]
  simp [List.getD, List.getElem?_eq_getElem h]
theorem addC_keeps (v : Nat) (cls : List (List Int)) (l : List Int) : (∀ c, c ∈ cls → c ∈ (addC v cls l).1) ∧ (addC v cls l).1.length ≤ cls.length + 1 := by
  unfold addC
  split
  · exact ⟨fun c h => h, by simp⟩
  · split
    · exact ⟨fun c h => h, by simp⟩
    · split
      · exact ⟨fun c h => h, by simp⟩
      · exact ⟨fun c h => by simp [h], by simp⟩
theorem addC_ok {v : Nat} {cls : List (List Int)} {x : Int} (h : (addC v cls [x]).2 = 0) : x ≠ 0 ∧ x.natAbs ≤ v := by
  by_cases hk : known v x = true
  · exact (known_iff v x).1 hk
  · unfold addC at h
    rw [if_pos (by simp [hk])] at h
    simp at h
structure MoreOk (v : Nat) (cls : List (List Int)) (lits : List Int) (k : Nat) (s : List (List Int) × List Int) : Prop where
  keep : ∀ c, c ∈ cls → c ∈ s.1
  wf : WFC v s.1
  l1 : s.1.length ≤ cls.length + k
  l2 : s.2.length ≤ lits.length + k
  lit : ∀ x, x ∈ lits → x ∈ s.2
  ok : ∀ x, x ∈ s.2 → x ≠ 0 ∧ x.natAbs ≤ v
theorem moreM_ok {v : Nat} {cls : List (List Int)} {lits : List Int} (hw : WFC v cls) (hl : ∀ x, x ∈ lits → x ≠ 0 ∧ x.natAbs ≤ v) (l : List Int) : ∀ k, k ≤ l.length → MoreOk v cls lits k (moreM v cls lits (l.take k))
  | 0, _ => ⟨fun c h => h, hw, Nat.le_refl _, Nat.le_refl _, fun x h => h, hl⟩
  | k + 1, hk => by
    have ih := moreM_ok hw hl l k (by omega)
    rw [moreM_take v cls lits l (by omega)]
    generalize moreM v cls lits (l.take k) = s at *
    generalize l.getD k 0 = x at *
    have ha := addC_keeps v s.1 [x]
    refine ⟨fun c h => ha.1 c (ih.keep c h), addC_wf ih.wf _, by have := ih.l1; have := ha.2; simp only [oneM]; omega, ?_, ?_, ?_⟩
    · have := ih.l2
      simp only [oneM]
      split
      · simp; omega
      · omega
    · intro y hy
      have := ih.lit y hy
      simp only [oneM]
      split
      · simp [this]
      · exact this
    · intro y hy
      simp only [oneM] at hy
      split at hy
      · rename_i hc
        rcases List.mem_append.1 hy with hy | hy
        · exact ih.ok y hy
        · obtain rfl : y = x := by simpa using hy
          exact addC_ok hc.1
      · exact ih.ok y hy
end Go.Proofs.Ytcifiibpiooeiaa
