import Derived.Test.YtcifiibpiooeiaaR4
namespace Go.Proofs.Ytcifiibpiooeiaa
set_option linter.unusedVariables false

/-! # the checker's invariant, plainly -/
theorem pigeon : ∀ (n : Nat) (l : List Nat), l.Nodup → (∀ x ∈ l, x < n) → l.length ≤ n
  | 0, l, _, h => by
    cases l with
    | nil => simp
    | cons x l => exact absurd (h x (by simp)) (by omega)
  | n + 1, l, hd, h => by
    by_cases hn : n ∈ l
    · have h1 := pigeon n (l.erase n) (hd.erase n) (fun x hx => by
        have h2 := (hd.mem_erase_iff).1 hx
        have := h x h2.2
        omega)
      rw [List.length_erase_of_mem hn] at h1
      omega
    · have h1 := pigeon n l hd (fun x hx => by
        have := h x hx
        have : x ≠ n := fun e => hn (e ▸ hx)
        omega)
      omega
theorem nodup_map {α β : Type} {f : α → β} : ∀ {l : List α}, l.Nodup → (∀ x ∈ l, ∀ y ∈ l, f x = f y → x = y) → (l.map f).Nodup
  | [], _, _ => by simp
  | a :: l, h, hi => by
    rw [List.map_cons, List.nodup_cons]
    rw [List.nodup_cons] at h
    refine ⟨fun hm => ?_, nodup_map h.2 fun x hx y hy => hi x (by simp [hx]) y (by simp [hy])⟩
    obtain ⟨y, hy, e⟩ := List.mem_map.1 hm
    have := hi y (by simp [hy]) a (by simp) e
    exact h.1 (this ▸ hy)
theorem Vals.tlen {v : Nat} {val trail : List Int} (h : Vals v val trail) : trail.length ≤ 2 * v + 2 := by
  have h1 := pigeon (2 * v + 2) (trail.map slotN) (nodup_map h.nd fun x hx y hy e => slotN_inj (h.lits x hx).1 e) (fun y hy => by
    obtain ⟨x, hx, rfl⟩ := List.mem_map.1 hy
    have := (h.lits x hx).2
    unfold slotN; split <;> omega)
  simpa using h1

/-- the clauses, as sets of literals -/
def ClsOf (S : St) (l : List Int) : Prop := ∃ i, i < S.m ∧ ∀ x, x ∈ S.cl i ↔ x ∈ l
structure Wf (S : St) (W : Nat → List Int) : Prop where
  vals : Vals S.v S.val S.trail
  lits : ∀ i, i < S.m → (∀ x, x ∈ S.cl i → x ≠ 0 ∧ x.natAbs ≤ S.v) ∧ (S.cl i).Nodup
  sh : ∀ i, i < S.m → (S.cl i).length < 2 → (i : Int) ∈ S.short
  sh2 : ∀ a, a ∈ S.short → ∃ i : Nat, a = i ∧ i < S.m ∧ (S.cl i).length < 2
  w1 : ∀ i, i < S.m → 2 ≤ (S.cl i).length → (i : Int) ∈ W (slotN ((S.cl i).getD 0 0)) ∧ (i : Int) ∈ W (slotN ((S.cl i).getD 1 0))
  w2 : ∀ s a, a ∈ W s → ∃ i : Nat, a = i ∧ i < S.m ∧ 2 ≤ (S.cl i).length ∧ (slotN ((S.cl i).getD 0 0) = s ∨ slotN ((S.cl i).getD 1 0) = s)
  nd : ∀ s, (W s).Nodup
/-- which clauses are looked after for the literals done -/
def Pr (S : St) (done : List Int) : Prop := ∀ i, i < S.m → 2 ≤ (S.cl i).length → ∀ j, j ∈ done → ((S.cl i).getD 0 0 = -j → (S.cl i).getD 1 0 ∈ S.trail) ∧ ((S.cl i).getD 1 0 = -j → (S.cl i).getD 0 0 ∈ S.trail)
theorem Wf.wlen {S : St} {W : Nat → List Int} (h : Wf S W) (s : Nat) : (W s).length ≤ S.m := by
  have h1 := pigeon S.m ((W s).map Int.toNat) (nodup_map (h.nd s) fun x hx y hy e => by
    obtain ⟨i, rfl, _⟩ := h.w2 s x hx
    obtain ⟨j, rfl, _⟩ := h.w2 s y hy
    have e2 : i = j := by simpa using e
    rw [e2]) (fun y hy => by
    obtain ⟨x, hx, rfl⟩ := List.mem_map.1 hy
    obtain ⟨i, rfl, hi, _⟩ := h.w2 s x hx
    simpa using hi)
  simpa using h1
theorem getD_mem {l : List Int} {i : Nat} (h : i < l.length) : l.getD i 0 ∈ l := by simp [List.getD, List.getElem?_eq_getElem h]
theorem getD_inj {l : List Int} (h : l.Nodup) {i j : Nat} (hi : i < l.length) (hj : j < l.length) (e : l.getD i 0 = l.getD j 0) : i = j := by
  have e2 : l[i] = l[j] := by simpa [List.getD, List.getElem?_eq_getElem hi, List.getElem?_eq_getElem hj] using e
  exact (List.getElem_inj h).1 e2
/-- the two watches of an oriented clause, and of a swapped one -/
theorem orient_get {c : List Int} {lit : Int} (h : 2 ≤ c.length) (hw : c.getD 0 0 = lit ∨ c.getD 1 0 = lit) (hn : c.Nodup) : (orient c lit).getD 1 0 = lit ∧ (orient c lit).Nodup ∧
    ((orient c lit).getD 0 0 = c.getD 0 0 ∨ (orient c lit).getD 0 0 = c.getD 1 0) ∧ (c.getD 0 0 = (orient c lit).getD 0 0 ∨ c.getD 0 0 = lit) ∧ (c.getD 1 0 = (orient c lit).getD 0 0 ∨ c.getD 1 0 = lit) := by
  match c, h with
  | p :: q :: r, _ =>
    unfold orient
    by_cases h0 : p = lit
    · subst h0
      have hn' : (¬p = q ∧ ¬p ∈ r) ∧ ¬q ∈ r ∧ r.Nodup := by simpa using hn
      have hn2 : (q :: p :: r).Nodup := by
        rw [List.nodup_cons, List.nodup_cons, List.mem_cons]
        exact ⟨fun h => h.elim (fun e => hn'.1.1 e.symm) hn'.2.1, hn'.1.2, hn'.2.2⟩
      simpa using hn2
    · simp [h0] at hw hn ⊢
      exact ⟨hw, hn, .inr hw⟩
theorem swap_mem {c : List Int} {i : Nat} (h2 : 2 ≤ i) (hi : i < c.length) (x : Int) : x ∈ swapAt c i ↔ x ∈ c := by
  have hp : (swapAt c i).Perm c := by
    have h1 : 1 < c.length := by omega
    have := @List.set_set_perm Int c 1 i h1 hi
    unfold swapAt
    simpa [List.getD, List.getElem?_eq_getElem h1, List.getElem?_eq_getElem hi] using this
  exact hp.mem_iff
theorem swap_nodup {c : List Int} {i : Nat} (h2 : 2 ≤ i) (hi : i < c.length) (hn : c.Nodup) : (swapAt c i).Nodup := by
  have hp : (swapAt c i).Perm c := by
    have h1 : 1 < c.length := by omega
    have := @List.set_set_perm Int c 1 i h1 hi
    unfold swapAt
    simpa [List.getD, List.getElem?_eq_getElem h1, List.getElem?_eq_getElem hi] using this
  exact hp.nodup_iff.2 hn
theorem swap_get {c : List Int} {i : Nat} (h2 : 2 ≤ i) (hi : i < c.length) : (swapAt c i).getD 0 0 = c.getD 0 0 ∧ (swapAt c i).getD 1 0 = c.getD i 0 ∧ (swapAt c i).length = c.length := by
  have h1 : 1 < c.length := by omega
  have e : i ≠ 1 := by omega
  have e0 : i ≠ 0 := by omega
  unfold swapAt
  refine ⟨?_, ?_, by simp⟩
  · simp [List.getD, e0]
  · simp [List.getD, e, h1]
end Go.Proofs.Ytcifiibpiooeiaa
