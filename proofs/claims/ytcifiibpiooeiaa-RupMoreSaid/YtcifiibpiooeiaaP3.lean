import Derived.Test.YtcifiibpiooeiaaP1
namespace Go.Proofs.Ytcifiibpiooeiaa
set_option linter.unusedVariables false

theorem norm_snoc (l : List Int) (x : Int) : norm (l ++ [x]) = insU x (norm l) := by simp [norm, List.foldl_append]
theorem take_snoc {l : List Int} {i : Nat} (h : i < l.length) : l.take (i + 1) = l.take i ++ [l.getD i 0] := by
  rw [List.take_add_one, List.getElem?_eq_getElem h]; simp [List.getD, List.getElem?_eq_getElem h]
theorem taut_mono {a b : List Int} (h : ∀ z, z ∈ a → z ∈ b) (ht : taut a = true) : taut b = true := by
  obtain ⟨x, h1, h2⟩ := (taut_iff a).1 ht
  exact (taut_iff b).2 ⟨x, h x h1, h _ h2⟩
theorem taut_take {l : List Int} {i : Nat} (h : taut (l.take i) = true) : taut l = true := taut_mono (fun z hz => List.mem_of_mem_take hz) h
/-- a literal is met whose other sign is there -/
theorem taut_hit {l : List Int} {i j : Nat} (hi : i < l.length) (hj : j < (norm (l.take i)).length) (e : (norm (l.take i)).getD j 0 = -(l.getD i 0)) : taut l = true := by
  have h1 : (norm (l.take i)).getD j 0 ∈ l.take i := (norm_mem _ _).1 (by simp [List.getD, List.getElem?_eq_getElem hj])
  rw [e] at h1
  refine (taut_iff l).2 ⟨l.getD i 0, by simp [List.getD, List.getElem?_eq_getElem hi], List.mem_of_mem_take h1⟩
/-- the inner loop has gone k places -/
def Gone (N : List Int) (x : Int) (k : Nat) (same : Bool) : Prop :=
  k ≤ N.length ∧ (∀ j, j < k → (N.getD j 0).natAbs ≤ x.natAbs ∧ N.getD j 0 ≠ -x) ∧ (same = true ↔ ∃ j, j < k ∧ N.getD j 0 = x)
theorem Gone.zero (N : List Int) (x : Int) : Gone N x 0 false := ⟨Nat.zero_le _, fun j hj => absurd hj (Nat.not_lt_zero _), by simp⟩
theorem Gone.step {N : List Int} {x : Int} {k : Nat} {same : Bool} (h : Gone N x k same) (hk : k < N.length) (h1 : (N.getD k 0).natAbs ≤ x.natAbs) (h2 : N.getD k 0 ≠ -x) : Gone N x (k + 1) (same || (N.getD k 0 == x)) := by
  refine ⟨hk, fun j hj => ?_, ?_⟩
  · by_cases e : j = k
    · subst e; exact ⟨h1, h2⟩
    · exact h.2.1 j (by omega)
  · rw [Bool.or_eq_true, h.2.2, beq_iff_eq]
    constructor
    · rintro (⟨j, hj, e⟩ | e)
      · exact ⟨j, by omega, e⟩
      · exact ⟨k, by omega, e⟩
    · rintro ⟨j, hj, e⟩
      by_cases e' : j = k
      · subst e'; exact .inr e
      · exact .inl ⟨j, by omega, e⟩
theorem getD_lt {N : List Int} (h : SS N) {i j : Nat} (hij : i < j) (hj : j < N.length) : klt (N.getD i 0) (N.getD j 0) := by
  have := List.pairwise_iff_getElem.1 h i j (by omega) hj hij
  simpa [List.getD, List.getElem?_eq_getElem hj, List.getElem?_eq_getElem (show i < N.length by omega)] using this
/-- behind the inner loop -/
theorem Gone.done {l : List Int} {i : Nat} {k : Nat} {same : Bool} (hi : i < l.length) (hx : l.getD i 0 ≠ 0) (h : Gone (norm (l.take i)) (l.getD i 0) k same) (ht : taut (l.take i) = false)
    (hend : k = (norm (l.take i)).length ∨ (k < (norm (l.take i)).length ∧ (l.getD i 0).natAbs < ((norm (l.take i)).getD k 0).natAbs)) :
    taut (l.take (i + 1)) = false ∧ (same = true → norm (l.take (i + 1)) = norm (l.take i)) ∧ (same = false → norm (l.take (i + 1)) = (norm (l.take i)).take k ++ [l.getD i 0] ++ (norm (l.take i)).drop k) := by
  rw [take_snoc hi, norm_snoc]
  have hss := norm_ss (l.take i)
  have hmem := norm_mem (l.take i)
  generalize l.getD i 0 = x at *
  generalize hN : norm (l.take i) = N at *
  -- what lies from k on is greater
  have hgt : ∀ j, k ≤ j → j < N.length → x.natAbs < (N.getD j 0).natAbs := by
    intro j hkj hj
    rcases hend with e | ⟨h1, h2⟩
    · omega
    · by_cases e : j = k
      · subst e; exact h2
      · have := getD_lt hss (show k < j by omega) hj
        unfold klt at this; omega
  have hin : ∀ z, z ∈ N → ∃ j, j < N.length ∧ N.getD j 0 = z := by
    intro z hz
    obtain ⟨j, hj, e⟩ := List.getElem_of_mem hz
    exact ⟨j, hj, by simp [List.getD, List.getElem?_eq_getElem hj, e]⟩
  have hnx : -x ∉ N := by
    intro hz
    obtain ⟨j, hj, e⟩ := hin _ hz
    by_cases hjk : j < k
    · exact (h.2.1 j hjk).2 e
    · have := hgt j (by omega) hj
      rw [e] at this; omega
  have hsame : same = true ↔ x ∈ N := by
    rw [h.2.2]
    constructor
    · rintro ⟨j, hj, e⟩
      have hj' : j < N.length := by have := h.1; omega
      rw [← e]; simp [List.getD, List.getElem?_eq_getElem hj']
    · intro hz
      obtain ⟨j, hj, e⟩ := hin _ hz
      by_cases hjk : j < k
      · exact ⟨j, hjk, e⟩
      · have := hgt j (by omega) hj
        rw [e] at this; omega
  have hU : SS (insU x N) := insU_ss x N hss
  refine ⟨?_, fun hs => ?_, fun hs => ?_⟩
  · cases hq : taut (l.take i ++ [x]) with
    | false => rfl
    | true =>
      obtain ⟨z, h1, h2⟩ := (taut_iff _).1 hq
      simp only [List.mem_append, List.mem_cons, List.not_mem_nil, or_false] at h1 h2
      exfalso
      rcases h1 with h1 | rfl
      · rcases h2 with h2 | h2
        · have := (taut_iff (l.take i)).2 ⟨z, h1, h2⟩; rw [ht] at this; cases this
        · have : z = -x := by omega
          rw [this] at h1
          exact hnx ((hmem _).2 h1)
      · rcases h2 with h2 | h2
        · exact hnx ((hmem _).2 h2)
        · omega
  · refine (ss_unique hU hss fun z => ?_)
    rw [insU_mem]
    constructor
    · rintro (rfl | hz)
      · exact hsame.1 hs
      · exact hz
    · exact .inr
  · have hxn : x ∉ N := fun hz => by rw [hsame.2 hz] at hs; cases hs
    have hlt : ∀ z ∈ N.take k, klt z x := by
      intro z hz
      obtain ⟨j, hj, e⟩ := List.getElem_of_mem hz
      have hjk : j < k := by simp only [List.length_take] at hj; omega
      have hjl : j < N.length := by simp only [List.length_take] at hj; omega
      have ez : N.getD j 0 = z := by
        rw [← e, List.getElem_take]; simp [List.getD, List.getElem?_eq_getElem hjl]
      have h1 := (h.2.1 j hjk)
      rw [ez] at h1
      have hne : z ≠ x := fun e' => hxn (by rw [← e', ← ez]; simp [List.getD, List.getElem?_eq_getElem hjl])
      unfold klt; omega
    have hgt' : ∀ z ∈ N.drop k, klt x z := by
      intro z hz
      obtain ⟨j, hj, e⟩ := List.getElem_of_mem hz
      have hjl : k + j < N.length := by simp only [List.length_drop] at hj; omega
      have ez : N.getD (k + j) 0 = z := by
        rw [← e, List.getElem_drop]; simp [List.getD, List.getElem?_eq_getElem hjl]
      have := hgt (k + j) (by omega) hjl
      rw [ez] at this
      exact .inl this
    refine ss_unique hU ?_ fun z => ?_
    · rw [List.append_assoc]
      have hp := hss
      rw [show SS N ↔ SS (N.take k ++ N.drop k) by rw [List.take_append_drop]] at hp
      have hp' := List.pairwise_append.1 hp
      refine List.pairwise_append.2 ⟨hp'.1, List.pairwise_append.2 ⟨by simp, hp'.2.1, fun a ha b hb => ?_⟩, fun a ha b hb => ?_⟩
      · rw [List.mem_singleton] at ha; subst ha; exact hgt' b hb
      · rcases List.mem_append.1 hb with hb | hb
        · rw [List.mem_singleton] at hb; subst hb; exact hlt a ha
        · exact hp'.2.2 a ha b hb
    · rw [insU_mem, List.mem_append, List.mem_append, List.mem_singleton]
      have : z ∈ N ↔ z ∈ N.take k ∨ z ∈ N.drop k := by rw [← List.mem_append, List.take_append_drop]
      rw [this]
      constructor
      · rintro (h | h | h)
        · exact .inl (.inr h)
        · exact .inl (.inl h)
        · exact .inr h
      · rintro ((h | h) | h)
        · exact .inr (.inl h)
        · exact .inl h
        · exact .inr (.inr h)
end Go.Proofs.Ytcifiibpiooeiaa
