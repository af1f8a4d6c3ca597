import Derived.Test.YtoccghbkfnalgaaL1
import Derived.ProofKit
import Derived.Deep.Slices
namespace Go.Proofs.Ytoccghbkfnalgaa
set_option linter.unusedVariables false
open Go.RowKit Go.Deep Go.ChangeShapes Go.WideShapes

theorem flatMap_at {α : Type} (f : α → List Value) (size : Nat) (hs : 0 < size) (hf : ∀ y, (f y).length = size) : ∀ (l : List α) (j : Nat), (l.flatMap f)[j]? = (l[j / size]?).bind fun y => (f y)[j % size]?
  | [], j => by simp
  | y :: l, j => by
    rw [List.flatMap_cons]
    by_cases h : j < size
    · rw [List.getElem?_append_left (by rw [hf]; exact h), Nat.div_eq_of_lt h, Nat.mod_eq_of_lt h]; rfl
    · rw [List.getElem?_append_right (by rw [hf]; omega), hf, flatMap_at f size hs hf l (j - size)]
      have h1 : j / size = (j - size) / size + 1 := by rw [← Nat.add_div_right _ hs]; congr 1; omega
      have h2 : j % size = (j - size) % size := by rw [← Nat.add_mod_right (j - size) size]; congr 1; omega
      rw [h1, h2, List.getElem?_cons_succ]

theorem flatMap_len {α : Type} (f : α → List Value) (size : Nat) (hf : ∀ y, (f y).length = size) : ∀ (l : List α), (l.flatMap f).length = l.length * size
  | [] => by simp
  | y :: l => by rw [List.flatMap_cons, List.length_append, hf, flatMap_len f size hf l, List.length_cons, Nat.add_mul]; omega

/-- a slice that came in, read -/
theorem ro_open {α : Type} [Inhabited α] {H : Type} {enc : TypeId × Value → H} {P : Program} {w : World} {t e size : Nat} {v : Value} {d : DataW H} {ps : List MemPlace} {r : Reach} {b0 : Nat}
    (ht : P.underlying t = some (.slice e)) (hc : P.cellsOf e = size) (hs : 0 < size) (f : α → List Value) (hf : ∀ y, (f y).length = size)
    (hval : Value.okWide P w r b0 t v) (h : DataW.Trod enc P w 0 (fun _ => true) true t v d ps)
    (hg : ∀ fuel cs x, DataW.trod enc P w 0 (fun _ => true) true fuel e cs = some x → cs.length = size → ∃ y : α, cs = f y) :
    ∃ l : List α, RO w v size l.length (l.flatMap f) ∧ l.length ≤ maxLen := by
  obtain ⟨a0, len0, cap0, rfl⟩ := okWide_slice ht hval
  obtain ⟨fuel, hfu⟩ := h
  rcases open_slice ht hfu with ⟨hcs, _⟩ | ⟨a, len, cap, m, n, D, Pl, hcs, _, hl, hm, hmm, _, hel⟩
  · simp [Value.cells] at hcs
    obtain ⟨rfl, rfl, rfl⟩ := hcs
    exact ⟨[], ⟨by simp, none, 0, rfl, by simp⟩, by simp [maxLen]⟩
  · simp [Value.cells] at hcs
    obtain ⟨rfl, rfl, rfl⟩ := hcs
    have hlm : len0 ≤ m := by simpa using (by simpa using hmm : m = cap0) ▸ hl
    rw [hc] at hel
    have hch : ∀ i, i < len0 → ∃ y : α, ∀ r, r < size → w.cell? ((a.add (i * size)).add r) = (f y)[r]? := by
      intro i hi
      obtain ⟨cs', h1, h2⟩ := hel i (by omega)
      obtain ⟨_, h3, h4⟩ := World.cells?_some h1
      obtain ⟨y, rfl⟩ := hg _ _ _ h2 h3
      exact ⟨y, h4⟩
    obtain ⟨g, hgg⟩ := choose_lt hch
    refine ⟨(List.range len0).map g, ⟨flatMap_len f size hf _, some a, cap0, by simp, ?_⟩, by simp; omega⟩
    intro j u hu
    rw [flatMap_at f size hs hf] at hu
    simp only [List.getElem?_map, Option.bind_eq_some_iff] at hu
    obtain ⟨y, hy, hu⟩ := hu
    rw [Option.map_eq_some_iff] at hy
    obtain ⟨i, hi, rfl⟩ := hy
    have hjl : j / size < len0 := by
      rcases Nat.lt_or_ge (j / size) len0 with h | h
      · exact h
      · rw [List.getElem?_eq_none (by simpa using h)] at hi; cases hi
    rw [List.getElem?_range hjl] at hi
    obtain rfl : j / size = i := by simpa using hi
    have hc0 := hgg 0 (Nat.lt_of_le_of_lt (Nat.zero_le _) hjl) 0 hs
    have hsp : a.spot = none := by
      have h0 : (a.add (0 * size)).add 0 = a := by simp [Addr.add]
      rw [h0, List.getElem?_eq_getElem (by rw [hf]; exact hs)] at hc0
      exact World.cell?_spot hc0
    obtain ⟨b, o, s⟩ := a
    simp only at hsp
    subst hsp
    refine ⟨b, o, rfl, ?_⟩
    have := hgg (j / size) hjl (j % size) (Nat.mod_lt _ hs)
    rw [hu, Addr.add_add] at this
    rw [show j / size * size + j % size = j by rw [Nat.mul_comm]; exact Nat.div_add_mod j size] at this
    rw [← this]
    congr 1
    unfold Addr.add
    split <;> simp_all

theorem ro_bools {H : Type} {enc : TypeId × Value → H} {P : Program} {w : World} {t e : Nat} {v : Value} {d : DataW H} {ps : List MemPlace} {r : Reach} {b0 : Nat}
    (ht : P.underlying t = some (.slice e)) (he : P.underlying e = some .bool) (hc : P.cellsOf e = 1)
    (hval : Value.okWide P w r b0 t v) (h : DataW.Trod enc P w 0 (fun _ => true) true t v d ps) :
    ∃ l : List Bool, RO w v 1 l.length (bools l) ∧ l.length ≤ maxLen := by
  obtain ⟨l, h1, h2⟩ := ro_open ht hc Nat.one_pos (fun b : Bool => [.bool b]) (fun _ => rfl) hval h (fun fuel cs x hx _ => by
    obtain ⟨b, hb, _⟩ := DataW.trod_bool he hx
    exact ⟨b, hb⟩)
  refine ⟨l, ?_, h2⟩
  have : bools l = l.flatMap fun b => [.bool b] := by clear h1 h2; induction l <;> simp_all [bools]
  rw [this]; exact h1

theorem ro_ints {H : Type} {enc : TypeId × Value → H} {P : Program} {w : World} {t e : Nat} {v : Value} {d : DataW H} {ps : List MemPlace} {r : Reach} {b0 : Nat}
    (ht : P.underlying t = some (.slice e)) (he : P.underlying e = some (.int .i64)) (hc : P.cellsOf e = 1)
    (hval : Value.okWide P w r b0 t v) (h : DataW.Trod enc P w 0 (fun _ => true) true t v d ps) :
    ∃ l : List Int, RO w v 1 l.length (ints l) ∧ l.length ≤ maxLen := by
  obtain ⟨l, h1, h2⟩ := ro_open ht hc Nat.one_pos (fun b : Int => [.int .i64 b]) (fun _ => rfl) hval h (fun fuel cs x hx _ => by
    obtain ⟨b, hb, _⟩ := DataW.trod_int he hx
    exact ⟨b, hb⟩)
  refine ⟨l, ?_, h2⟩
  have : ints l = l.flatMap fun b => [.int .i64 b] := by clear h1 h2; induction l <;> simp_all [ints]
  rw [this]; exact h1
end Go.Proofs.Ytoccghbkfnalgaa
