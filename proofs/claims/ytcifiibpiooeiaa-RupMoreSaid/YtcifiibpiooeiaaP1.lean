import Derived.WalkKit
namespace Go.Proofs.Ytcifiibpiooeiaa
set_option linter.unusedVariables false

/-- the order of literals: by variable, the negative one first -/
def klt (a b : Int) : Prop := a.natAbs < b.natAbs ∨ (a.natAbs = b.natAbs ∧ a < b)
instance (a b : Int) : Decidable (klt a b) := inferInstanceAs (Decidable (_ ∨ _))
theorem klt_irrefl (a : Int) : ¬ klt a a := by unfold klt; omega
theorem klt_trans {a b c : Int} (h : klt a b) (k : klt b c) : klt a c := by unfold klt at *; omega
theorem klt_asymm {a b : Int} (h : klt a b) : ¬ klt b a := by unfold klt at *; omega
theorem klt_total (a b : Int) : klt a b ∨ a = b ∨ klt b a := by unfold klt; omega

def insU (x : Int) : List Int → List Int
  | [] => [x]
  | y :: l => if x = y then y :: l else if klt x y then x :: y :: l else y :: insU x l
def norm (l : List Int) : List Int := l.foldl (fun o x => insU x o) []
abbrev SS (l : List Int) : Prop := l.Pairwise klt

theorem insU_mem (x : Int) : ∀ (l : List Int) (z : Int), z ∈ insU x l ↔ z = x ∨ z ∈ l
  | [], z => by simp [insU]
  | y :: l, z => by
    unfold insU
    split
    · rename_i h; subst h; simp
    · split
      · simp
      · simp only [List.mem_cons, insU_mem x l z]
        constructor
        · rintro (h | h | h)
          · exact .inr (.inl h)
          · exact .inl h
          · exact .inr (.inr h)
        · rintro (h | h | h)
          · exact .inr (.inl h)
          · exact .inl h
          · exact .inr (.inr h)
theorem insU_ss (x : Int) : ∀ (l : List Int), SS l → SS (insU x l)
  | [], _ => by simp [insU, SS]
  | y :: l, h => by
    unfold insU
    have h' := List.pairwise_cons.1 h
    split
    · exact h
    · rename_i hne
      split
      · rename_i hlt
        refine List.pairwise_cons.2 ⟨fun z hz => ?_, h⟩
        rcases List.mem_cons.1 hz with rfl | hz
        · exact hlt
        · exact klt_trans hlt (h'.1 z hz)
      · rename_i hnlt
        refine List.pairwise_cons.2 ⟨fun z hz => ?_, insU_ss x l h'.2⟩
        rcases (insU_mem x l z).1 hz with rfl | hz
        · rcases klt_total z y with h1 | h1 | h1
          · exact absurd h1 hnlt
          · exact absurd h1 hne
          · exact h1
        · exact h'.1 z hz
theorem foldU (l : List Int) : ∀ o : List Int, SS o → SS (l.foldl (fun o x => insU x o) o) ∧ ∀ z, z ∈ l.foldl (fun o x => insU x o) o ↔ z ∈ o ∨ z ∈ l := by
  induction l with
  | nil => intro o h; exact ⟨h, fun z => by simp⟩
  | cons x l ih =>
    intro o h
    obtain ⟨h1, h2⟩ := ih _ (insU_ss x o h)
    refine ⟨h1, fun z => ?_⟩
    rw [List.foldl_cons, h2, insU_mem, List.mem_cons]
    constructor
    · rintro ((h | h) | h)
      · exact .inr (.inl h)
      · exact .inl h
      · exact .inr (.inr h)
    · rintro (h | h | h)
      · exact .inl (.inr h)
      · exact .inl (.inl h)
      · exact .inr h
theorem norm_ss (l : List Int) : SS (norm l) := (foldU l [] List.Pairwise.nil).1
theorem norm_mem (l : List Int) (z : Int) : z ∈ norm l ↔ z ∈ l := by
  have := (foldU l [] List.Pairwise.nil).2 z
  unfold norm; rw [this]; simp
theorem ss_unique : ∀ {a b : List Int}, SS a → SS b → (∀ z, z ∈ a ↔ z ∈ b) → a = b
  | [], [], _, _, _ => rfl
  | [], y :: b, _, _, h => absurd ((h y).2 (by simp)) (by simp)
  | x :: a, [], _, _, h => absurd ((h x).1 (by simp)) (by simp)
  | x :: a, y :: b, ha, hb, h => by
    have ha' := List.pairwise_cons.1 ha
    have hb' := List.pairwise_cons.1 hb
    have e : x = y := by
      rcases List.mem_cons.1 ((h x).1 (by simp)) with e | e
      · exact e
      · rcases List.mem_cons.1 ((h y).2 (by simp)) with e' | e'
        · exact e'.symm
        · exact absurd (ha'.1 y e') (klt_asymm (hb'.1 x e))
    subst e
    rw [ss_unique ha'.2 hb'.2 fun z => ?_]
    constructor
    · intro hz
      rcases List.mem_cons.1 ((h z).1 (List.mem_cons_of_mem _ hz)) with e | e
      · subst e; exact absurd (ha'.1 z hz) (klt_irrefl z)
      · exact e
    · intro hz
      rcases List.mem_cons.1 ((h z).2 (List.mem_cons_of_mem _ hz)) with e | e
      · subst e; exact absurd (hb'.1 z hz) (klt_irrefl z)
      · exact e
theorem insU_len (x : Int) : ∀ l : List Int, (insU x l).length ≤ l.length + 1
  | [] => by simp [insU]
  | y :: l => by
    unfold insU
    have := insU_len x l
    split
    · simp
    · split
      · simp
      · simp; omega
theorem norm_len (l : List Int) : (norm l).length ≤ l.length := by
  have : ∀ (l o : List Int), (l.foldl (fun o x => insU x o) o).length ≤ o.length + l.length := by
    intro l
    induction l with
    | nil => intro o; simp
    | cons x l ih => intro o; have := ih (insU x o); have := insU_len x o; simp only [List.foldl_cons, List.length_cons]; omega
  simpa [norm] using this l []
theorem norm_eq {l o : List Int} (h : SS o) (hm : ∀ z, z ∈ o ↔ z ∈ l) : o = norm l := ss_unique h (norm_ss l) fun z => by rw [hm, norm_mem]
theorem norm_congr {a b : List Int} (h : ∀ z, z ∈ a ↔ z ∈ b) : norm a = norm b := norm_eq (norm_ss a) fun z => by rw [norm_mem, h]
theorem ss_length {l : List Int} (h : SS l) {V : Nat} (hb : ∀ x ∈ l, x ≠ 0 ∧ x.natAbs ≤ V) : l.length ≤ 2 * V := by
  -- a strictly sorted list of at most 2 V values
  have hnd : l.Nodup := h.imp fun hab e => by subst e; exact klt_irrefl _ hab
  have hinj : (l.map fun x => if 0 < x then 2 * (x.natAbs - 1) else 2 * (x.natAbs - 1) + 1).Nodup := by
    refine List.pairwise_map.2 (h.imp_of_mem ?_)
    intro a b ha hb' hab
    have h1 := hb a ha
    have h2 := hb b hb'
    unfold klt at hab
    split <;> split <;> omega
  have hlt : ∀ y ∈ (l.map fun x => if 0 < x then 2 * (x.natAbs - 1) else 2 * (x.natAbs - 1) + 1), y < 2 * V := by
    intro y hy
    obtain ⟨x, hx, rfl⟩ := List.mem_map.1 hy
    have := hb x hx
    split <;> omega
  have := hinj.length_le_of_subset (l₂ := List.range (2 * V)) (fun y hy => List.mem_range.2 (hlt y hy))
  simpa using this

/-- a literal and that turned -/
def taut (l : List Int) : Bool := l.any fun x => l.contains (-x)
theorem taut_iff (l : List Int) : taut l = true ↔ ∃ x ∈ l, -x ∈ l := by simp [taut]
theorem taut_congr {a b : List Int} (h : ∀ z, z ∈ a ↔ z ∈ b) : taut a = taut b := by
  rw [Bool.eq_iff_iff, taut_iff, taut_iff]
  constructor <;> rintro ⟨x, h1, h2⟩
  · exact ⟨x, (h x).1 h1, (h _).1 h2⟩
  · exact ⟨x, (h x).2 h1, (h _).2 h2⟩
theorem taut_norm (l : List Int) : taut (norm l) = taut l := taut_congr (norm_mem l)

/-- in a sorted list a literal and that turned stand side by side -/
theorem taut_side {l : List Int} (h : SS l) (h0 : ∀ x ∈ l, x ≠ 0) : taut l = true ↔ ∃ i, i + 1 < l.length ∧ l.getD (i + 1) 0 = -(l.getD i 0) := by
  have hlt : ∀ {i j : Nat}, i < j → j < l.length → klt (l.getD i 0) (l.getD j 0) := by
    intro i j hij hj
    have := List.pairwise_iff_getElem.1 h i j (by omega) hj hij
    simpa [List.getD, List.getElem?_eq_getElem hj, List.getElem?_eq_getElem (show i < l.length by omega)] using this
  have hmem : ∀ {i : Nat}, i < l.length → l.getD i 0 ∈ l := by
    intro i hi
    simp [List.getD, List.getElem?_eq_getElem hi]
  rw [taut_iff]
  constructor
  · rintro ⟨x, hx, hnx⟩
    -- the negative one of the two
    obtain ⟨y, hy, hny, hneg⟩ : ∃ y, y ∈ l ∧ -y ∈ l ∧ y < 0 := by
      have := h0 x hx
      by_cases hn : x < 0
      · exact ⟨x, hx, hnx, hn⟩
      · exact ⟨-x, hnx, by rwa [Int.neg_neg], by omega⟩
    obtain ⟨i, hi, ei⟩ := List.getElem_of_mem hy
    obtain ⟨j, hj, ej⟩ := List.getElem_of_mem hny
    have gi : l.getD i 0 = y := by simp [List.getD, List.getElem?_eq_getElem hi, ei]
    have gj : l.getD j 0 = -y := by simp [List.getD, List.getElem?_eq_getElem hj, ej]
    have hij : i < j := by
      rcases Nat.lt_trichotomy i j with h1 | h1 | h1
      · exact h1
      · subst h1; rw [gi] at gj; omega
      · have := hlt h1 hi; rw [gi, gj] at this; unfold klt at this; omega
    refine ⟨i, by omega, ?_⟩
    by_cases e : i + 1 = j
    · rw [e, gi, gj]
    · have k1 := hlt (show i < i + 1 by omega) (show i + 1 < l.length by omega)
      have k2 := hlt (show i + 1 < j by omega) hj
      rw [gi] at k1; rw [gj] at k2
      unfold klt at k1 k2; omega
  · rintro ⟨i, hi, e⟩
    exact ⟨l.getD i 0, hmem (by omega), by rw [← e]; exact hmem hi⟩
end Go.Proofs.Ytcifiibpiooeiaa
