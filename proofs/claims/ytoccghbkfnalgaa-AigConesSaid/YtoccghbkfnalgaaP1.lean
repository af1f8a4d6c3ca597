/- The graph, plain. -/
namespace Go.Proofs.Ytoccghbkfnalgaa
set_option linter.unusedVariables false

structure G where
  nodes : List (Int × Int)
  inputs : List Int
  known : List ((Int × Int) × Int)

def look : List ((Int × Int) × Int) → Int × Int → Option Int
  | [], _ => none
  | x :: r, p => if p = x.1 then some x.2 else look r p


def tnot (a : Int) : Int := if a % 2 = 0 then a + 1 else a - 1

/-- a literal of the graph -/
def G.lit (g : G) (a : Int) : Prop := 0 ≤ a ∧ a / 2 < g.nodes.length

/-- the graph behind an and, and the and -/
def gAnd (g : G) (a b : Int) : G × Int :=
  if min a b = 0 ∨ min a b = tnot (max a b) then (g, 0)
  else if min a b = 1 ∨ min a b = max a b then (g, max a b)
  else match look g.known (min a b, max a b) with
    | some n => (g, 2 * n)
    | none => ({ g with nodes := g.nodes ++ [(min a b, max a b)], known := g.known ++ [((min a b, max a b), (g.nodes.length : Int))] }, 2 * g.nodes.length)

def gOr (g : G) (a b : Int) : G × Int := ((gAnd g (tnot a) (tnot b)).1, tnot (gAnd g (tnot a) (tnot b)).2)

def gMux (g : G) (c a b : Int) : G × Int :=
  if a = b then (g, a)
  else gOr (gAnd (gAnd g c a).1 (tnot c) b).1 (gAnd g c a).2 (gAnd (gAnd g c a).1 (tnot c) b).2

def gXor (g : G) (a b : Int) : G × Int := gMux g a (tnot b) b

def gInput (g : G) : G × Int := ({ g with nodes := g.nodes ++ [(-1, -1)], inputs := g.inputs ++ [(g.nodes.length : Int)] }, 2 * g.nodes.length)

/-- what the map knows are nodes -/
def G.Kn (g : G) : Prop := ∀ p n, look g.known p = some n → 0 < n ∧ n < g.nodes.length

theorem look_snoc (l : List ((Int × Int) × Int)) (x : (Int × Int) × Int) (p : Int × Int) : look (l ++ [x]) p = (look l p).or (if p = x.1 then some x.2 else none) := by
  induction l with
  | nil => simp [look]
  | cons y l ih => simp only [List.cons_append, look]; split <;> simp [ih]

theorem tnot_div (a : Int) (h : 0 ≤ a) : tnot a / 2 = a / 2 := by unfold tnot; split <;> omega
theorem tnot_nonneg (a : Int) (h : 0 ≤ a) : 0 ≤ tnot a := by unfold tnot; split <;> omega
theorem tnot_tnot (a : Int) : tnot (tnot a) = a := by unfold tnot; split <;> split <;> omega
theorem G.lit.tnot {g : G} {a : Int} (h : g.lit a) : g.lit (tnot a) := ⟨tnot_nonneg a h.1, by rw [tnot_div a h.1]; exact h.2⟩
theorem G.lit.mono {g g' : G} {a : Int} (h : g.lit a) (hl : g.nodes.length ≤ g'.nodes.length) : g'.lit a := ⟨h.1, by have := h.2; omega⟩

/-- what making does to the graph -/
structure Grows (g g' : G) (k : Nat) : Prop where
  lo : g.nodes.length ≤ g'.nodes.length
  hi : g'.nodes.length ≤ g.nodes.length + k
  kn : g'.Kn

theorem Grows.trans {g g' g'' : G} {k l : Nat} (h : Grows g g' k) (h' : Grows g' g'' l) : Grows g g'' (k + l) :=
  ⟨Nat.le_trans h.lo h'.lo, by have := h.hi; have := h'.hi; omega, h'.kn⟩
theorem Grows.le {g g' : G} {k l : Nat} (h : Grows g g' k) (hl : k ≤ l) : Grows g g' l := ⟨h.lo, Nat.le_trans h.hi (by omega), h.kn⟩

theorem gAnd_grows (g : G) (a b : Int) (ha : g.lit a) (hb : g.lit b) (hk : g.Kn) (hne : 0 < g.nodes.length) : Grows g (gAnd g a b).1 1 ∧ (gAnd g a b).1.lit (gAnd g a b).2 := by
  have refl : Grows g g 1 := ⟨Nat.le_refl _, Nat.le_succ _, hk⟩
  have hm : g.lit (max a b) := by rcases Int.le_total a b with h | h; rw [Int.max_eq_right h]; exact hb; rw [Int.max_eq_left h]; exact ha
  unfold gAnd
  split
  · exact ⟨refl, by simp, by simp; omega⟩
  · split
    · exact ⟨refl, hm⟩
    · split
      · rename_i n hl
        obtain ⟨h1, h2⟩ := hk _ _ hl
        exact ⟨refl, by omega, by simp; omega⟩
      · rename_i hl
        refine ⟨⟨by simp, by simp, ?_⟩, by simp; omega, by simp; omega⟩
        intro p n h
        simp only [look_snoc] at h
        cases h' : look g.known p with
        | some m =>
          rw [h'] at h; simp at h; subst h
          obtain ⟨h1, h2⟩ := hk _ _ h'
          exact ⟨h1, by simp; omega⟩
        | none =>
          rw [h'] at h; simp at h
          obtain ⟨_, rfl⟩ := h
          exact ⟨by omega, by simp; omega⟩

theorem gOr_grows (g : G) (a b : Int) (ha : g.lit a) (hb : g.lit b) (hk : g.Kn) (hne : 0 < g.nodes.length) : Grows g (gOr g a b).1 1 ∧ (gOr g a b).1.lit (gOr g a b).2 := by
  have h := gAnd_grows g (tnot a) (tnot b) ha.tnot hb.tnot hk hne
  exact ⟨h.1, h.2.tnot⟩

theorem gMux_grows (g : G) (c a b : Int) (hc : g.lit c) (ha : g.lit a) (hb : g.lit b) (hk : g.Kn) (hne : 0 < g.nodes.length) : Grows g (gMux g c a b).1 3 ∧ (gMux g c a b).1.lit (gMux g c a b).2 := by
  unfold gMux
  split
  · exact ⟨⟨Nat.le_refl _, Nat.le_add_right _ _, hk⟩, ha⟩
  · have h1 := gAnd_grows g c a hc ha hk hne
    have h2 := gAnd_grows (gAnd g c a).1 (tnot c) b (hc.tnot.mono h1.1.lo) (hb.mono h1.1.lo) h1.1.kn (by have := h1.1.lo; omega)
    have h3 := gOr_grows _ (gAnd g c a).2 (gAnd (gAnd g c a).1 (tnot c) b).2 (h1.2.mono h2.1.lo) h2.2 h2.1.kn (by have := h1.1.lo; have := h2.1.lo; omega)
    exact ⟨(h1.1.trans h2.1).trans h3.1, h3.2⟩
end Go.Proofs.Ytoccghbkfnalgaa
