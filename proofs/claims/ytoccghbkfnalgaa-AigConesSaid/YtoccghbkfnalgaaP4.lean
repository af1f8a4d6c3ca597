import Derived.Test.YtoccghbkfnalgaaP3
namespace Go.Proofs.Ytoccghbkfnalgaa
set_option linter.unusedVariables false

/-- what a lit is -/
def isV (vals : List Bool) (l : Int) : Bool := decide (0 ≤ l) && decide (l / 2 < vals.length) && (vals.getD (l / 2).toNat false == decide (l % 2 = 0))

def evInTo (N : Nat) (inputs : List Int) (ins : List Bool) : Nat → List Bool
  | 0 => List.replicate N false
  | k + 1 => (evInTo N inputs ins k).set (inputs.getD k 0).toNat (ins.getD k false)
theorem evInTo_length (N inputs ins) : ∀ k, (evInTo N inputs ins k).length = N
  | 0 => by simp [evInTo]
  | k + 1 => by simp [evInTo, evInTo_length N inputs ins k]

def evNodeTo (nodes : List (Int × Int)) (out : List Bool) : Nat → List Bool
  | 0 => out
  | k + 1 => if (nodes.getD k (0, 0)).1 = -1 then evNodeTo nodes out k else
      (evNodeTo nodes out k).set k (isV (evNodeTo nodes out k) (nodes.getD k (0, 0)).1 && isV (evNodeTo nodes out k) (nodes.getD k (0, 0)).2)
theorem evNodeTo_succ (nodes out) (k : Nat) : evNodeTo nodes out (k + 1) = if (nodes.getD k (0, 0)).1 = -1 then evNodeTo nodes out k else
      (evNodeTo nodes out k).set k (isV (evNodeTo nodes out k) (nodes.getD k (0, 0)).1 && isV (evNodeTo nodes out k) (nodes.getD k (0, 0)).2) := rfl
theorem evNodeTo_length (nodes out) : ∀ k, (evNodeTo nodes out k).length = out.length
  | 0 => by simp [evNodeTo]
  | k + 1 => by simp only [evNodeTo]; split <;> simp [evNodeTo_length nodes out k]

def gEval (g : G) (ins : List Bool) : List Bool := evNodeTo g.nodes (evInTo g.nodes.length g.inputs ins g.inputs.length) g.nodes.length


theorem getD_set (l : List Bool) (i j : Nat) (b : Bool) : (l.set i b).getD j false = if i = j ∧ i < l.length then b else l.getD j false := by
  simp only [List.getD, List.getElem?_set]
  by_cases h : i = j
  · subst h
    by_cases h2 : i < l.length
    · simp [h2]
    · simp [h2]
  · simp [h]

/-- a graph as it is built -/
structure WF (g : G) : Prop where
  pos : 0 < g.nodes.length
  zero : (g.nodes.getD 0 (0, 0)).1 = -1
  node : ∀ n, n < g.nodes.length → (g.nodes.getD n (0, 0)).1 ≠ -1 → 2 ≤ (g.nodes.getD n (0, 0)).1 ∧ (g.nodes.getD n (0, 0)).1 < (g.nodes.getD n (0, 0)).2 ∧ (g.nodes.getD n (0, 0)).2 / 2 < n ∧ (g.nodes.getD n (0, 0)).1 ≠ tnot (g.nodes.getD n (0, 0)).2
  inp : ∀ i, i < g.inputs.length → 0 < g.inputs.getD i 0 ∧ g.inputs.getD i 0 < g.nodes.length ∧ (g.nodes.getD (g.inputs.getD i 0).toNat (0, 0)).1 = -1
  mono : ∀ i j, i < j → j < g.inputs.length → g.inputs.getD i 0 < g.inputs.getD j 0
  kn : ∀ p n, look g.known p = some n → 0 < n ∧ n < g.nodes.length ∧ g.nodes.getD n.toNat (0, 0) = p
  nk : ∀ n, n < g.nodes.length → (g.nodes.getD n (0, 0)).1 ≠ -1 → look g.known (g.nodes.getD n (0, 0)) = some (n : Int)
  cnt : g.inputs.length + 1 + (g.nodes.filter fun p => p.1 ≠ -1).length = g.nodes.length

/-- values that fit a graph -/
structure Valu (V : List Bool) (ins : List Bool) (g : G) : Prop where
  len : g.nodes.length ≤ V.length
  zero : V.getD 0 false = false
  node : ∀ n, n < g.nodes.length → (g.nodes.getD n (0, 0)).1 ≠ -1 → V.getD n false = (isV V (g.nodes.getD n (0, 0)).1 && isV V (g.nodes.getD n (0, 0)).2)
  inp : ∀ i, i < g.inputs.length → V.getD (g.inputs.getD i 0).toNat false = ins.getD i false

/-- a graph that another goes on from -/
structure Le (g g' : G) : Prop where
  nodes : ∀ n, n < g.nodes.length → g'.nodes.getD n (0, 0) = g.nodes.getD n (0, 0)
  nl : g.nodes.length ≤ g'.nodes.length
  inputs : ∀ n, n < g.inputs.length → g'.inputs.getD n 0 = g.inputs.getD n 0
  il : g.inputs.length ≤ g'.inputs.length

theorem Le.refl (g : G) : Le g g := ⟨fun _ _ => rfl, Nat.le_refl _, fun _ _ => rfl, Nat.le_refl _⟩
theorem Le.trans {a b c : G} (h : Le a b) (k : Le b c) : Le a c :=
  ⟨fun n hn => (k.nodes n (Nat.lt_of_lt_of_le hn h.nl)).trans (h.nodes n hn), Nat.le_trans h.nl k.nl, fun n hn => (k.inputs n (Nat.lt_of_lt_of_le hn h.il)).trans (h.inputs n hn), Nat.le_trans h.il k.il⟩

theorem Valu.le {V ins g g'} (h : Valu V ins g') (k : Le g g') : Valu V ins g :=
  ⟨Nat.le_trans k.nl h.len, h.zero, fun n hn hne => by
    have := h.node n (Nat.lt_of_lt_of_le hn k.nl)
    rw [k.nodes n hn] at this; exact this hne,
   fun i hi => by have := h.inp i (Nat.lt_of_lt_of_le hi k.il); rw [k.inputs i hi] at this; exact this⟩

theorem getD_append_lt {α : Type} (l m : List α) (d : α) (n : Nat) (h : n < l.length) : (l ++ m).getD n d = l.getD n d := by
  simp [List.getD, List.getElem?_append_left h]
theorem getD_append_self {α : Type} (l : List α) (x d : α) : (l ++ [x]).getD l.length d = x := by
  simp [List.getD]

theorem Le.push (g : G) (p : Int × Int) (kn : List ((Int × Int) × Int)) : Le g { g with nodes := g.nodes ++ [p], known := kn } :=
  ⟨fun n hn => getD_append_lt _ _ _ _ hn, by simp, fun _ _ => rfl, Nat.le_refl _⟩
theorem gAnd_le (g : G) (a b : Int) : Le g (gAnd g a b).1 := by
  unfold gAnd; split; exact Le.refl _; split; exact Le.refl _; split; exact Le.refl _; exact Le.push _ _ _
theorem gMux_le (g : G) (c a b : Int) : Le g (gMux g c a b).1 := by
  unfold gMux; split; exact Le.refl _; exact ((gAnd_le _ _ _).trans (gAnd_le _ _ _)).trans (gAnd_le _ _ _)
theorem gInput_le (g : G) : Le g (gInput g).1 :=
  ⟨fun n hn => getD_append_lt _ _ _ _ hn, by simp [gInput], fun n hn => getD_append_lt _ _ _ _ hn, by simp [gInput]⟩
theorem gStep_le (g : G) (kd a b c : Int) : Le g (gStep g kd a b c).1 := by
  unfold gStep; split; exact gInput_le g; split; exact gAnd_le _ _ _; split; exact gAnd_le _ _ _; split; exact gMux_le _ _ _ _; split; exact gMux_le _ _ _ _; exact Le.refl _

/-! values -/
theorem isV_of {V : List Bool} {l : Int} (h0 : 0 ≤ l) (h1 : l / 2 < V.length) : isV V l = (V.getD (l / 2).toNat false == decide (l % 2 = 0)) := by simp [isV, h0, h1]
theorem isV_tnot {V : List Bool} {l : Int} (h0 : 0 ≤ l) (h1 : l / 2 < V.length) : isV V (tnot l) = !isV V l := by
  rw [isV_of h0 h1, isV_of (tnot_nonneg l h0) (by rw [tnot_div l h0]; exact h1), tnot_div l h0]
  have : decide (tnot l % 2 = 0) = !decide (l % 2 = 0) := by
    unfold tnot; split
    · rename_i h; simp [h]; omega
    · rename_i h; simp [h]; omega
  rw [this]
  cases V.getD (l / 2).toNat false <;> cases decide (l % 2 = 0) <;> rfl
theorem isV_zero {V : List Bool} (h : 0 < V.length) (hz : V.getD 0 false = false) : isV V 0 = false := by
  rw [isV_of (by omega) (by omega)]; simpa using hz
theorem isV_one {V : List Bool} (h : 0 < V.length) (hz : V.getD 0 false = false) : isV V 1 = true := by
  rw [isV_of (by omega) (by omega)]; simpa using hz
theorem isV_two {V : List Bool} (n : Nat) (h : n < V.length) : isV V (2 * n) = V.getD n false := by
  rw [isV_of (by omega) (by omega)]
  have : (2 * (n : Int) / 2).toNat = n := by omega
  rw [this]; simp

theorem and_val {V ins g a b} (hw : WF g) (ha : g.lit a) (hb : g.lit b) (hv : Valu V ins (gAnd g a b).1) : isV V (gAnd g a b).2 = (isV V a && isV V b) := by
  have hvg := hv.le (gAnd_le g a b)
  have hl := hvg.len
  have hp := hw.pos
  have h0 := isV_zero (V := V) (by omega) hv.zero
  have h1 := isV_one (V := V) (by omega) hv.zero
  have hbl := ha.1
  have hbl' := hb.1
  have hc : (isV V a && isV V b) = (isV V (min a b) && isV V (max a b)) := by
    rcases Int.le_total a b with h | h
    · rw [Int.min_eq_left h, Int.max_eq_right h]
    · rw [Int.min_eq_right h, Int.max_eq_left h, Bool.and_comm]
  have hmx : 0 ≤ max a b := by omega
  have hmn : 0 ≤ min a b := by omega
  have hmv : max a b / 2 < (V.length : Int) := by have := ha.2; have := hb.2; omega
  rw [hc]
  generalize hx : min a b = x at *
  generalize hy : max a b = y at *
  have hxy : x ≤ y := by omega
  unfold gAnd at hv ⊢
  rw [hx, hy] at hv ⊢
  split
  · rename_i h
    rw [h0]
    rcases h with h | h
    · rw [h, h0]; rfl
    · rw [h, isV_tnot hmx hmv]; simp
  · rename_i hA
    rw [if_neg hA] at hv
    split
    · rename_i h
      rcases h with h | h
      · rw [h, h1]; simp
      · rw [h]; simp
    · rename_i hB
      rw [if_neg hB] at hv
      cases hk : look g.known (x, y) with
      | some n =>
        simp only [hk] at hv ⊢
        obtain ⟨k1, k2, k3⟩ := hw.kn _ _ hk
        have := hvg.node n.toNat (by omega) (by rw [k3]; simp; omega)
        rw [k3] at this
        simp only at this
        rw [← this, ← isV_two n.toNat (by omega)]
        congr 1; omega
      | none =>
        simp only [hk] at hv ⊢
        have := hv.node g.nodes.length (by simp) (by simp only [getD_append_self]; omega)
        simp only [getD_append_self] at this
        have hln := hv.len
        simp only [List.length_append, List.length_cons, List.length_nil] at hln
        rw [← this, ← isV_two g.nodes.length (by omega)]

theorem and_wf {g a b} (hw : WF g) (ha : g.lit a) (hb : g.lit b) : WF (gAnd g a b).1 := by
  have hbl := ha.1
  have hbl' := hb.1
  have hm : max a b / 2 < (g.nodes.length : Int) := by have := ha.2; have := hb.2; omega
  have hmn : 0 ≤ min a b := by omega
  unfold gAnd
  split
  · exact hw
  · rename_i hA
    split
    · exact hw
    · rename_i hB
      split
      · exact hw
      · rename_i hk
        have hxy : min a b ≤ max a b := by omega
        generalize min a b = x at *
        generalize max a b = y at *
        have hx2 : 2 ≤ x ∧ x < y ∧ x ≠ tnot y := by
          refine ⟨?_, ?_, fun h => hA (.inr h)⟩ <;> omega
        refine ⟨by simp, ?_, ?_, ?_, hw.mono, ?_, ?_, ?_⟩
        · simp only [getD_append_lt _ _ _ _ hw.pos]; exact hw.zero
        · intro n hn hne
          simp only [List.length_append, List.length_cons, List.length_nil] at hn
          by_cases h : n < g.nodes.length
          · simp only [getD_append_lt _ _ _ _ h] at hne ⊢; exact hw.node n h hne
          · obtain rfl : n = g.nodes.length := by omega
            simp only [getD_append_self]
            exact ⟨hx2.1, hx2.2.1, hm, hx2.2.2⟩
        · intro i hi
          obtain ⟨h1, h2, h3⟩ := hw.inp i hi
          refine ⟨h1, by have := h2; simp only [List.length_append, List.length_cons, List.length_nil]; omega, ?_⟩
          simp only
          rw [getD_append_lt _ _ _ _ (by omega)]; exact h3
        · intro p n hl
          simp only [look_snoc] at hl
          cases h' : look g.known p with
          | some m =>
            rw [h'] at hl; simp at hl; subst hl
            obtain ⟨h1, h2, h3⟩ := hw.kn _ _ h'
            refine ⟨h1, by simp; omega, ?_⟩
            simp only
            rw [getD_append_lt _ _ _ _ (by omega)]; exact h3
          | none =>
            rw [h'] at hl; simp at hl
            obtain ⟨rfl, rfl⟩ := hl
            refine ⟨by have := hw.pos; omega, by simp; omega, ?_⟩
            simp only [Int.toNat_natCast, getD_append_self]
        · intro n hn hne
          simp only [List.length_append, List.length_cons, List.length_nil] at hn
          simp only [look_snoc]
          by_cases h : n < g.nodes.length
          · simp only [getD_append_lt _ _ _ _ h] at hne ⊢
            rw [hw.nk n h hne]; rfl
          · obtain rfl : n = g.nodes.length := by omega
            simp only [getD_append_self, hk]; simp
        · have := hw.cnt
          have hf : ([(x, y)].filter fun p : Int × Int => p.1 ≠ -1).length = 1 := by
            have : x ≠ -1 := by omega
            simp [this]
          simp only [List.filter_append, List.length_append, hf, List.length_cons, List.length_nil]
          omega
end Go.Proofs.Ytoccghbkfnalgaa
