import Derived.Test.YtoccghbkfnalgaaP8
namespace Go.Proofs.Ytoccghbkfnalgaa

def rootsTo (g : G) (lits : List Int) : Nat → List Bool
  | 0 => List.replicate g.nodes.length false
  | k + 1 => if 0 ≤ lits.getD k 0 ∧ lits.getD k 0 / 2 < g.nodes.length then (rootsTo g lits k).set (lits.getD k 0 / 2).toNat true else rootsTo g lits k
theorem rootsTo_succ (g lits) (k : Nat) : rootsTo g lits (k + 1) = if 0 ≤ lits.getD k 0 ∧ lits.getD k 0 / 2 < g.nodes.length then (rootsTo g lits k).set (lits.getD k 0 / 2).toNat true else rootsTo g lits k := rfl
theorem rootsTo_length (g lits) : ∀ k, (rootsTo g lits k).length = g.nodes.length
  | 0 => by simp [rootsTo]
  | k + 1 => by rw [rootsTo_succ]; split <;> simp [rootsTo_length g lits k]

def coneStep (g : G) (S : List Bool) (n : Nat) : List Bool :=
  if S.getD n false = true ∧ (g.nodes.getD n (0, 0)).1 ≠ -1 then (S.set ((g.nodes.getD n (0, 0)).1 / 2).toNat true).set ((g.nodes.getD n (0, 0)).2 / 2).toNat true else S
theorem coneStep_length (g S n) : (coneStep g S n).length = S.length := by unfold coneStep; split <;> simp

def coneTo (g : G) (S : List Bool) : Nat → List Bool
  | 0 => S
  | j + 1 => coneStep g (coneTo g S j) (g.nodes.length - 1 - j)
theorem coneTo_succ (g S) (j : Nat) : coneTo g S (j + 1) = coneStep g (coneTo g S j) (g.nodes.length - 1 - j) := rfl
theorem coneTo_length (g S) : ∀ j, (coneTo g S j).length = S.length
  | 0 => rfl
  | j + 1 => by rw [coneTo_succ, coneStep_length, coneTo_length g S j]

def coneOut (g : G) (S : List Bool) : Nat → List Int
  | 0 => []
  | j + 1 => if (coneTo g S j).getD (g.nodes.length - 1 - j) false then coneOut g S j ++ [((g.nodes.length - 1 - j : Nat) : Int)] else coneOut g S j
theorem coneOut_succ (g S) (j : Nat) : coneOut g S (j + 1) = if (coneTo g S j).getD (g.nodes.length - 1 - j) false then coneOut g S j ++ [((g.nodes.length - 1 - j : Nat) : Int)] else coneOut g S j := rfl
theorem coneOut_length (g S) : ∀ j, (coneOut g S j).length ≤ j
  | 0 => Nat.le_refl _
  | j + 1 => by have := coneOut_length g S j; rw [coneOut_succ]; split <;> simp <;> omega

def gCone (g : G) (lits : List Int) : List Int := (coneOut g (rootsTo g lits lits.length) (g.nodes.length - 1)).reverse
end Go.Proofs.Ytoccghbkfnalgaa
