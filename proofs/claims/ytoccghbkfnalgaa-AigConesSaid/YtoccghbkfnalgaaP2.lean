import Derived.Test.YtoccghbkfnalgaaP1
namespace Go.Proofs.Ytoccghbkfnalgaa
set_option linter.unusedVariables false

structure Actn where
  kind : Int
  a : Int
  b : Int
  c : Int
instance : Inhabited Actn := ⟨⟨0, 0, 0, 0⟩⟩

def actVal (kind : Int) (a b c i : Bool) : Bool :=
  if kind = 0 then i else if kind = 1 then a && b else if kind = 2 then a || b else if kind = 3 then a != b else if kind = 4 then (if c then a else b) else !a

def opV (out : List Bool) (i : Int) : Bool := if out.length = 0 then false else out.getD (i % out.length).toNat false

def refTo (acts : List Actn) (ins : List Bool) : Nat → List Bool × Nat
  | 0 => ([], 0)
  | k + 1 => ((refTo acts ins k).1 ++ [actVal (acts.getD k default).kind (opV (refTo acts ins k).1 (acts.getD k default).a) (opV (refTo acts ins k).1 (acts.getD k default).b) (opV (refTo acts ins k).1 (acts.getD k default).c) (ins.getD (refTo acts ins k).2 false)],
      if (acts.getD k default).kind = 0 then (refTo acts ins k).2 + 1 else (refTo acts ins k).2)
theorem refTo_succ (acts : List Actn) (ins : List Bool) (k : Nat) : refTo acts ins (k + 1) = ((refTo acts ins k).1 ++ [actVal (acts.getD k default).kind (opV (refTo acts ins k).1 (acts.getD k default).a) (opV (refTo acts ins k).1 (acts.getD k default).b) (opV (refTo acts ins k).1 (acts.getD k default).c) (ins.getD (refTo acts ins k).2 false)],
      if (acts.getD k default).kind = 0 then (refTo acts ins k).2 + 1 else (refTo acts ins k).2) := rfl
theorem refTo_length (acts ins) : ∀ k, (refTo acts ins k).1.length = k
  | 0 => rfl
  | k + 1 => by simp [refTo, refTo_length acts ins k]
theorem refTo_next (acts ins) : ∀ k, (refTo acts ins k).2 ≤ k
  | 0 => Nat.le_refl _
  | k + 1 => by have := refTo_next acts ins k; simp only [refTo]; split <;> omega
end Go.Proofs.Ytoccghbkfnalgaa
