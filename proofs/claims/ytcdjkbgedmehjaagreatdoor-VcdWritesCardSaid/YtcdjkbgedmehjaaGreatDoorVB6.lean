
import Derived.Test.YtcdjkbgedmehjaaGreatDoorVB5
namespace Go.Proofs.YtcdjkbgedmehjaaGreatDoor
set_option linter.unusedVariables false
open Go.RowKit
theorem held_take {P : Program} {md : Region.Mode} {ops : Array Oper} {Q : Exit → Act → World → Prop} {S : World → Prop} {i : Nat} {oi : Oper} {v : Value} {fuel : Nat} {listed : Array Bool} {a : Act} {w : World} (hi : ops.toList[i]? = some oi)
    (hs : Region.noSelect ops = true) (hf : Region.free md ops listed i = true) (hr : (Region.ready md ops listed).contains i = true)
    (hQ : ∀ c a w, Q (.panic c) (a.put oi.dst v) w → Q (.panic c) a w) (hy : YieldsIf P ops S oi v a) (hS : S w)
    (h : wpAnyH P md ops Q S fuel (listed.setIfInBounds i true) (a.put oi.dst v) w) : wpAnyH P md ops Q S (fuel + 1) listed a w :=
  wpAnyH_take (by simpa using hi) hs hf hr hQ hy hS h
theorem held_cons {P : Program} {md : Region.Mode} {ops : Array Oper} {Q : Exit → Act → World → Prop} {S : World → Prop} {fuel : Nat} {listed : Array Bool} {a : Act} {w : World} {i : Nat} {o : Oper} {rs : List Nat} (ho : ops.toList[i]? = some o)
    (h : ∀ K' : Act → World → Prop, Shut (∀ a w, S w → (S w → wpAnyH P md ops Q S fuel (listed.setIfInBounds i true) a w) → K' a w) → if Region.wanted o (yielded ops a.tmps) = true then Oper.wp P o a w K' Q else K' (a.put o.dst undef) w)
    (hs : AllReadyH P md ops Q S fuel listed a w rs) : AllReadyH P md ops Q S fuel listed a w (i :: rs) :=
  AllReadyH.cons (by simpa using ho) h hs
/-- what Ext gives -/
def extF (A n : Nat) (s : Bool) (j : Nat) : Bool := A.testBit j || (decide (n ≤ j) && s && bitI A ((n : Int) - 1))
end Go.Proofs.YtcdjkbgedmehjaaGreatDoor
namespace Go.Proofs.YtcdjkbgedmehjaaGreatDoor
set_option linter.unusedVariables false
open Go.RowKit
/-- a list of bits of its own is returned -/
def RetL (w : World) (n : Nat) (f : Nat → Bool) (e : Ending) (w' : World) : Prop := ∃ v, e = .returned v ∧ RO w' v 1 n (bools (rl n f)) ∧ Below w.heap.size w w'
theorem RO.ofBlk {w : World} {b n : Nat} {f : Nat → Bool} (h : Blk w b 4 (bools (rl n f))) : RO w (.slice (some ⟨b, 0, none⟩) n n) 1 n (bools (rl n f)) := by
  refine ⟨by simp [bools, rl], _, _, rfl, fun j u hj => ⟨b, 0, rfl, ?_⟩⟩
  rw [Nat.zero_add]; exact h.cell hj
end Go.Proofs.YtcdjkbgedmehjaaGreatDoor
