import Derived.Test.YtmimafbedbohiaaK1
import Derived.Laws.CopyOwn
import Derived.Lib.SliceRun
namespace Go.Proofs.Ytmimafbedbohiaa
set_option linter.unusedVariables false
open Go.RowKit

theorem grown_refl0 (w : World) (r : Option Nat) : w.grownBy w r := ⟨rfl, rfl, rfl, Nat.le_refl _, fun _ _ _ => rfl⟩
theorem grown_setRow (w : World) (g : Nat) (cs : Array Value) : w.grownBy (w.setRow g cs) (some g) :=
  ⟨rfl, rfl, rfl, by simp, fun k _ hne => setRow_other w g k cs (fun e => hne (by rw [e]))⟩

/-- copy of a slice that is read onto a block of one's own -/
theorem wpList_copyR {P : Program} {w : World} {ops : Array Oper} {rest : List Oper} {o : Oper} {a : Act} {Q : Exit → Act → World → Prop} (hgd : o.guard = none) (d s : Operand) (dT sT : TypeId)
    (ho : o.op = .call { callee := .builtin .copy, args := #[d, s], argTypes := #[dT, sT] }) (elem : TypeId) (hu : P.underlying dT = some (.slice elem)) (hsz : (P.info? elem).map (·.size) = some 1)
    (g off dLen dCap : Nat) (hd : a.eval d = .slice (some ⟨g, off, none⟩) dLen dCap) (cur : List Value) (t : TypeId) (hg : Blk w g t cur) (hfit : off + dLen ≤ cur.length)
    (y : Value) (m : Nat) (cs : List Value) (hs : a.eval s = y) (hy : RO w y 1 m cs) (h1 : ∀ u ∈ cs, u.oneCell' = true)
    (h : ∀ w', Hid (Blk w' g t (splice cur off (cs.take dLen)) ∧ w.grownBy w' (some g)) → wpList P ops Q rest (a.put o.dst (goInt (cs.take dLen).length)) w') :
    wpList P ops Q (o :: rest) a w := by
  obtain ⟨hl, sp, sc, rfl, hcell⟩ := hy
  have hn : (cs.take dLen).length = Nat.min m dLen := by
    rw [List.length_take, hl, Nat.mul_one, Nat.min_comm]
  by_cases h0 : (cs.take dLen).length = 0
  · have hnil : cs.take dLen = [] := List.eq_nil_of_length_eq_zero h0
    refine wpList_copy_nothing hgd d s dT sT ho elem hu hsz _ _ _ _ _ _ hd hs (by rw [← hn]; exact h0) ?_
    have h2 := h w ⟨by rw [hnil]; simpa [splice] using hg, grown_refl0 w _⟩
    rw [hnil] at h2
    exact h2
  · obtain ⟨ad, rfl⟩ : ∃ ad, sp = some ad := by
      cases cs with
      | nil => simp at h0
      | cons u r => obtain ⟨b, o', hb, _⟩ := hcell 0 u rfl; exact ⟨_, hb⟩
    refine wpList_copy_own hgd d s dT sT ho elem hu hsz g off dLen dCap ad m sc hd hs cur.toArray t hg (cs.take dLen) hn ?_ (by rw [hn]; have : Nat.min m dLen ≤ dLen := Nat.min_le_right _ _; simp; omega) (fun v hv => h1 v (List.mem_of_mem_take hv)) ?_
    · intro j v hj
      rw [List.getElem?_take] at hj
      split at hj
      · obtain ⟨b, o', hb, hc⟩ := hcell j v hj
        obtain rfl : ad = ⟨b, o', none⟩ := by simpa using hb
        have hadd : (⟨b, o', none⟩ : Addr).add j = ⟨b, o' + j, none⟩ := by unfold Addr.add; split <;> simp_all
        rw [hadd]; exact hc
      · cases hj
    · exact h _ ⟨setRow_heap w g _ _ t _ hg, grown_setRow _ _ _⟩
end Go.Proofs.Ytmimafbedbohiaa
