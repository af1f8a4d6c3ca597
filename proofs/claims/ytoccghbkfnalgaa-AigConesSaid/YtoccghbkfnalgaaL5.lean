import Derived.Test.YtoccghbkfnalgaaC6
import Derived.Test.YtoccghbkfnalgaaP12
namespace Go.Proofs.Ytoccghbkfnalgaa
set_option linter.unusedVariables false
open Go.RowKit

theorem ints_one (l : List Int) : ∀ u ∈ ints l, u.oneCell' = true := by
  intro u hu
  simp only [ints, List.mem_map] at hu
  obtain ⟨x, _, rfl⟩ := hu; rfl
theorem ints_len (l : List Int) : (ints l).length = l.length := by simp [ints]
theorem bools_one (l : List Bool) : ∀ u ∈ bools l, u.oneCell' = true := by
  intro u hu
  simp only [bools, List.mem_map] at hu
  obtain ⟨x, _, rfl⟩ := hu; rfl

/-- a list of Booleans, kept as 1 and 0 -/
def b2i (b : Bool) : Int := if b then 1 else 0
def bis (l : List Bool) : List Value := l.map fun b => .int .i64 (b2i b)
theorem bis_set (l : List Bool) (i : Nat) : (bis l).set i (.int .i64 1) = bis (l.set i true) := by simp [bis, List.map_set, b2i]
theorem bis_at (l : List Bool) (i : Nat) (h : i < l.length) (b : Bool) (hb : l.getD i false = b) : (bis l)[i]? = some (.int .i64 (b2i b)) := by
  rw [bis, List.getElem?_map, ← hb, List.getD, List.getElem?_eq_getElem h]; rfl

theorem mk_bis (n : Nat) (hn : n ≤ 1000000) (w : World) : (Instr.makeSlice 25 (.int .i64 n) (.int .i64 n)).run Try.prog w = .ok (.slice (some ⟨w.heap.size, 0, none⟩) n n) (w.alloc (.cells (bis (List.replicate n false)).toArray 3)) := by
  obtain ⟨i0, hi, hz0, hz1, hz2⟩ := info_parts Try.info3
  have h := run_make (P := Try.prog) w 25 3 i0 _ Try.underlying25 hi hz0 .i64 .i64 n n (by omega) (by omega) (by rw [hz2]; omega) (by omega)
  rw [h, hz1]
  simp only [Int.toNat_natCast, Nat.mul_one, Value.cells]
  congr 3
  apply Array.ext'
  rw [toList_madeCells_one]
  simp [bis, b2i]

/-- a list of Booleans in a block of its own, or none at all -/
def BRow (B : Nat) (w : World) (v : Value) (l : List Bool) : Prop := (v = .slice none 0 0 ∧ l = []) ∨ ∃ g cap rest, v = .slice (some ⟨g, 0, none⟩) l.length cap ∧ B ≤ g ∧ Blk w g 4 (bools l ++ rest)
theorem BRow.of {B w v l} (h : World.ownsRow w B 4 1 v l.length (bools l)) : BRow B w v l := by
  rcases h.2 with ⟨hnil, h0⟩ | ⟨g8, cap8, cur8, hv, hB8, hg8, hcap, hmax, hcs, htake⟩
  · exact .inl ⟨hnil, List.eq_nil_of_length_eq_zero h0⟩
  · refine .inr ⟨g8, cap8, cur8.toList.drop l.length, hv, hB8, ?_⟩
    have e : bools l ++ cur8.toList.drop l.length = cur8.toList := by rw [← htake, Nat.mul_one, List.take_append_drop]
    unfold Blk
    rw [e]; exact hg8
theorem BRow.ro {B w v l} (h : BRow B w v l) : RO w v 1 l.length (bools l) := by
  rcases h with ⟨rfl, rfl⟩ | ⟨g, cap, rest, rfl, _, hb⟩
  · exact ⟨rfl, _, _, rfl, fun j u hj => by simp [bools] at hj⟩
  · refine ⟨by simp [bools], _, _, rfl, fun j u hj => ⟨_, _, rfl, ?_⟩⟩
    have hjl : j < (bools l).length := (List.getElem?_eq_some_iff.1 hj).1
    rw [Nat.zero_add]
    exact hb.cell (by rw [List.getElem?_append_left hjl]; exact hj)
theorem BRow.below {B w w' v l} (h : BRow B w v l) (hb : Below w.heap.size w w') : BRow B w' v l := by
  rcases h with h | ⟨g, cap, rest, e, hB, hk⟩
  · exact .inl h
  · exact .inr ⟨g, cap, rest, e, hB, hk.below hb hk.lt⟩
end Go.Proofs.Ytoccghbkfnalgaa
