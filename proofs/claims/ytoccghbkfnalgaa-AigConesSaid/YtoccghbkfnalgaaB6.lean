import Derived.Test.YtoccghbkfnalgaaB5
import Derived.Test.YtoccghbkfnalgaaP3
namespace Go.Proofs.Ytoccghbkfnalgaa
set_option linter.unusedVariables false
open Go.RowKit

theorem of_any (bc : Nat) (v : Value) (lits : List Int) (base : Nat) (i : Int) (w : World) (hc : w.cell? ⟨bc, 0, none⟩ = some v) (hv : w.ownsRow base 3 1 v lits.length (ints lits)) (hn : lits.length < 100000) :
    Calls Try.prog 24 #[.int .i64 i, .pointer (some ⟨bc, 0, none⟩)] w fun e w' => e = .returned (.int .i64 (ofL lits i)) ∧ w' = w := by
  unfold ofL
  split
  · rename_i h
    rw [h, List.eq_nil_of_length_eq_zero h] at hv
    exact (of_none bc v i w hc (RO.own hv)).mono fun _ _ ⟨a, b⟩ => ⟨a, b.symm⟩
  · exact (of_some bc v i lits w hc (RO.own hv) hn (by omega)).mono fun _ _ ⟨a, b⟩ => ⟨a, b.symm⟩

/-- what holds at the head of build's loop -/
structure BRel (w : World) (B bg bc : Nat) (k : Nat) (g : G) (lits : List Int) (F : Nat → Prop) (vl : Value) (wr : World) : Prop where
  g : HasG wr bg F g
  c : Blk wr bc 25 [vl]
  l : wr.ownsRow B 3 1 vl k (ints lits)
  fc : ¬ F bc
  fl : ∀ j, vl.ownBlock = some j → ¬ F j ∧ j ≠ bc
  fB : ∀ j, F j → B ≤ j
  cB : B ≤ bc
  b : Below B w wr

theorem Upd.toBelow {F F' : Nat → Prop} {w w' : World} (h : Upd F F' w w') {B : Nat} (hF : ∀ j, F j → B ≤ j) (hB : B ≤ w.heap.size) : Below B w w' :=
  ⟨h.os, h.tape, h.output, h.size, fun k hk => h.block k (by omega) (fun hf => by have := hF k hf; omega)⟩

theorem HasG.lt {w bg F g} (h : HasG w bg F g) : ∀ k, F k → k < w.heap.size := by
  obtain ⟨vn, vi, bm, hG, rfl⟩ := h; exact hG.lt

/-- the relation goes over an update of the graph -/
theorem BRel.upd {w B bg bc k g lits F vl wr w2 F' g'} (h : BRel w B bg bc k g lits F vl wr) (hg : HasG w2 bg F' g') (hu : Upd F F' wr w2) : BRel w B bg bc k g' lits F' vl w2 := by
  have hB : B ≤ wr.heap.size := Nat.le_trans h.cB (Nat.le_of_lt h.c.lt)
  refine ⟨hg, ?_, ownsRow_keep h.l (fun j hj => hu.block j (h.l.lt j hj).2 (h.fl j hj).1), ?_, ?_, ?_, h.cB, h.b.trans (hu.toBelow h.fB hB)⟩
  · have := h.c; unfold Blk at *; rw [hu.block bc h.c.lt h.fc]; exact this
  · intro hf
    rcases hu.sub _ hf with h' | h'
    · exact h.fc h'
    · have := h.c.lt; omega
  · intro j hj
    refine ⟨fun hf => ?_, (h.fl j hj).2⟩
    rcases hu.sub _ hf with h' | h'
    · exact (h.fl j hj).1 h'
    · have := (h.l.lt j hj).2; omega
  · intro j hf
    rcases hu.sub _ hf with h' | h'
    · exact h.fB j h'
    · omega

theorem BRel.alloc {w B bg bc k g lits F vl wr} (h : BRel w B bg bc k g lits F vl wr) (o : Obj) : BRel w B bg bc k g lits F vl (wr.alloc o) := by
  obtain ⟨vn, vi, bm, hG, rfl⟩ := h.g
  have hb : Below wr.heap.size wr (wr.alloc o) := (Below.refl _ _).alloc (Nat.le_refl _) _
  exact h.upd ⟨_, _, _, hG.below hb, rfl⟩ (Upd.below hb)
theorem BRel.drewN {w B bg bc k g lits F vl wr} (h : BRel w B bg bc k g lits F vl wr) (n : Nat) : BRel w B bg bc k g lits F vl (wr.drewN n) := by
  obtain ⟨vn, vi, bm, hG, rfl⟩ := h.g
  exact h.upd ⟨_, _, _, hG.below (below_drewN n), rfl⟩ (Upd.below (below_drewN n))

/-- behind the append to the lits -/
theorem BRel.snoc {w B bg bc k g lits F vl w1 w3 gk cap} {x : Int} (h : BRel w B bg bc k g lits F vl w1) (ha : App B 3 1 w1 vl k 1 (ints lits ++ [.int .i64 x]) gk cap w3) :
    BRel w B bg bc (k + 1) g (lits ++ [x]) F (.slice (some ⟨gk, 0, none⟩) (k + 1) cap) (w3.setCell ⟨bc, 0, none⟩ (.slice (some ⟨gk, 0, none⟩) (k + 1) cap)) := by
  have hB : B ≤ w1.heap.size := Nat.le_trans h.cB (Nat.le_of_lt h.c.lt)
  have hgk : B ≤ gk ∧ ¬ F gk ∧ gk ≠ bc := by
    rcases ha.at_ with hh | hh
    · exact ⟨(h.l.lt _ hh).1, h.fl _ hh⟩
    · subst hh
      exact ⟨hB, fun hf => Nat.lt_irrefl _ (h.g.lt _ hf), fun e => by have := h.c.lt; omega⟩
  have hold : ∀ j, j < w1.heap.size → vl.ownBlock ≠ some j → w3.heap[j]? = w1.heap[j]? := fun j hj hn => ha.old hj hn
  have hbc : vl.ownBlock ≠ some bc := fun e => (h.fl _ e).2 rfl
  obtain ⟨vn, vi, bm, hG, rfl⟩ := h.g
  have hG3 : GAt (w3.setCell ⟨bc, 0, none⟩ (.slice (some ⟨gk, 0, none⟩) (k + 1) cap)) bg vn vi bm g := hG.keep fun j hj => by
    rw [Below.heap_setCell _ _ _ _ (fun e => h.fc (by have e' : j = bc := e; rw [← e']; exact hj))]
    exact hold j (hG.lt j hj) (fun e => (h.fl j e).1 hj)
  refine ⟨⟨_, _, _, hG3, rfl⟩, ?_, ?_, h.fc, ?_, h.fB, h.cB, ?_⟩
  · have hc : Blk w3 bc 25 [vl] := by have := h.c; unfold Blk at *; rw [hold bc h.c.lt hbc]; exact this
    exact hc.set 0 _
  · rw [ints_snoc]
    exact ownsRow_keep ha.own fun j hj => by
      simp only [Value.ownBlock, Option.some.injEq] at hj; subst hj
      exact Below.heap_setCell _ _ _ _ hgk.2.2
  · intro j hj
    simp only [Value.ownBlock, Option.some.injEq] at hj; subst hj
    exact hgk.2
  · exact (ha.below h.b hB (fun j hj => (h.l.lt j hj).1)).setCell h.cB _

def BldRel (acts : List Actn) (w : World) (B bg bc : Nat) (i : Value) (wr : World) : Prop :=
  ∃ k F vl, k ≤ acts.length ∧ i = .int .i64 ((k : Nat) : Int) ∧ BRel w B bg bc k (buildTo acts k).1 (buildTo acts k).2 F vl wr

/-- what build leaves -/
def BldPost (acts : List Actn) (w : World) (e : Ending) (w' : World) : Prop :=
  ∃ bg F vl, e = .returned (.tuple #[.pointer (some ⟨bg, 0, none⟩), vl, .bool true]) ∧ HasG w' bg F (buildTo acts acts.length).1 ∧ w'.ownsRow w.heap.size 3 1 vl acts.length (ints (buildTo acts acts.length).2) ∧ (∀ j, vl.ownBlock = some j → ¬ F j) ∧ (∀ j, F j → w.heap.size ≤ j) ∧ Below w.heap.size w w'

theorem new_has (w : World) : Calls Try.prog 22 #[] w fun e w' => ∃ bg F, e = .returned (.pointer (some ⟨bg, 0, none⟩)) ∧ HasG w' bg F g0 ∧ (∀ j, F j → w.heap.size ≤ j) ∧ Below w.heap.size w w' := by
  refine (new_any w).mono ?_
  rintro e w' ⟨rfl, rfl⟩
  refine ⟨_, _, rfl, ⟨.slice (some ⟨w.heap.size, 0, none⟩) 1 1, .slice none 0 0, w.heap.size + 1, ?_, rfl⟩, ?_, ?_⟩
  · have hb : Blk (w.alloc (.cells #[.int .i64 (-1), .int .i64 (-1)] 58)) w.heap.size 58 [.int .i64 (-1), .int .i64 (-1)] := Blk.new _ _
    exact {
      gm := by omega
      ng := by simp [Value.ownBlock]
      nm := by simp [Value.ownBlock]
      ig := by simp [Value.ownBlock]
      im := by simp [Value.ownBlock]
      ne := by simp [Value.ownBlock]
      hg := by rw [new_at _ _ _ (by simp)]
      hn := ((hb.alloc _).alloc _).own (n := 1) (size := 2) (by simp) (by decide) 0 (Nat.zero_le _)
      hi := World.ownsRow_nil _ _ _ _
      hm := ⟨[], 0, by rw [heap_alloc_old _ _ (by simp), new_at _ _ _ (by simp)], trivial⟩ }
  · rintro j (hj | hj | hj | hj)
    · omega
    · omega
    · simp [Value.ownBlock] at hj; omega
    · simp [Value.ownBlock] at hj
  · exact (((Below.refl _ _).alloc (Nat.le_refl _) _).alloc (by simp) _).alloc (by simp; omega) _
end Go.Proofs.Ytoccghbkfnalgaa
