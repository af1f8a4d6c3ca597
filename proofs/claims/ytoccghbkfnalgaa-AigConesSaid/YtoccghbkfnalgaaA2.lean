import Derived.Test.YtoccghbkfnalgaaM3
namespace Go.Proofs.Ytoccghbkfnalgaa
set_option linter.unusedVariables false
open Go.RowKit

theorem Try.info58 : (Try.prog.info? 58).map (fun i => (i.zero, i.size, i.bytes)) = some (some (.agg #[.int .i64 0, .int .i64 0]), 2, 16) := by kernel_rfl
theorem Try.info3 : (Try.prog.info? 3).map (fun i => (i.zero, i.size, i.bytes)) = some (some (.int .i64 0), 1, 8) := by kernel_rfl

theorem seg_one {w : World} {k : Nat} {t : TypeId} {f} {cs : Array Value} (h : w.heap[k]? = some (.cells cs t f)) : ∀ j u, cs.toList[j]? = some u → w.cell? ((⟨k, 0, none⟩ : Addr).add j) = some u := by
  intro j u hu
  have hadd : (⟨k, 0, none⟩ : Addr).add j = ⟨k, j, none⟩ := by unfold Addr.add; split <;> simp_all
  rw [hadd]
  simp [World.cell?, h]; simpa using hu

/-- the graph in some place -/
def HasG (w : World) (bg : Nat) (F : Nat → Prop) (g : G) : Prop := ∃ vn vi bm, GAt w bg vn vi bm g ∧ F = foot bg vn vi bm

def AddPost (w : World) (bg : Nat) (F : Nat → Prop) (g' : G) (r e : Int) (e0 : Ending) (w' : World) : Prop :=
  e0 = .returned (.tuple #[.int .i64 r, .int .i64 e]) ∧ ∃ F', HasG w' bg F' g' ∧ Upd F F' w w'

theorem add_end {w w1 w3 : World} {bg vn vi bm g} (h : GAt w bg vn vi bm g) {a b : Int} {k cap : Nat} (hb1 : Below w.heap.size w w1)
    (hw : w3.ownsRow 0 58 2 (.slice (some ⟨k, 0, none⟩) (g.nodes.length + 1) cap) (g.nodes.length + 1) (pairCells g.nodes ++ [.int .i64 a, .int .i64 b]))
    (hgr : w1.grownBy w3 vn.ownBlock) (hk : vn.ownBlock = some k ∨ k = w1.heap.size) : 
    ∃ F', HasG (w3.setCell ⟨bg, 0, none⟩ (.slice (some ⟨k, 0, none⟩) (g.nodes.length + 1) cap)) bg F' { g with nodes := g.nodes ++ [(a, b)] } ∧ Upd (foot bg vn vi bm) F' w (w3.setCell ⟨bg, 0, none⟩ (.slice (some ⟨k, 0, none⟩) (g.nodes.length + 1) cap)) := by
  have hG := (h.below hb1).addNode hw hgr hk
  refine ⟨_, ⟨_, _, _, hG, rfl⟩, ?_⟩
  refine (Upd.below hb1).trans ?_
  refine ⟨hgr.os, hgr.tape, hgr.output, by simpa using hgr.size, ?_, ?_⟩
  · intro j hj hn
    rw [Below.heap_setCell _ _ _ _ (fun e => hn (.inl e))]
    exact hgr.block j hj (fun e => hn (.inr (.inr (.inl e.symm))))
  · rintro j (hj | hj | hj | hj)
    · exact .inl (.inl hj)
    · exact .inl (.inr (.inl hj))
    · simp only [Value.ownBlock, Option.some.injEq] at hj; subst hj
      rcases hk with hk | hk
      · exact .inl (.inr (.inr (.inl hk)))
      · exact .inr (Nat.le_of_eq hk.symm)
    · exact .inl (.inr (.inr (.inr hj)))

set_option maxHeartbeats 1000000 in
theorem add_any (w : World) (bg bm : Nat) (a b : Int) (vn vi : Value) (g : G) (hG : GAt w bg vn vi bm g) (hlen : g.nodes.length < 60000) :
    Calls Try.prog 27 #[.pointer (some ⟨bg, 0, none⟩), .agg #[.int .i64 a, .int .i64 b]] w (AddPost w bg (foot bg vn vi bm) { g with nodes := g.nodes ++ [(a, b)] } (2 * g.nodes.length) 0) := by
  obtain ⟨i0, hi, hz0, hz1, hz2⟩ := info_parts Try.info58
  obtain ⟨p, c, rfl⟩ := ownsRow_form hG.hn
  have hd : decide ((60000 : Int) ≤ (g.nodes.length : Int)) = false := by simp; omega
  have hbg := hG.lt bg (.inl rfl)
  have hc0 := hG.cell0
  have hf0 := hG.frz 0
  have hb1 : Below w.heap.size w (w.alloc (Obj.cells #[Value.int IntKind.i64 a, Value.int IntKind.i64 b] 58)) := (Below.refl _ _).alloc (Nat.le_refl _) _
  have hg1 := hG.below hb1
  have h1 := hg1.cell0
  have hf1 := hg1.frz 0
  have hp0 : (w.alloc (Obj.cells #[Value.int IntKind.i64 a, Value.int IntKind.i64 b] 58)).cell? ⟨w.heap.size, 0, none⟩ = some (.int .i64 a) := by simp
  have hp1 : (w.alloc (Obj.cells #[Value.int IntKind.i64 a, Value.int IntKind.i64 b] 58)).cell? ⟨w.heap.size, 1, none⟩ = some (.int .i64 b) := by simp
  have Hx := Lib.hid (And.intro hG (And.intro hg1 (And.intro hi (And.intro hz0 (And.intro hz1 (And.intro hz2 (And.intro hlen hb1)))))))
  clear hG hg1 hi hz0 hz1 hz2 hlen hb1
  go_enter Try.func27, Try.ntmps27
  go_wp2_with fail
  generalize hw1 : w.alloc (Obj.cells #[Value.int IntKind.i64 a, Value.int IntKind.i64 b] 58) = w1 at h1 hf1 hp0 hp1 Hx ⊢
  obtain ⟨hG, hg1, hi, hz0, hz1, hz2, hlen, hb1⟩ := Hx.out
  have hbg1 := hg1.lt bg (.inl rfl)
  clear hw1 hc0 hf0 Hx
  have hown := (hg1.hn.alloc (Obj.cells #[Value.int IntKind.i64 a, Value.int IntKind.i64 b] 58))
  have hseg : ∀ j u, [Value.int IntKind.i64 a, Value.int IntKind.i64 b][j]? = some u → (w1.alloc (Obj.cells #[Value.int IntKind.i64 a, Value.int IntKind.i64 b] 58)).cell? ((⟨w1.heap.size, 0, none⟩ : Addr).add j) = some u := seg_one (heap_alloc_new _ _)
  have hone : ∀ u ∈ [Value.int IntKind.i64 a, Value.int IntKind.i64 b], u.oneCell' = true := by simp [Value.oneCell']
  have hml : g.nodes.length + 1 ≤ maxLen := by simp only [maxLen]; omega
  have hby : (g.nodes.length + 1) * 16 ≤ 140737488355328 := by omega
  have HH := Lib.hid (And.intro hown (And.intro hseg (And.intro hone (And.intro hml hby))))
  clear hown hseg hone hml hby
  have hng : (Value.slice p g.nodes.length c).ownBlock ≠ some bg := hG.ng
  have hkeep : ∀ w3 : World, (w1.alloc (Obj.cells #[Value.int IntKind.i64 a, Value.int IntKind.i64 b] 58)).drew.grownBy w3 (Value.slice p g.nodes.length c).ownBlock → w3.heap[bg]? = w1.heap[bg]? := fun w3 h3 => (h3.block bg (by simp; omega) (Ne.symm hng)).trans (heap_alloc_old _ _ hbg1)
  have Hk := Lib.hid (And.intro hkeep (And.intro hG hg1))
  have hcc := hg1.cell0
  have hff := hg1.frz 0
  clear hkeep hng hG hg1
  go_region_law (refine step_append_lies _ rfl _ _ 53 rfl 0 58 i0 (.agg #[.int .i64 0, .int .i64 0]) 2 16 Try.underlying53 hi hz0 hz1 hz2 rfl Nat.two_pos _ _ _ rfl HH.out.1 ⟨w1.heap.size, 0, none⟩ 1 1 [.int .i64 a, .int .i64 b] rfl rfl HH.out.2.1 HH.out.2.2.1 Nat.one_pos HH.out.2.2.2.1 HH.out.2.2.2.2 (Nat.zero_le _) _ rfl ?_; intro k cap w3 hown3 hgr3 hat3 hlt3; have e3 := Hk.out.1 w3 hgr3; have hc3 := (World.cell?_of_block (a := ⟨bg, 0, none⟩) e3).trans hcc; have hf3 := (World.frozen?_of_block (a := ⟨bg, 0, none⟩) e3).trans hff; have H3 := Lib.hid (And.intro hown3 (And.intro hgr3 hat3)); clear hown3 hgr3 hat3 e3)
  all_goals
    go_wp2
    go_ret2
    obtain ⟨o3, g3, a3⟩ := H3.out
    refine ⟨?_, add_end Hk.out.2.1 (hb1.trans (((Below.refl _ _).alloc hb1.size _).drew)) o3 g3 ?_⟩
    · rfl
    · exact a3.imp id (fun e => by simpa using e)
end Go.Proofs.Ytoccghbkfnalgaa
