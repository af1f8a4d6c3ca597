import Derived.Test.YtoccghbkfnalgaaA4
namespace Go.Proofs.Ytoccghbkfnalgaa
set_option linter.unusedVariables false
open Go.RowKit

theorem AddPost.trans {w w1 : World} {bg F F1 g r e e0 w'} (h : Upd F F1 w w1) (h' : AddPost w1 bg F1 g r e e0 w') : AddPost w bg F g r e e0 w' :=
  let ⟨a, F', b, c⟩ := h'; ⟨a, F', b, h.trans c⟩

set_option maxHeartbeats 1000000 in
theorem mux_eq (w : World) (bg : Nat) (F : Nat → Prop) (c a b : Int) (g : G) (hG : HasG w bg F g) (hlen : g.nodes.length + 2 < 60000) (hc : g.lit c) (ha : g.lit a) (hb : g.lit b) (hab : (a == b) = true) :
    Calls Try.prog 15 #[.pointer (some ⟨bg, 0, none⟩), .int .i64 c, .int .i64 a, .int .i64 b] w (AddPost w bg F g a 0) := by
  have H := Lib.hid (And.intro (lit_has hG (by omega) a ha w rfl) (And.intro (lit_has hG (by omega) b hb w rfl) (And.intro (lit_has hG (by omega) c hc w rfl) hG)))
  clear hG hlen hc ha hb
  go_enter Try.func15, Try.ntmps15
  go_wp2_with fail
  refine H.out.1.mono ?_; rintro e w' ⟨rfl, rfl⟩
  go_wp2_with fail
  refine H.out.2.1.mono ?_; rintro e w' ⟨rfl, rfl⟩
  go_wp2_with fail
  refine H.out.2.2.1.mono ?_; rintro e w' ⟨rfl, rfl⟩
  go_wp2_with fail
  go_ret2
  exact ⟨rfl, _, H.out.2.2.2, Upd.refl _ _⟩

set_option maxHeartbeats 1000000 in
theorem mux_ne (w : World) (bg : Nat) (F : Nat → Prop) (c a b : Int) (g : G) (hG : HasG w bg F g) (hlen : g.nodes.length + 2 < 60000) (hc : g.lit c) (ha : g.lit a) (hb : g.lit b) (hab : (a == b) = false)
    (hk : g.Kn) (hne : 0 < g.nodes.length) (g' : G) (r : Int) (hr : gMux g c a b = (g', r)) :
    Calls Try.prog 15 #[.pointer (some ⟨bg, 0, none⟩), .int .i64 c, .int .i64 a, .int .i64 b] w (AddPost w bg F g' r 0) := by
  have h1 := gAnd_grows g c a hc ha hk hne
  have h2 := gAnd_grows (gAnd g c a).1 (tnot c) b (hc.tnot.mono h1.1.lo) (hb.mono h1.1.lo) h1.1.kn (by have := h1.1.lo; omega)
  have H := Lib.hid (And.intro (lit_has hG (by omega) a ha w rfl) (And.intro (lit_has hG (by omega) b hb w rfl) (lit_has hG (by omega) c hc w rfl)))
  have HA := Lib.hid (and_any w bg F c a g hG (by omega) hc ha hk)
  have HN := Lib.hid (fun w => not_any c w hc.1 (by have := hc.2; omega))
  have HB := Lib.hid (fun w F (hG : HasG w bg F _) => and_any w bg F (tnot c) b (gAnd g c a).1 hG (by have := h1.1.hi; omega) (hc.tnot.mono h1.1.lo) (hb.mono h1.1.lo) h1.1.kn)
  have HC := Lib.hid (fun w F (hG : HasG w bg F _) => or_any w bg F (gAnd g c a).2 (gAnd (gAnd g c a).1 (tnot c) b).2 _ hG (by have := h1.1.hi; have := h2.1.hi; omega) (h1.2.mono h2.1.lo) h2.2 h2.1.kn (by have := h1.1.lo; have := h2.1.lo; omega) g' r (by
    rw [← hr, gMux, if_neg (by simpa using hab)]))
  clear hG hlen hc ha hb hk hne hr h1 h2
  generalize gAnd g c a = X1 at *
  generalize gAnd X1.1 (tnot c) b = X2 at *
  obtain ⟨g1, r1⟩ := X1
  obtain ⟨g2, r2⟩ := X2
  dsimp only at HA HB HC
  go_enter Try.func15, Try.ntmps15
  go_wp2_with fail
  refine H.out.1.mono ?_; rintro e w' ⟨rfl, rfl⟩
  go_wp2_with fail
  refine H.out.2.1.mono ?_; rintro e w' ⟨rfl, rfl⟩
  go_wp2_with fail
  refine H.out.2.2.mono ?_; rintro e w' ⟨rfl, rfl⟩
  go_wp2_with fail
  refine HA.out.mono ?_
  rintro e w1 ⟨rfl, F1, hG1, hU1⟩
  have HG1 := Lib.hid hG1
  clear hG1
  go_wp2_with fail
  refine (HN.out w1).mono ?_; rintro e w' ⟨rfl, rfl⟩
  go_wp2_with fail
  refine (HB.out w1 F1 HG1.out).mono ?_
  rintro e w2 ⟨rfl, F2, hG2, hU2⟩
  have HG2 := Lib.hid hG2
  clear hG2
  go_wp2_with fail
  refine (HC.out w2 F2 HG2.out).mono ?_
  rintro e w3 ⟨rfl, F3, hG3, hU3⟩
  have HG3 := Lib.hid hG3
  clear hG3
  go_wp2_with fail
  go_ret2
  exact ⟨rfl, F3, HG3.out, (hU1.trans hU2).trans hU3⟩

theorem mux_any (w : World) (bg : Nat) (F : Nat → Prop) (c a b : Int) (g : G) (hG : HasG w bg F g) (hlen : g.nodes.length + 2 < 60000) (hc : g.lit c) (ha : g.lit a) (hb : g.lit b)
    (hk : g.Kn) (hne : 0 < g.nodes.length) (g' : G) (r : Int) (hr : gMux g c a b = (g', r)) :
    Calls Try.prog 15 #[.pointer (some ⟨bg, 0, none⟩), .int .i64 c, .int .i64 a, .int .i64 b] w (AddPost w bg F g' r 0) := by
  by_cases h : a = b
  · obtain ⟨rfl, rfl⟩ : g = g' ∧ a = r := by simpa [gMux, h] using hr
    exact mux_eq w bg F c a b g hG hlen hc ha hb (by simp [h])
  · exact mux_ne w bg F c a b g hG hlen hc ha hb (by simp [h]) hk hne g' r hr

set_option maxHeartbeats 1000000 in
theorem xor_any (w : World) (bg : Nat) (F : Nat → Prop) (a b : Int) (g : G) (hG : HasG w bg F g) (hlen : g.nodes.length + 2 < 60000) (ha : g.lit a) (hb : g.lit b)
    (hk : g.Kn) (hne : 0 < g.nodes.length) (g' : G) (r : Int) (hr : gXor g a b = (g', r)) :
    Calls Try.prog 25 #[.pointer (some ⟨bg, 0, none⟩), .int .i64 a, .int .i64 b] w (AddPost w bg F g' r 0) := by
  have H := Lib.hid (And.intro (lit_has hG (by omega) a ha w rfl) (And.intro (lit_has hG (by omega) b hb w rfl) (And.intro (not_any b w hb.1 (by have := hb.2; omega)) 
    (mux_any w bg F a (tnot b) b g hG hlen ha hb.tnot hb hk hne g' r hr))))
  clear hG hlen ha hb hk hne hr
  go_enter Try.func25, Try.ntmps25
  go_wp2_with fail
  refine H.out.1.mono ?_; rintro e w' ⟨rfl, rfl⟩
  go_wp2_with fail
  refine H.out.2.1.mono ?_; rintro e w' ⟨rfl, rfl⟩
  go_wp2_with fail
  refine H.out.2.2.1.mono ?_; rintro e w' ⟨rfl, rfl⟩
  go_wp2_with fail
  refine H.out.2.2.2.mono ?_
  rintro e w3 ⟨rfl, hw3⟩
  go_wp2_with fail
  go_ret2
  exact ⟨rfl, hw3⟩

theorem input_end {w w0 w1 w3 : World} {bg F g} {vn vi bm} (hU : Upd F (foot bg vn vi bm) w w0) (h : GAt w0 bg vn vi bm g) {a : Int} {k cap : Nat} (hb1 : Below w0.heap.size w0 w1)
    (hw : w3.ownsRow 0 3 1 (.slice (some ⟨k, 0, none⟩) (g.inputs.length + 1) cap) (g.inputs.length + 1) (ints g.inputs ++ [.int .i64 a]))
    (hgr : w1.grownBy w3 vi.ownBlock) (hk : vi.ownBlock = some k ∨ k = w1.heap.size) : 
    ∃ F', HasG (w3.setCell ⟨bg, 1, none⟩ (.slice (some ⟨k, 0, none⟩) (g.inputs.length + 1) cap)) bg F' { g with inputs := g.inputs ++ [a] } ∧ Upd F F' w (w3.setCell ⟨bg, 1, none⟩ (.slice (some ⟨k, 0, none⟩) (g.inputs.length + 1) cap)) := by
  have hG := (h.below hb1).addInput hw hgr hk
  refine ⟨_, ⟨_, _, _, hG, rfl⟩, hU.trans ((Upd.below hb1).trans ?_)⟩
  refine ⟨hgr.os, hgr.tape, hgr.output, by simpa using hgr.size, ?_, ?_⟩
  · intro j hj hn
    rw [Below.heap_setCell _ _ _ _ (fun e => hn (.inl e))]
    exact hgr.block j hj (fun e => hn (.inr (.inr (.inr e.symm))))
  · rintro j (hj | hj | hj | hj)
    · exact .inl (.inl hj)
    · exact .inl (.inr (.inl hj))
    · exact .inl (.inr (.inr (.inl hj)))
    · simp only [Value.ownBlock, Option.some.injEq] at hj; subst hj
      rcases hk with hk | hk
      · exact .inl (.inr (.inr (.inr hk)))
      · exact .inr (Nat.le_of_eq hk.symm)

set_option maxHeartbeats 1000000 in
theorem input_any (w : World) (bg : Nat) (F : Nat → Prop) (g : G) (hG : HasG w bg F g) (hlen : g.nodes.length < 60000) (hil : g.inputs.length < 60000) :
    Calls Try.prog 23 #[.pointer (some ⟨bg, 0, none⟩)] w (AddPost w bg F (gInput g).1 (gInput g).2 0) := by
  obtain ⟨vn, vi, bm, hG, rfl⟩ := hG
  obtain ⟨i0, hi, hz0, hz1, hz2⟩ := info_parts Try.info3
  have HA := Lib.hid (add_any w bg bm (-1) (-1) vn vi g hG hlen)
  have hl0 : 0 ≤ (g.nodes.length : Int) := by omega
  have hl1 : (g.nodes.length : Int) ≤ 59999 := by omega
  have Hil := Lib.hid (And.intro hil (And.intro hi (And.intro hz0 (And.intro hz1 hz2))))
  clear hlen hil hi hz0 hz1 hz2
  go_enter Try.func23, Try.ntmps23
  go_wp2_with fail
  refine HA.out.mono ?_
  rintro e w1 ⟨rfl, F1, ⟨vn1, vi1, bm1, hG1, rfl⟩, hU1⟩
  obtain ⟨p, c, rfl⟩ := ownsRow_form hG1.hi
  obtain ⟨hil, hi, hz0, hz1, hz2⟩ := Hil.out
  have hc1 := hG1.cell1
  have hf1 := hG1.frz 1
  have hbg1 := hG1.lt bg (.inl rfl)
  generalize hL : (g.nodes.length : Int) = L at *
  have hdiv : 2 * L / 2 = L := by omega
  have hown := (hG1.hi.alloc (Obj.cells #[Value.int IntKind.i64 L] 3))
  have hseg : ∀ j u, [Value.int IntKind.i64 L][j]? = some u → (w1.alloc (Obj.cells #[Value.int IntKind.i64 L] 3)).cell? ((⟨w1.heap.size, 0, none⟩ : Addr).add j) = some u := seg_one (heap_alloc_new _ _)
  have hone : ∀ u ∈ [Value.int IntKind.i64 L], u.oneCell' = true := by simp [Value.oneCell']
  have hml : g.inputs.length + 1 ≤ maxLen := by simp only [maxLen]; omega
  have hby : (g.inputs.length + 1) * 8 ≤ 140737488355328 := by omega
  have hng : (Value.slice p g.inputs.length c).ownBlock ≠ some bg := hG1.ig
  have hkeep : ∀ w3 : World, (w1.alloc (Obj.cells #[Value.int IntKind.i64 L] 3)).grownBy w3 (Value.slice p g.inputs.length c).ownBlock → w3.heap[bg]? = w1.heap[bg]? := fun w3 h3 => (h3.block bg (by simp; omega) (Ne.symm hng)).trans (heap_alloc_old _ _ hbg1)
  have HH := Lib.hid (And.intro hown (And.intro hseg (And.intro hone (And.intro hml (And.intro hby (And.intro hkeep (And.intro hG1 hU1)))))))
  have HL := Lib.hid hL
  clear hown hseg hone hml hby hkeep hng hG1 hU1 hG hil hL
  go_wp2_with (at_builtin; go_must (refine wpList_append_lies _ rfl _ _ 25 rfl 0 3 i0 (.int .i64 0) 1 8 Try.underlying25 hi hz0 hz1 hz2 rfl Nat.one_pos _ _ _ rfl HH.out.1 ⟨w1.heap.size, 0, none⟩ 1 1 [.int .i64 L] rfl rfl HH.out.2.1 HH.out.2.2.1 Nat.one_pos HH.out.2.2.2.1 HH.out.2.2.2.2.1 (Nat.zero_le _) _ rfl ?_); intro k cap w3 hown3 hgr3 hat3 hlt3; have e3 := HH.out.2.2.2.2.2.1 w3 hgr3; have hc3 := (World.cell?_of_block (a := ⟨bg, 1, none⟩) e3).trans hc1; have hf3 := (World.frozen?_of_block (a := ⟨bg, 1, none⟩) e3).trans hf1; have H3 := Lib.hid (And.intro hown3 (And.intro hgr3 hat3)); clear hown3 hgr3 hat3 e3)
  go_ret2
  obtain ⟨o3, g3, a3⟩ := H3.out
  have := HL.out
  subst this
  exact ⟨rfl, input_end HH.out.2.2.2.2.2.2.2 HH.out.2.2.2.2.2.2.1 ((Below.refl _ _).alloc (Nat.le_refl _) _) o3 g3 (a3.imp id (fun e => by simpa using e))⟩
end Go.Proofs.Ytoccghbkfnalgaa
