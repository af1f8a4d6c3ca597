import Derived.Test.YtoccghbkfnalgaaA2
import Derived.Deep.DeepMust
namespace Go.Proofs.Ytoccghbkfnalgaa
set_option linter.unusedVariables false
open Go.RowKit

theorem lit_ok {w : World} {bg vn vi bm g} (hG : GAt w bg vn vi bm g) (hs : g.nodes.length < 60000) (a : Int) (h : g.lit a) (w1 : World) (he : w1.heap = w.heap) :
    Calls Try.prog 26 #[.pointer (some ⟨bg, 0, none⟩), .int .i64 a] w1 fun e w' => e = .returned (.bool true) ∧ w1 = w' := by
  obtain ⟨p, c, rfl⟩ := ownsRow_form hG.hn
  have hc := hG.cell0
  obtain ⟨h0, h1⟩ := h
  refine (lit_any a bg g.nodes.length c p w1 h0 (by omega) (by simpa [World.cell?, he] using hc)).mono ?_
  rintro e w' ⟨rfl, rfl⟩
  exact ⟨by simp [h1], rfl⟩

theorem not_quiet (a : Int) (w : World) (h0 : 0 ≤ a) (h1 : a < 2^62) :
    Calls Try.prog 12 #[.int .i64 a] w fun e w' => e = .returned (.int .i64 (tnot a)) ∧ w' = w :=
  (not_any a w h0 h1).mono fun _ _ ⟨h, k⟩ => ⟨h, k.symm⟩

theorem alloc_end {w w1 : World} {bg vn vi bm g} (hG : GAt w bg vn vi bm g) (hb : Below w.heap.size w w1) : ∃ F', HasG w1 bg F' g ∧ Upd (foot bg vn vi bm) F' w w1 :=
  ⟨_, ⟨_, _, _, hG.below hb, rfl⟩, Upd.below hb⟩

theorem below_drewN {B : Nat} {w : World} (n : Nat) : Below B w (w.drewN n) := ⟨rfl, rfl, rfl, Nat.le_refl _, fun _ _ => rfl⟩

theorem known_end {w w1 w2 : World} {bg vn vi bm g} {vn' vi' bm'} {nodes' : List (Int × Int)} (h : GAt w bg vn vi bm g) (hb : Below w.heap.size w w1)
    (hG2 : GAt w2 bg vn' vi' bm' { g with nodes := nodes' }) (hU : Upd (foot bg vn vi bm) (foot bg vn' vi' bm') w1 w2) {a b n : Int} {es : List MapEntry} {ck' : Nat} {e : MapEntry}
    (hes : Ents es g.known) (he : entryOf e ((a, b), n)) :
    ∃ F', HasG { w2.drew with heap := w2.drew.heap.setIfInBounds bm' (.map (es ++ [e]).toArray ck') } bg F' { g with nodes := nodes', known := g.known ++ [((a, b), n)] } ∧
     Upd (foot bg vn vi bm) F' w { w2.drew with heap := w2.drew.heap.setIfInBounds bm' (.map (es ++ [e]).toArray ck') } := by
  have hG3 : GAt w2.drew bg vn' vi' bm' { g with nodes := nodes' } := hG2.keep fun _ _ => rfl
  have hG4 := hG3.addKnown (ck := 0) (ck' := ck') hes he
  refine ⟨_, ⟨_, _, _, hG4, rfl⟩, (Upd.below hb).trans (hU.trans ⟨rfl, rfl, rfl, by simp, ?_, fun _ h => .inl h⟩)⟩
  intro k hk hn
  have : k ≠ bm' := fun e => hn (.inr (.inl e))
  show (w2.heap.setIfInBounds bm' _)[k]? = _
  rw [Array.getElem?_setIfInBounds_ne (Ne.symm this)]

set_option maxHeartbeats 1000000 in
theorem and_0 (w : World) (bg bm : Nat) (a b x y : Int) (vn vi : Value) (g : G) (hG : GAt w bg vn vi bm g) (hlen : g.nodes.length < 60000) (ha : g.lit x) (hb : g.lit y)
   (hab : (a < b ∧ x = a ∧ y = b) ∨ (a = b ∧ x = a ∧ y = a) ∨ (b < a ∧ x = b ∧ y = a))
   (h1 : (x == 0) = true ∨ (x == 0) = false ∧ (x == tnot y) = true) :
    Calls Try.prog 13 #[.pointer (some ⟨bg, 0, none⟩), .int .i64 a, .int .i64 b] w (AddPost w bg (foot bg vn vi bm) g 0 0) := by
  have hb0 : 0 ≤ y := hb.1
  have hb1 : y < 2 ^ 62 := by have := hb.2; omega
  have hp0 : (w.alloc (Obj.cells #[Value.int IntKind.i64 x, Value.int IntKind.i64 y] 58)).cell? ⟨w.heap.size, 0, none⟩ = some (.int .i64 x) := by simp
  have hp1 : (w.alloc (Obj.cells #[Value.int IntKind.i64 x, Value.int IntKind.i64 y] 58)).cell? ⟨w.heap.size, 1, none⟩ = some (.int .i64 y) := by simp
  have H := Lib.hid (And.intro hG (And.intro hlen (And.intro ha (And.intro hb (And.intro hb0 hb1)))))
  clear hG hlen ha hb hb0 hb1
  rcases h1 with h1 | ⟨h1, h2⟩
  all_goals rcases hab with ⟨hab, rfl, rfl⟩ | ⟨rfl, rfl, rfl⟩ | ⟨hab, rfl, rfl⟩
  all_goals
    go_enter Try.func13, Try.ntmps13
    go_wp2_with (first | (go_at_call_of 26 (Value.int .i64 x); go_must (refine (lit_ok H.out.1 H.out.2.1 x H.out.2.2.1 _ rfl).mono ?_; rintro e w' ⟨rfl, rfl⟩)) | (go_at_call_of 26 (Value.int .i64 y); go_must (refine (lit_ok H.out.1 H.out.2.1 y H.out.2.2.2.1 _ rfl).mono ?_; rintro e w' ⟨rfl, rfl⟩)))
    go_quiet ((go_at_call 12; exact Calls.quiet_of_same (not_quiet y _ H.out.2.2.2.2.1 H.out.2.2.2.2.2)))
    go_wp2
    go_ret2
    exact ⟨rfl, alloc_end H.out.1 (((Below.refl _ _).alloc (Nat.le_refl _) _).trans (below_drewN _))⟩

set_option maxHeartbeats 1000000 in
theorem and_1 (w : World) (bg bm : Nat) (a b x y : Int) (vn vi : Value) (g : G) (hG : GAt w bg vn vi bm g) (hlen : g.nodes.length < 60000) (ha : g.lit x) (hb : g.lit y)
   (hab : (a < b ∧ x = a ∧ y = b) ∨ (a = b ∧ x = a ∧ y = a) ∨ (b < a ∧ x = b ∧ y = a))
   (h1 : (x == 0) = false) (h2 : (x == tnot y) = false) (h3 : (x == 1) = true ∨ (x == 1) = false ∧ (x == y) = true) :
    Calls Try.prog 13 #[.pointer (some ⟨bg, 0, none⟩), .int .i64 a, .int .i64 b] w (AddPost w bg (foot bg vn vi bm) g y 0) := by
  have hb0 : 0 ≤ y := hb.1
  have hb1 : y < 2 ^ 62 := by have := hb.2; omega
  have hp0 : (w.alloc (Obj.cells #[Value.int IntKind.i64 x, Value.int IntKind.i64 y] 58)).cell? ⟨w.heap.size, 0, none⟩ = some (.int .i64 x) := by simp
  have hp1 : (w.alloc (Obj.cells #[Value.int IntKind.i64 x, Value.int IntKind.i64 y] 58)).cell? ⟨w.heap.size, 1, none⟩ = some (.int .i64 y) := by simp
  have H := Lib.hid (And.intro hG (And.intro hlen (And.intro ha (And.intro hb (And.intro hb0 hb1)))))
  clear hG hlen ha hb hb0 hb1
  rcases h3 with h3 | ⟨h3, h4⟩
  all_goals rcases hab with ⟨hab, rfl, rfl⟩ | ⟨rfl, rfl, rfl⟩ | ⟨hab, rfl, rfl⟩
  all_goals
    go_enter Try.func13, Try.ntmps13
    go_wp2_with (first | (go_at_call_of 26 (Value.int .i64 x); go_must (refine (lit_ok H.out.1 H.out.2.1 x H.out.2.2.1 _ rfl).mono ?_; rintro e w' ⟨rfl, rfl⟩)) | (go_at_call_of 26 (Value.int .i64 y); go_must (refine (lit_ok H.out.1 H.out.2.1 y H.out.2.2.2.1 _ rfl).mono ?_; rintro e w' ⟨rfl, rfl⟩)))
    go_quiet ((go_at_call 12; exact Calls.quiet_of_same (not_quiet y _ H.out.2.2.2.2.1 H.out.2.2.2.2.2)))
    go_wp2
    go_ret2
    exact ⟨rfl, alloc_end H.out.1 (((Below.refl _ _).alloc (Nat.le_refl _) _).trans (below_drewN _))⟩

set_option maxHeartbeats 1000000 in
theorem and_2 (w : World) (bg bm : Nat) (a b x y : Int) (vn vi : Value) (g : G) (hG : GAt w bg vn vi bm g) (hlen : g.nodes.length < 60000) (ha : g.lit x) (hb : g.lit y)
   (hab : (a < b ∧ x = a ∧ y = b) ∨ (a = b ∧ x = a ∧ y = a) ∨ (b < a ∧ x = b ∧ y = a)) (n : Int)
   (h1 : (x == 0) = false) (h2 : (x == tnot y) = false) (h3 : (x == 1) = false) (h4 : (x == y) = false) (hl : look g.known (x, y) = some n) (hn0 : 0 < n) (hn1 : n < 60000):
    Calls Try.prog 13 #[.pointer (some ⟨bg, 0, none⟩), .int .i64 a, .int .i64 b] w (AddPost w bg (foot bg vn vi bm) g (2 * n) 0) := by
  have hb0 : 0 ≤ y := hb.1
  have hb1 : y < 2 ^ 62 := by have := hb.2; omega
  have hp0 : (w.alloc (Obj.cells #[Value.int IntKind.i64 x, Value.int IntKind.i64 y] 58)).cell? ⟨w.heap.size, 0, none⟩ = some (.int .i64 x) := by simp
  have hp1 : (w.alloc (Obj.cells #[Value.int IntKind.i64 x, Value.int IntKind.i64 y] 58)).cell? ⟨w.heap.size, 1, none⟩ = some (.int .i64 y) := by simp
  have H := Lib.hid (And.intro hG (And.intro hlen (And.intro ha (And.intro hb (And.intro hb0 hb1)))))
  clear hG hlen ha hb hb0 hb1
  have hm2 := (H.out.1.below ((Below.refl _ _).alloc (Nat.le_refl _) (Obj.cells #[Value.int IntKind.i64 x, Value.int IntKind.i64 y] 58))).cell2
  rcases hab with ⟨hab, rfl, rfl⟩ | ⟨rfl, rfl, rfl⟩ | ⟨hab, rfl, rfl⟩
  rotate_left
  · simp at h4
  all_goals
    go_enter Try.func13, Try.ntmps13
    go_wp2_with (first | (go_at_call_of 26 (Value.int .i64 x); go_must (refine (lit_ok H.out.1 H.out.2.1 x H.out.2.2.1 _ rfl).mono ?_; rintro e w' ⟨rfl, rfl⟩)) | (go_at_call_of 26 (Value.int .i64 y); go_must (refine (lit_ok H.out.1 H.out.2.1 y H.out.2.2.2.1 _ rfl).mono ?_; rintro e w' ⟨rfl, rfl⟩)))
    go_quiet ((go_at_call 12; exact Calls.quiet_of_same (not_quiet y _ H.out.2.2.2.2.1 H.out.2.2.2.2.2)))
    go_wp2
    generalize hw1 : (w.alloc (Obj.cells #[Value.int IntKind.i64 x, Value.int IntKind.i64 y] 58)).drewN nq = w1
    have hb1 : Below w.heap.size w w1 := by rw [← hw1]; exact ((Below.refl _ _).alloc (Nat.le_refl _) _).trans (below_drewN _)
    have hp0 : w1.cell? ⟨w.heap.size, 0, none⟩ = some (.int .i64 x) := by rw [← hw1]; exact hp0
    have hp1 : w1.cell? ⟨w.heap.size, 1, none⟩ = some (.int .i64 y) := by rw [← hw1]; exact hp1
    have hG1 := H.out.1.below hb1
    have hm1 := hG1.cell2
    have hlk : ∀ k, (Instr.lookup 54 (.map (some bm)) (.agg #[.int .i64 x, .int .i64 y]) false).run Try.prog (w1.drewN k) = .ok (.int .i64 n) (w1.drewN k) := by
      intro k
      have h := lookup54 (hG1.below (below_drewN k)) x y
      rw [hl] at h; exact h
    have H1 := Lib.hid (And.intro hb1 hG1)
    clear hw1 hb1 hG1 hm2 hl h1 h2 h3 h4
    go_quiet (fail)
    go_wp2
    go_ret2
    exact ⟨rfl, alloc_end H.out.1 (H1.out.1.trans (below_drewN _))⟩

set_option maxHeartbeats 2000000 in
theorem and_3 (w : World) (bg bm : Nat) (a b x y : Int) (vn vi : Value) (g : G) (hG : GAt w bg vn vi bm g) (hlen : g.nodes.length < 60000) (ha : g.lit x) (hb : g.lit y)
   (hab : (a < b ∧ x = a ∧ y = b) ∨ (a = b ∧ x = a ∧ y = a) ∨ (b < a ∧ x = b ∧ y = a))
   (h1 : (x == 0) = false) (h2 : (x == tnot y) = false) (h3 : (x == 1) = false) (h4 : (x == y) = false) (hl : look g.known (x, y) = none) :
    Calls Try.prog 13 #[.pointer (some ⟨bg, 0, none⟩), .int .i64 a, .int .i64 b] w (AddPost w bg (foot bg vn vi bm) { g with nodes := g.nodes ++ [(x, y)], known := g.known ++ [((x, y), (g.nodes.length : Int))] } (2 * g.nodes.length) 0) := by
  have hb0 : 0 ≤ y := hb.1
  have hb1 : y < 2 ^ 62 := by have := hb.2; omega
  have hp0 : (w.alloc (Obj.cells #[Value.int IntKind.i64 x, Value.int IntKind.i64 y] 58)).cell? ⟨w.heap.size, 0, none⟩ = some (.int .i64 x) := by simp
  have hp1 : (w.alloc (Obj.cells #[Value.int IntKind.i64 x, Value.int IntKind.i64 y] 58)).cell? ⟨w.heap.size, 1, none⟩ = some (.int .i64 y) := by simp
  have H := Lib.hid (And.intro hG (And.intro hlen (And.intro ha (And.intro hb (And.intro hb0 hb1)))))
  clear hG hlen ha hb hb0 hb1
  have hm2 := (H.out.1.below ((Below.refl _ _).alloc (Nat.le_refl _) (Obj.cells #[Value.int IntKind.i64 x, Value.int IntKind.i64 y] 58))).cell2
  rcases hab with ⟨hab, rfl, rfl⟩ | ⟨rfl, rfl, rfl⟩ | ⟨hab, rfl, rfl⟩
  rotate_left
  · simp at h4
  all_goals
    go_enter Try.func13, Try.ntmps13
    go_wp2_with (first | (go_at_call_of 26 (Value.int .i64 x); go_must (refine (lit_ok H.out.1 H.out.2.1 x H.out.2.2.1 _ rfl).mono ?_; rintro e w' ⟨rfl, rfl⟩)) | (go_at_call_of 26 (Value.int .i64 y); go_must (refine (lit_ok H.out.1 H.out.2.1 y H.out.2.2.2.1 _ rfl).mono ?_; rintro e w' ⟨rfl, rfl⟩)))
    go_quiet ((go_at_call 12; exact Calls.quiet_of_same (not_quiet y _ H.out.2.2.2.2.1 H.out.2.2.2.2.2)))
    go_wp2
    generalize hw1 : (w.alloc (Obj.cells #[Value.int IntKind.i64 x, Value.int IntKind.i64 y] 58)).drewN nq = w1
    have hb1 : Below w.heap.size w w1 := by rw [← hw1]; exact ((Below.refl _ _).alloc (Nat.le_refl _) _).trans (below_drewN _)
    have hp0 : w1.cell? ⟨w.heap.size, 0, none⟩ = some (.int .i64 x) := by rw [← hw1]; exact hp0
    have hp1 : w1.cell? ⟨w.heap.size, 1, none⟩ = some (.int .i64 y) := by rw [← hw1]; exact hp1
    have hG1 := H.out.1.below hb1
    have hm1 := hG1.cell2
    have hlk : ∀ k, (Instr.lookup 54 (.map (some bm)) (.agg #[.int .i64 x, .int .i64 y]) false).run Try.prog (w1.drewN k) = .ok (.int .i64 0) (w1.drewN k) := by
      intro k
      have h := lookup54 (hG1.below (below_drewN k)) x y
      rw [hl] at h; exact h
    have H1 := Lib.hid (And.intro hb1 hG1)
    have H2 := Lib.hid hl
    clear hw1 hb1 hG1 hm2 hl h1 h2 h3 h4
    go_quiet (fail)
    go_wp2_with fail
    have hGq := H1.out.2.below (below_drewN (B := w1.heap.size) (w := w1) nq)
    refine (add_any _ bg bm x y vn vi g hGq H.out.2.1).mono ?_
    rintro e w2 ⟨rfl, F', ⟨vn', vi', bm', hG2, rfl⟩, hU⟩
    have hnf : ¬ foot bg vn vi bm w.heap.size := fun h => Nat.lt_irrefl _ (H.out.1.lt _ h)
    have hp0 := hU.cell (a := ⟨w.heap.size, 0, none⟩) hp0 hnf
    have hp1 := hU.cell (a := ⟨w.heap.size, 1, none⟩) hp1 hnf
    have hc2 := hG2.cell2
    obtain ⟨es, ck, hmb, hes⟩ := hG2.hm
    obtain ⟨en, hen, hup⟩ := update54 (w := w2.drew) hmb hes x y g.nodes.length H2.out
    have h2l : (2 * (g.nodes.length : Int)) / 2 = g.nodes.length := by omega
    have H3 := Lib.hid (And.intro hG2 (And.intro hU (And.intro hes hen)))
    clear hG2 hU hes hen hmb hnf hm1 hlk hGq
    have hL0 : 0 ≤ (g.nodes.length : Int) := by omega
    have hL1 : (g.nodes.length : Int) ≤ 59999 := by have := H.out.2.1; omega
    generalize hlen : (g.nodes.length : Int) = L at *
    go_wp2
    go_region
    all_goals
      go_wp2
      go_ret2
      refine ⟨rfl, ?_⟩
      subst hlen
      exact known_end H.out.1 (H1.out.1.trans (below_drewN _)) H3.out.1 H3.out.2.1 H3.out.2.2.1 H3.out.2.2.2
end Go.Proofs.Ytoccghbkfnalgaa
