import Derived.Test.YtcifiibpiooeiaaK1
import Derived.StillTailTactics
import Derived.Deep.RegionHeld3
import Derived.Deep.CutRange
import Derived.BigRegion
import Derived.RegionTactic
import Derived.IntWalk
import Derived.Laws.Externs
namespace Go.Proofs.Ytcifiibpiooeiaa
set_option linter.unusedVariables false
open Go.RowKit

/-- a world that is w with new blocks -/
structure After (w : World) where
  val : World
  below : Below w.heap.size w val
instance (w : World) : Nonempty (After w) := ⟨⟨w, Below.refl _ _⟩⟩
theorem After.cell {w : World} {a : Addr} {v : Value} (h : w.cell? a = some v) (s : After w) : s.val.cell? a = some v := (s.below.cell (World.block_lt_of_cell? _ _ h)).trans h
theorem wp_region_after {P : Program} {id : Nat} {Q : Exit → Act → World → Prop} {a : Act} {w : World} {l : List Oper} (hm : P.follows .mixedOrders = true) (hB : Region.lexB .any l.toArray = true)
    (h : wpQuiet P l.toArray (fun w' => ∃ s : After w, w' = s.val) (fun a' => ∀ w', (∃ s : After w, w' = s.val) → Q .normal a' w') l a) : (Code.region id l.toArray true).wp P Q a w :=
  wp_region_quiet (C := fun w' => ∃ s : After w, w' = s.val) hm hB ⟨⟨w.drew, (Below.refl _ _).drew⟩, rfl⟩ (by simpa using h)
theorem Calls.after_of {P : Program} {f : FuncId} {args : Array Value} {w : World} {s : After w} {v : Value}
    (h : Calls P f args s.val fun e w' => e = .returned v ∧ Below s.val.heap.size s.val w') : Calls P f args s.val fun e w'' => e = .returned v ∧ ∃ t : After w, w'' = t.val :=
  h.mono fun _ w' ⟨he, hb⟩ => ⟨he, ⟨w', s.below.trans (hb.mono s.below.size)⟩, rfl⟩
theorem Blk.drew {w : World} {b t l} (h : Blk w b t l) : Blk w.drew b t l := h
theorem Below.comp {B : Nat} {a b c : World} (h : Below B a b) (k : Below b.heap.size b c) (hB : B ≤ b.heap.size) : Below B a c := h.trans (k.mono hB)
theorem Below.next {a b c : World} (h : Below a.heap.size a b) (k : Below b.heap.size b c) : Below a.heap.size a c := h.trans (k.mono h.size)
theorem Below.new (w : World) (o : Obj) : Below w.heap.size w (w.alloc o) := (Below.refl _ _).alloc (Nat.le_refl _) o
theorem Below.more {B : Nat} {a b : World} (h : Below B a b) (hB : B ≤ b.heap.size) (o : Obj) : Below B a (b.alloc o) := h.alloc hB o
theorem kept_new {w w1 : World} {t : TypeId} {l : List Value} (hb : Below (w.alloc (.cells l.toArray t)).heap.size (w.alloc (.cells l.toArray t)) w1) : Blk w1 w.heap.size t l ∧ Below w.heap.size w w1 ∧ w.heap.size < w1.heap.size := by
  refine ⟨(Blk.new t l).below hb (by rw [World.size_alloc]; omega), (Below.new w _).trans (hb.mono (by rw [World.size_alloc]; omega)), ?_⟩
  have := hb.size
  rw [World.size_alloc] at this; omega

theorem below_grown {B : Nat} {a b c : World} {g : Nat} (h : Below B a b) (k : b.grownBy c (some g)) (hB : B ≤ b.heap.size) (hg : B ≤ g) : Below B a c :=
  h.grown k hB fun i hi => by
    simp only [Option.some.injEq] at hi
    omega
theorem Blk.next {w w' : World} {b t l} (h : Blk w b t l) (hb : Below w.heap.size w w') : Blk w' b t l := h.below hb h.lt
theorem RO.ofCells {w : World} {b n t : Nat} {l : List Value} (h : Blk w b t l) (hl : l.length = n) : RO w (.slice (some ⟨b, 0, none⟩) n n) 1 n l := by
  refine ⟨by omega, _, _, rfl, fun j u hj => ⟨b, 0, rfl, ?_⟩⟩
  rw [Nat.zero_add]; exact h.cell hj
/-- the blocks ls are the call's own and known whole, and all that was there before the call is as it was -/
structure Tr (w : World) (ls : List (Nat × Nat × List Value)) (W : World) : Prop where
  bel : Below w.heap.size w W
  blk : ∀ p ∈ ls, Blk W p.1 p.2.1 p.2.2
  ge : ∀ p ∈ ls, w.heap.size ≤ p.1
  nd : (ls.map (·.1)).Nodup
theorem Tr.below {w W W' : World} {ls} (h : Tr w ls W) (hb : Below W.heap.size W W') : Tr w ls W' :=
  ⟨h.bel.trans (hb.mono h.bel.size), fun p hp => (h.blk p hp).below hb (h.blk p hp).lt, h.ge, h.nd⟩
theorem Tr.drew {w W : World} {ls} (h : Tr w ls W) : Tr w ls W.drew := h.below (Below.refl _ _).drew
theorem Tr.nil (w : World) : Tr w [] w := ⟨Below.refl _ _, fun p hp => (by cases hp), fun p hp => (by cases hp), (by simp)⟩
theorem Tr.lay {w W : World} {ls} (h : Tr w ls W) (t : Nat) (l : List Value) : Tr w ((W.heap.size, t, l) :: ls) (W.alloc (.cells l.toArray t)) := by
  refine ⟨h.bel.alloc h.bel.size _, fun p hp => ?_, fun p hp => ?_, ?_⟩
  · rcases List.mem_cons.1 hp with rfl | hp
    · exact Blk.new t l
    · exact (h.blk p hp).alloc _
  · rcases List.mem_cons.1 hp with rfl | hp
    · exact h.bel.size
    · exact h.ge p hp
  · rw [List.map_cons, List.nodup_cons]
    refine ⟨fun hm => ?_, h.nd⟩
    obtain ⟨p, hp, e⟩ := List.mem_map.1 hm
    have := (h.blk p hp).lt
    dsimp only at e; omega
theorem nodup_set {l : List Nat} (h : l.Nodup) (j x : Nat) (hx : x ∉ l) : (l.set j x).Nodup := by
  induction l generalizing j with
  | nil => simp
  | cons a l ih =>
    rw [List.nodup_cons] at h
    rw [List.mem_cons, not_or] at hx
    cases j with
    | zero => rw [List.set_cons_zero, List.nodup_cons]; exact ⟨hx.2, h.2⟩
    | succ j =>
      rw [List.set_cons_succ, List.nodup_cons]
      refine ⟨fun hm => ?_, ih h.2 j hx.2⟩
      rcases List.mem_or_eq_of_mem_set hm with h' | h'
      · exact h.1 h'
      · exact hx.1 h'.symm
theorem Tr.swap {w W W' : World} {ls} (h : Tr w ls W) (j : Nat) {b t : Nat} {l : List Value} (hb : Below W.heap.size W W') (hk : Blk W' b t l) (hge : W.heap.size ≤ b) : Tr w (ls.set j (b, t, l)) W' := by
  have h' := h.below hb
  refine ⟨h'.bel, fun p hp => ?_, fun p hp => ?_, ?_⟩
  · rcases List.mem_or_eq_of_mem_set hp with hp | rfl
    · exact h'.blk p hp
    · exact hk
  · rcases List.mem_or_eq_of_mem_set hp with hp | rfl
    · exact h.ge p hp
    · have := h.bel.size; show w.heap.size ≤ b; omega
  · rw [List.map_set]
    refine nodup_set h.nd _ _ fun hm => ?_
    obtain ⟨p, hp, e⟩ := List.mem_map.1 hm
    have := (h.blk p hp).lt
    dsimp only at e; omega
theorem nodup_at {l : List Nat} (h : l.Nodup) {i j x : Nat} (hi : l[i]? = some x) (hj : l[j]? = some x) : i = j := by
  obtain ⟨h1, e1⟩ := List.getElem?_eq_some_iff.1 hi
  obtain ⟨h2, e2⟩ := List.getElem?_eq_some_iff.1 hj
  exact (List.getElem_inj h).1 (e1.trans e2.symm)
theorem Tr.upd {w W W' : World} {ls} (h : Tr w ls W) (j : Nat) {b t : Nat} {l l' : List Value} (hj : ls[j]? = some (b, t, l)) (hg : W.grownBy W' (some b)) (hk : Blk W' b t l') : Tr w (ls.set j (b, t, l')) W' := by
  have hm : (b, t, l) ∈ ls := List.mem_of_getElem? hj
  have hjl : j < ls.length := (List.getElem?_eq_some_iff.1 hj).1
  refine ⟨below_grown h.bel hg h.bel.size (h.ge _ hm), fun p hp => ?_, fun p hp => ?_, ?_⟩
  · obtain ⟨i, hi⟩ := List.mem_iff_getElem?.1 hp
    rw [List.getElem?_set] at hi
    by_cases e : j = i
    · rw [if_pos e, if_pos hjl] at hi
      obtain rfl := Option.some.inj hi
      exact hk
    · rw [if_neg e] at hi
      have h1 := h.blk p (List.mem_of_getElem? hi)
      unfold Blk at *
      rw [hg.block p.1 (some_lt h1) (fun e2 => e ?_)]
      · exact h1
      · have e3 : b = p.1 := by simpa [eq_comm] using e2
        exact nodup_at h.nd (x := b) (by rw [List.getElem?_map, hj]; rfl) (by rw [List.getElem?_map, hi, e3]; rfl)
  · rcases List.mem_or_eq_of_mem_set hp with hp | rfl
    · exact h.ge p hp
    · exact h.ge (b, t, l) hm
  · rw [List.map_set]
    have : (ls.map (·.1)).set j b = ls.map (·.1) := by
      apply List.ext_getElem?
      intro i
      rw [List.getElem?_set]
      by_cases e : j = i
      · subst e; rw [if_pos rfl, List.length_map, if_pos hjl, List.getElem?_map, hj]; rfl
      · rw [if_neg e]
    dsimp only
    rw [this]; exact h.nd
theorem Tr.at {w W : World} {ls} (h : Tr w ls W) (j : Nat) {b t : Nat} {l : List Value} (hj : ls[j]? = some (b, t, l)) : Blk W b t l := h.blk _ (List.mem_of_getElem? hj)
theorem Tr.ne {w W : World} {ls} (h : Tr w ls W) (i j : Nat) {b c t u : Nat} {l k : List Value} (hi : ls[i]? = some (b, t, l)) (hj : ls[j]? = some (c, u, k)) (hne : i ≠ j) : b ≠ c := by
  rintro rfl
  exact hne (nodup_at h.nd (x := b) (by rw [List.getElem?_map, hi]; rfl) (by rw [List.getElem?_map, hj]; rfl))
theorem Tr.two {w W : World} {ls} (h : Tr w ls W) (j : Nat) {b t : Nat} {u v x y : Value} (hj : ls[j]? = some (b, t, [u, v])) : Tr w (ls.set j (b, t, [x, y])) ((W.setCell ⟨b, 0, none⟩ x).setCell ⟨b, 1, none⟩ y) :=
  h.upd j hj ⟨rfl, rfl, rfl, by simp, fun k hk hne => by
    have hne' : b ≠ k := fun e => hne (by rw [e])
    rw [Below.heap_setCell _ _ _ _ (by simpa using Ne.symm hne'), Below.heap_setCell _ _ _ _ (by simpa using Ne.symm hne')]⟩ (((h.at j hj).set 0 x).set 1 y)
/-- four new blocks beside the old ones -/
theorem Tr.four {w W W' : World} {ls} (h : Tr w ls W) (hb : Below W.heap.size W W') {a b c d : Nat × Nat × List Value} (ha : Blk W' a.1 a.2.1 a.2.2) (hbb : Blk W' b.1 b.2.1 b.2.2) (hc : Blk W' c.1 c.2.1 c.2.2) (hd : Blk W' d.1 d.2.1 d.2.2)
    (h1 : W.heap.size ≤ a.1 ∧ W.heap.size ≤ b.1 ∧ W.heap.size ≤ c.1 ∧ W.heap.size ≤ d.1) (h2 : a.1 ≠ b.1 ∧ a.1 ≠ c.1 ∧ a.1 ≠ d.1 ∧ b.1 ≠ c.1 ∧ b.1 ≠ d.1 ∧ c.1 ≠ d.1) : Tr w (a :: b :: c :: d :: ls) W' := by
  have h' := h.below hb
  have hsz := h.bel.size
  have hno : ∀ x, W.heap.size ≤ x → x ∉ ls.map (·.1) := fun x hx hm => by
    obtain ⟨p, hp, e⟩ := List.mem_map.1 hm
    have := (h.blk p hp).lt
    omega
  refine ⟨h'.bel, ?_, ?_, ?_⟩
  · intro p hp
    simp only [List.mem_cons] at hp
    rcases hp with rfl | rfl | rfl | rfl | hp
    · exact ha
    · exact hbb
    · exact hc
    · exact hd
    · exact h'.blk p hp
  · intro p hp
    simp only [List.mem_cons] at hp
    rcases hp with rfl | rfl | rfl | rfl | hp
    · omega
    · omega
    · omega
    · omega
    · exact h.ge p hp
  · simp only [List.map_cons, List.nodup_cons, List.mem_cons, not_or]
    exact ⟨⟨h2.1, h2.2.1, h2.2.2.1, hno _ h1.1⟩, ⟨h2.2.2.2.1, h2.2.2.2.2.1, hno _ h1.2.1⟩, ⟨h2.2.2.2.2.2, hno _ h1.2.2.1⟩, hno _ h1.2.2.2, h.nd⟩
theorem Tr.pr {w W : World} {ls} (h : Tr w ls W) (j : Nat) {b t : Nat} {u v : Value} (hj : ls[j]? = some (b, t, [u, v])) : W.cell? ⟨b, 0, none⟩ = some u ∧ W.cell? ⟨b, 1, none⟩ = some v := ⟨(h.at j hj).cell (i := 0) rfl, (h.at j hj).cell (i := 1) rfl⟩
theorem Tr.cons {w W W' : World} {ls} (h : Tr w ls W) {b t : Nat} {l : List Value} (hb : Below W.heap.size W W') (hk : Blk W' b t l) (hge : W.heap.size ≤ b) : Tr w ((b, t, l) :: ls) W' := by
  have h' := h.below hb
  refine ⟨h'.bel, fun p hp => ?_, fun p hp => ?_, ?_⟩
  · rcases List.mem_cons.1 hp with rfl | hp
    · exact hk
    · exact h'.blk p hp
  · rcases List.mem_cons.1 hp with rfl | hp
    · have := h.bel.size; show w.heap.size ≤ b; omega
    · exact h.ge p hp
  · rw [List.map_cons, List.nodup_cons]
    refine ⟨fun hm => ?_, h.nd⟩
    obtain ⟨p, hp, e⟩ := List.mem_map.1 hm
    have := (h.blk p hp).lt
    dsimp only at e; omega
theorem Tr.subs {w W : World} {ls ls'} (h : Tr w ls W) (hs : ∀ p ∈ ls', p ∈ ls) (hnd : (ls'.map (·.1)).Nodup) : Tr w ls' W := ⟨h.bel, fun p hp => h.blk p (hs p hp), fun p hp => h.ge p (hs p hp), hnd⟩
theorem Tr.far {w W : World} {ls} (h : Tr w ls W) (j : Nat) {b t : Nat} {l : List Value} (hj : ls[j]? = some (b, t, l)) : w.heap.size ≤ b := h.ge _ (List.mem_of_getElem? hj)
theorem RO.turn {w w' : World} {p : Option Addr} {k c size n : Nat} {cs : List Value} (h : RO w (.slice p k c) size n cs) (hk : ∀ b o, p = some ⟨b, o, none⟩ → w'.heap[b]? = w.heap[b]?) : RO w' (.slice p k c) size n cs := by
  obtain ⟨h1, q, c', e, h3⟩ := h
  cases e
  refine ⟨h1, _, _, rfl, fun j u hu => ?_⟩
  obtain ⟨b, o, e, hc⟩ := h3 j u hu
  refine ⟨b, o, e, ?_⟩
  rw [← hc]; simp only [World.cell?, hk b o e]
theorem RO.add {w : World} {b o n c size n' : Nat} {cs : List Value} (h : RO w (.slice (some ⟨b, o, none⟩) n c) size n' cs) : ∀ j u, cs[j]? = some u → w.cell? ((⟨b, o, none⟩ : Addr).add j) = some u := by
  intro j u hu
  have h2 := h.cell hu
  by_cases hj : j = 0
  · subst hj; simpa [Addr.add] using h2
  · simpa [Addr.add, hj] using h2
end Go.Proofs.Ytcifiibpiooeiaa
