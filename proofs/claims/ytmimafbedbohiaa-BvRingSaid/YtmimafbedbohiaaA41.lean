import Derived.Test.YtmimafbedbohiaaA17
import Derived.Test.YtmimafbedbohiaaA22
import Derived.Deep.CutRange
namespace Go.Proofs.Ytmimafbedbohiaa
set_option linter.unusedVariables false
open Go.RowKit

/-- the blocks ls are the call's own and known whole, and all that was there before the call is as it was -/
structure Tr (w : World) (ls : List (Nat × Nat × List Value)) (W : World) : Prop where
  bel : Below w.heap.size w W
  blk : ∀ p ∈ ls, Blk W p.1 p.2.1 p.2.2
  ge : ∀ p ∈ ls, w.heap.size ≤ p.1
  nd : (ls.map (·.1)).Nodup
theorem Tr.below {w W W' : World} {ls} (h : Tr w ls W) (hb : Below W.heap.size W W') : Tr w ls W' :=
  ⟨h.bel.trans (hb.mono h.bel.size), fun p hp => (h.blk p hp).below hb (h.blk p hp).lt, h.ge, h.nd⟩
theorem Tr.drew {w W : World} {ls} (h : Tr w ls W) : Tr w ls W.drew := h.below (Below.refl _ _).drew
theorem Tr.nil (w : World) : Tr w [] w := ⟨Below.refl _ _, fun p hp => (by cases hp), fun p hp => (by cases hp), (by simp)⟩
theorem Tr.lay {w W : World} {ls} (h : Tr w ls W) (t : Nat) (l : List Value) : Tr w ((W.heap.size, t, l) :: ls) (W.alloc (.cells l.toArray t)) := by
  refine ⟨h.bel.alloc h.bel.size _, fun p hp => ?_, fun p hp => ?_, ?_⟩
  · rcases List.mem_cons.1 hp with rfl | hp
    · exact Blk.new t l
    · exact (h.blk p hp).alloc _
  · rcases List.mem_cons.1 hp with rfl | hp
    · exact h.bel.size
    · exact h.ge p hp
  · rw [List.map_cons, List.nodup_cons]
    refine ⟨fun hm => ?_, h.nd⟩
    obtain ⟨p, hp, e⟩ := List.mem_map.1 hm
    have := (h.blk p hp).lt
    dsimp only at e; omega
theorem nodup_set {l : List Nat} (h : l.Nodup) (j x : Nat) (hx : x ∉ l) : (l.set j x).Nodup := by
  induction l generalizing j with
  | nil => simp
  | cons a l ih =>
    rw [List.nodup_cons] at h
    rw [List.mem_cons, not_or] at hx
    cases j with
    | zero => rw [List.set_cons_zero, List.nodup_cons]; exact ⟨hx.2, h.2⟩
    | succ j =>
      rw [List.set_cons_succ, List.nodup_cons]
      refine ⟨fun hm => ?_, ih h.2 j hx.2⟩
      rcases List.mem_or_eq_of_mem_set hm with h' | h'
      · exact h.1 h'
      · exact hx.1 h'.symm
theorem Tr.swap {w W W' : World} {ls} (h : Tr w ls W) (j : Nat) {b t : Nat} {l : List Value} (hb : Below W.heap.size W W') (hk : Blk W' b t l) (hge : W.heap.size ≤ b) : Tr w (ls.set j (b, t, l)) W' := by
  have h' := h.below hb
  refine ⟨h'.bel, fun p hp => ?_, fun p hp => ?_, ?_⟩
  · rcases List.mem_or_eq_of_mem_set hp with hp | rfl
    · exact h'.blk p hp
    · exact hk
  · rcases List.mem_or_eq_of_mem_set hp with hp | rfl
    · exact h.ge p hp
    · have := h.bel.size; show w.heap.size ≤ b; omega
  · rw [List.map_set]
    refine nodup_set h.nd _ _ fun hm => ?_
    obtain ⟨p, hp, e⟩ := List.mem_map.1 hm
    have := (h.blk p hp).lt
    dsimp only at e; omega
theorem nodup_at {l : List Nat} (h : l.Nodup) {i j x : Nat} (hi : l[i]? = some x) (hj : l[j]? = some x) : i = j := by
  obtain ⟨h1, e1⟩ := List.getElem?_eq_some_iff.1 hi
  obtain ⟨h2, e2⟩ := List.getElem?_eq_some_iff.1 hj
  exact (List.getElem_inj h).1 (e1.trans e2.symm)
theorem Tr.upd {w W W' : World} {ls} (h : Tr w ls W) (j : Nat) {b t : Nat} {l l' : List Value} (hj : ls[j]? = some (b, t, l)) (hg : W.grownBy W' (some b)) (hk : Blk W' b t l') : Tr w (ls.set j (b, t, l')) W' := by
  have hm : (b, t, l) ∈ ls := List.mem_of_getElem? hj
  have hjl : j < ls.length := (List.getElem?_eq_some_iff.1 hj).1
  refine ⟨below_grown h.bel hg h.bel.size (h.ge _ hm), fun p hp => ?_, fun p hp => ?_, ?_⟩
  · obtain ⟨i, hi⟩ := List.mem_iff_getElem?.1 hp
    rw [List.getElem?_set] at hi
    by_cases e : j = i
    · rw [if_pos e, if_pos hjl] at hi
      obtain rfl := Option.some.inj hi
      exact hk
    · rw [if_neg e] at hi
      have h1 := h.blk p (List.mem_of_getElem? hi)
      unfold Blk at *
      rw [hg.block p.1 (some_lt h1) (fun e2 => e ?_)]
      · exact h1
      · have e3 : b = p.1 := by simpa [eq_comm] using e2
        exact nodup_at h.nd (x := b) (by rw [List.getElem?_map, hj]; rfl) (by rw [List.getElem?_map, hi, e3]; rfl)
  · rcases List.mem_or_eq_of_mem_set hp with hp | rfl
    · exact h.ge p hp
    · exact h.ge (b, t, l) hm
  · rw [List.map_set]
    have : (ls.map (·.1)).set j b = ls.map (·.1) := by
      apply List.ext_getElem?
      intro i
      rw [List.getElem?_set]
      by_cases e : j = i
      · subst e; rw [if_pos rfl, List.length_map, if_pos hjl, List.getElem?_map, hj]; rfl
      · rw [if_neg e]
    dsimp only
    rw [this]; exact h.nd
theorem Tr.at {w W : World} {ls} (h : Tr w ls W) (j : Nat) {b t : Nat} {l : List Value} (hj : ls[j]? = some (b, t, l)) : Blk W b t l := h.blk _ (List.mem_of_getElem? hj)
theorem Tr.ne {w W : World} {ls} (h : Tr w ls W) (i j : Nat) {b c t u : Nat} {l k : List Value} (hi : ls[i]? = some (b, t, l)) (hj : ls[j]? = some (c, u, k)) (hne : i ≠ j) : b ≠ c := by
  rintro rfl
  exact hne (nodup_at h.nd (x := b) (by rw [List.getElem?_map, hi]; rfl) (by rw [List.getElem?_map, hj]; rfl))
theorem Tr.two {w W : World} {ls} (h : Tr w ls W) (j : Nat) {b t : Nat} {u v x y : Value} (hj : ls[j]? = some (b, t, [u, v])) : Tr w (ls.set j (b, t, [x, y])) ((W.setCell ⟨b, 0, none⟩ x).setCell ⟨b, 1, none⟩ y) :=
  h.upd j hj ⟨rfl, rfl, rfl, by simp, fun k hk hne => by
    have hne' : b ≠ k := fun e => hne (by rw [e])
    rw [Below.heap_setCell _ _ _ _ (by simpa using Ne.symm hne'), Below.heap_setCell _ _ _ _ (by simpa using Ne.symm hne')]⟩ (((h.at j hj).set 0 x).set 1 y)
theorem Tr.vo {w W : World} {ls} (h : Tr w ls W) (j : Nat) {b n x : Nat} (hj : ls[j]? = some (b, 22, wordsV (wcount n) x)) (hx : x < 2 ^ (64 * wcount n)) (hn : n ≤ 128) : VO W (vecO n b) n x b := ⟨rfl, h.at j hj, hx, hn⟩
/-- four new blocks beside the old ones -/
theorem Tr.four {w W W' : World} {ls} (h : Tr w ls W) (hb : Below W.heap.size W W') {a b c d : Nat × Nat × List Value} (ha : Blk W' a.1 a.2.1 a.2.2) (hbb : Blk W' b.1 b.2.1 b.2.2) (hc : Blk W' c.1 c.2.1 c.2.2) (hd : Blk W' d.1 d.2.1 d.2.2)
    (h1 : W.heap.size ≤ a.1 ∧ W.heap.size ≤ b.1 ∧ W.heap.size ≤ c.1 ∧ W.heap.size ≤ d.1) (h2 : a.1 ≠ b.1 ∧ a.1 ≠ c.1 ∧ a.1 ≠ d.1 ∧ b.1 ≠ c.1 ∧ b.1 ≠ d.1 ∧ c.1 ≠ d.1) : Tr w (a :: b :: c :: d :: ls) W' := by
  have h' := h.below hb
  have hsz := h.bel.size
  have hno : ∀ x, W.heap.size ≤ x → x ∉ ls.map (·.1) := fun x hx hm => by
    obtain ⟨p, hp, e⟩ := List.mem_map.1 hm
    have := (h.blk p hp).lt
    omega
  refine ⟨h'.bel, ?_, ?_, ?_⟩
  · intro p hp
    simp only [List.mem_cons] at hp
    rcases hp with rfl | rfl | rfl | rfl | hp
    · exact ha
    · exact hbb
    · exact hc
    · exact hd
    · exact h'.blk p hp
  · intro p hp
    simp only [List.mem_cons] at hp
    rcases hp with rfl | rfl | rfl | rfl | hp
    · omega
    · omega
    · omega
    · omega
    · exact h.ge p hp
  · simp only [List.map_cons, List.nodup_cons, List.mem_cons, not_or]
    exact ⟨⟨h2.1, h2.2.1, h2.2.2.1, hno _ h1.1⟩, ⟨h2.2.2.2.1, h2.2.2.2.2.1, hno _ h1.2.1⟩, ⟨h2.2.2.2.2.2, hno _ h1.2.2.1⟩, hno _ h1.2.2.2, h.nd⟩
end Go.Proofs.Ytmimafbedbohiaa
