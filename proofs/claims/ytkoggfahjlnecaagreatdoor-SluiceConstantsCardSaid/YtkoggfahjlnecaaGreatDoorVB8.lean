
import Derived.Test.YtkoggfahjlnecaaGreatDoorVB4
import Derived.Test.YtkoggfahjlnecaaGreatDoorVB6
import Derived.Deep.CutRange
namespace Go.Proofs.YtkoggfahjlnecaaGreatDoor
set_option linter.unusedVariables false
open Go.RowKit
/-- the blocks ls are the call's own and known whole, and all that was there before the call is as it was -/
structure Tr (w : World) (ls : List (Nat × Nat × List Value)) (W : World) : Prop where
  bel : Below w.heap.size w W
  blk : ∀ p ∈ ls, Blk W p.1 p.2.1 p.2.2
  ge : ∀ p ∈ ls, w.heap.size ≤ p.1
  nd : (ls.map (·.1)).Nodup
theorem Tr.below {w W W' : World} {ls} (h : Tr w ls W) (hb : Below W.heap.size W W') : Tr w ls W' :=
  ⟨h.bel.trans (hb.mono h.bel.size), fun p hp => (h.blk p hp).below hb (h.blk p hp).lt, h.ge, h.nd⟩
theorem Tr.drew {w W : World} {ls} (h : Tr w ls W) : Tr w ls W.drew := h.below (Below.refl _ _).drew
theorem Tr.nil (w : World) : Tr w [] w := ⟨Below.refl _ _, fun p hp => (by cases hp), fun p hp => (by cases hp), (by simp)⟩
theorem Tr.lay {w W : World} {ls} (h : Tr w ls W) (t : Nat) (l : List Value) : Tr w ((W.heap.size, t, l) :: ls) (W.alloc (.cells l.toArray t)) := by
  refine ⟨h.bel.alloc h.bel.size _, fun p hp => ?_, fun p hp => ?_, ?_⟩
  · rcases List.mem_cons.1 hp with rfl | hp
    · exact Blk.new t l
    · exact (h.blk p hp).alloc _
  · rcases List.mem_cons.1 hp with rfl | hp
    · exact h.bel.size
    · exact h.ge p hp
  · rw [List.map_cons, List.nodup_cons]
    refine ⟨fun hm => ?_, h.nd⟩
    obtain ⟨p, hp, e⟩ := List.mem_map.1 hm
    have := (h.blk p hp).lt
    dsimp only at e; omega
theorem nodup_set {l : List Nat} (h : l.Nodup) (j x : Nat) (hx : x ∉ l) : (l.set j x).Nodup := by
  induction l generalizing j with
  | nil => simp
  | cons a l ih =>
    rw [List.nodup_cons] at h
    rw [List.mem_cons, not_or] at hx
    cases j with
    | zero => rw [List.set_cons_zero, List.nodup_cons]; exact ⟨hx.2, h.2⟩
    | succ j =>
      rw [List.set_cons_succ, List.nodup_cons]
      refine ⟨fun hm => ?_, ih h.2 j hx.2⟩
      rcases List.mem_or_eq_of_mem_set hm with h' | h'
      · exact h.1 h'
      · exact hx.1 h'.symm
theorem Tr.swap {w W W' : World} {ls} (h : Tr w ls W) (j : Nat) {b t : Nat} {l : List Value} (hb : Below W.heap.size W W') (hk : Blk W' b t l) (hge : W.heap.size ≤ b) : Tr w (ls.set j (b, t, l)) W' := by
  have h' := h.below hb
  refine ⟨h'.bel, fun p hp => ?_, fun p hp => ?_, ?_⟩
  · rcases List.mem_or_eq_of_mem_set hp with hp | rfl
    · exact h'.blk p hp
    · exact hk
  · rcases List.mem_or_eq_of_mem_set hp with hp | rfl
    · exact h.ge p hp
    · have := h.bel.size; show w.heap.size ≤ b; omega
  · rw [List.map_set]
    refine nodup_set h.nd _ _ fun hm => ?_
    obtain ⟨p, hp, e⟩ := List.mem_map.1 hm
    have := (h.blk p hp).lt
    dsimp only at e; omega
theorem nodup_at {l : List Nat} (h : l.Nodup) {i j x : Nat} (hi : l[i]? = some x) (hj : l[j]? = some x) : i = j := by
  obtain ⟨h1, e1⟩ := List.getElem?_eq_some_iff.1 hi
  obtain ⟨h2, e2⟩ := List.getElem?_eq_some_iff.1 hj
  exact (List.getElem_inj h).1 (e1.trans e2.symm)
theorem Tr.upd {w W W' : World} {ls} (h : Tr w ls W) (j : Nat) {b t : Nat} {l l' : List Value} (hj : ls[j]? = some (b, t, l)) (hg : W.grownBy W' (some b)) (hk : Blk W' b t l') : Tr w (ls.set j (b, t, l')) W' := by
  have hm : (b, t, l) ∈ ls := List.mem_of_getElem? hj
  have hjl : j < ls.length := (List.getElem?_eq_some_iff.1 hj).1
  refine ⟨below_grown h.bel hg h.bel.size (h.ge _ hm), fun p hp => ?_, fun p hp => ?_, ?_⟩
  · obtain ⟨i, hi⟩ := List.mem_iff_getElem?.1 hp
    rw [List.getElem?_set] at hi
    by_cases e : j = i
    · rw [if_pos e, if_pos hjl] at hi
      obtain rfl := Option.some.inj hi
      exact hk
    · rw [if_neg e] at hi
      have h1 := h.blk p (List.mem_of_getElem? hi)
      unfold Blk at *
      rw [hg.block p.1 (some_lt h1) (fun e2 => e ?_)]
      · exact h1
      · have e3 : b = p.1 := by simpa [eq_comm] using e2
        exact nodup_at h.nd (x := b) (by rw [List.getElem?_map, hj]; rfl) (by rw [List.getElem?_map, hi, e3]; rfl)
  · rcases List.mem_or_eq_of_mem_set hp with hp | rfl
    · exact h.ge p hp
    · exact h.ge (b, t, l) hm
  · rw [List.map_set]
    have : (ls.map (·.1)).set j b = ls.map (·.1) := by
      apply List.ext_getElem?
      intro i
      rw [List.getElem?_set]
      by_cases e : j = i
      · subst e; rw [if_pos rfl, List.length_map, if_pos hjl, List.getElem?_map, hj]; rfl
      · rw [if_neg e]
    dsimp only
    rw [this]; exact h.nd
theorem Tr.at {w W : World} {ls} (h : Tr w ls W) (j : Nat) {b t : Nat} {l : List Value} (hj : ls[j]? = some (b, t, l)) : Blk W b t l := h.blk _ (List.mem_of_getElem? hj)
theorem Tr.ne {w W : World} {ls} (h : Tr w ls W) (i j : Nat) {b c t u : Nat} {l k : List Value} (hi : ls[i]? = some (b, t, l)) (hj : ls[j]? = some (c, u, k)) (hne : i ≠ j) : b ≠ c := by
  rintro rfl
  exact hne (nodup_at h.nd (x := b) (by rw [List.getElem?_map, hi]; rfl) (by rw [List.getElem?_map, hj]; rfl))
theorem Tr.two {w W : World} {ls} (h : Tr w ls W) (j : Nat) {b t : Nat} {u v x y : Value} (hj : ls[j]? = some (b, t, [u, v])) : Tr w (ls.set j (b, t, [x, y])) ((W.setCell ⟨b, 0, none⟩ x).setCell ⟨b, 1, none⟩ y) :=
  h.upd j hj ⟨rfl, rfl, rfl, by simp, fun k hk hne => by
    have hne' : b ≠ k := fun e => hne (by rw [e])
    rw [Below.heap_setCell _ _ _ _ (by simpa using Ne.symm hne'), Below.heap_setCell _ _ _ _ (by simpa using Ne.symm hne')]⟩ (((h.at j hj).set 0 x).set 1 y)
theorem Tr.vo {w W : World} {ls} (h : Tr w ls W) (j : Nat) {b n x : Nat} (hj : ls[j]? = some (b, 55, wordsV (wcount n) x)) (hx : x < 2 ^ (64 * wcount n)) (hn : n ≤ 128) : VO W (vecO n b) n x b := ⟨rfl, h.at j hj, hx, hn⟩
/-- four new blocks beside the old ones -/
theorem Tr.four {w W W' : World} {ls} (h : Tr w ls W) (hb : Below W.heap.size W W') {a b c d : Nat × Nat × List Value} (ha : Blk W' a.1 a.2.1 a.2.2) (hbb : Blk W' b.1 b.2.1 b.2.2) (hc : Blk W' c.1 c.2.1 c.2.2) (hd : Blk W' d.1 d.2.1 d.2.2)
    (h1 : W.heap.size ≤ a.1 ∧ W.heap.size ≤ b.1 ∧ W.heap.size ≤ c.1 ∧ W.heap.size ≤ d.1) (h2 : a.1 ≠ b.1 ∧ a.1 ≠ c.1 ∧ a.1 ≠ d.1 ∧ b.1 ≠ c.1 ∧ b.1 ≠ d.1 ∧ c.1 ≠ d.1) : Tr w (a :: b :: c :: d :: ls) W' := by
  have h' := h.below hb
  have hsz := h.bel.size
  have hno : ∀ x, W.heap.size ≤ x → x ∉ ls.map (·.1) := fun x hx hm => by
    obtain ⟨p, hp, e⟩ := List.mem_map.1 hm
    have := (h.blk p hp).lt
    omega
  refine ⟨h'.bel, ?_, ?_, ?_⟩
  · intro p hp
    simp only [List.mem_cons] at hp
    rcases hp with rfl | rfl | rfl | rfl | hp
    · exact ha
    · exact hbb
    · exact hc
    · exact hd
    · exact h'.blk p hp
  · intro p hp
    simp only [List.mem_cons] at hp
    rcases hp with rfl | rfl | rfl | rfl | hp
    · omega
    · omega
    · omega
    · omega
    · exact h.ge p hp
  · simp only [List.map_cons, List.nodup_cons, List.mem_cons, not_or]
    exact ⟨⟨h2.1, h2.2.1, h2.2.2.1, hno _ h1.1⟩, ⟨h2.2.2.2.1, h2.2.2.2.2.1, hno _ h1.2.1⟩, ⟨h2.2.2.2.2.2, hno _ h1.2.2.1⟩, hno _ h1.2.2.2, h.nd⟩
end Go.Proofs.YtkoggfahjlnecaaGreatDoor
namespace Go.Proofs.YtkoggfahjlnecaaGreatDoor
set_option linter.unusedVariables false
open Go.RowKit
/-- two vectors are returned -/
def RetP (w : World) (n q r : Nat) (e : Ending) (w' : World) : Prop := ∃ v u, e = .returned (.tuple #[v, u]) ∧ VR w' v n q ∧ VR w' u n r ∧ Below w.heap.size w w'
theorem Tr.pr {w W : World} {ls} (h : Tr w ls W) (j : Nat) {b t : Nat} {u v : Value} (hj : ls[j]? = some (b, t, [u, v])) : W.cell? ⟨b, 0, none⟩ = some u ∧ W.cell? ⟨b, 1, none⟩ = some v := ⟨(h.at j hj).cell (i := 0) rfl, (h.at j hj).cell (i := 1) rfl⟩
theorem Tr.cons {w W W' : World} {ls} (h : Tr w ls W) {b t : Nat} {l : List Value} (hb : Below W.heap.size W W') (hk : Blk W' b t l) (hge : W.heap.size ≤ b) : Tr w ((b, t, l) :: ls) W' := by
  have h' := h.below hb
  refine ⟨h'.bel, fun p hp => ?_, fun p hp => ?_, ?_⟩
  · rcases List.mem_cons.1 hp with rfl | hp
    · exact hk
    · exact h'.blk p hp
  · rcases List.mem_cons.1 hp with rfl | hp
    · have := h.bel.size; show w.heap.size ≤ b; omega
    · exact h.ge p hp
  · rw [List.map_cons, List.nodup_cons]
    refine ⟨fun hm => ?_, h.nd⟩
    obtain ⟨p, hp, e⟩ := List.mem_map.1 hm
    have := (h.blk p hp).lt
    dsimp only at e; omega
set_option maxRecDepth 100000 in
set_option maxHeartbeats 4000000 in
theorem split_zero {w : World} {va vb : Value} {n A B : Nat} (hA : VR w va n A) (hB : VR w vb n B) (hn : 0 < n) (h0 : B = 0) :
    Calls Tryz.prog 119 #[va, vb] w (RetP w n (notN n 0) A) := by
  have HA := Lib.hid hA
  have hn128 := hA.le
  have hni : (n : Int) ≤ 128 := by omega
  obtain ⟨pa, ca, rfl, ra⟩ := hA.ex
  have HAny : Hid (∀ w', Below w.heap.size w w' → Calls Tryz.prog 80 #[vb] w' fun e w'' => e = .returned (.bool false) ∧ Below w'.heap.size w' w'') := Lib.hid fun w' hb => by
    have := any_any (hB.below hb); rwa [h0, show nz 0 = false from rfl] at this
  obtain ⟨pb, cb, rfl, rb⟩ := hB.ex
  have HBl := Lib.hid (fun w => blank_any (w := w) n hn128)
  have HNt := Lib.hid (fun w va (h : VR w va n 0) => not_any (w := w) (va := va) (n := n) (A := 0) h hn)
  clear hA hB ra rb hn128 hn h0
  go_enter Tryz.func119, Tryz.ntmps119
  go_wp2_with fail
  have hT := ((((Tr.nil w).lay 39 [.int .i64 n, .slice pa (wcount n) ca]).lay 39 [.int .i64 n, .slice pb (wcount n) cb]).lay 39 [.int .i64 0, .slice none 0 0]).lay 39 [.int .i64 0, .slice none 0 0]
  simp only [World.size_alloc] at hT
  generalize (((w.alloc (.cells [Value.int .i64 n, .slice pa (wcount n) ca].toArray 39)).alloc (.cells [Value.int .i64 n, .slice pb (wcount n) cb].toArray 39)).alloc (.cells [Value.int .i64 0, .slice none 0 0].toArray 39)).alloc (.cells [Value.int .i64 0, .slice none 0 0].toArray 39) = W at *
  have HT := Lib.hid hT
  clear hT
  refine (HAny.out _ HT.out.bel).mono ?_; rintro e w1 ⟨rfl, hb1⟩
  have HT1 := Lib.hid (HT.out.below hb1)
  clear hb1
  go_wp2_with fail
  have s1 := HT1.out.drew.pr 3 rfl
  refine wp_region_held_drew (S := (fun w' => w'.cell? ⟨w.heap.size, 0, none⟩ = some (.int .i64 n) ∧ w'.cell? ⟨w.heap.size, 1, none⟩ = some (.slice pa (wcount n) ca))) (by kernel_rfl) ?_ (fun hHeld => ?_)
  · (try dsimp only)
    first | assumption | exact s1 | exact s4 | exact s5
  refine held_take (i := 0) (v := ?_) rfl (by kernel_rfl) (by kernel_rfl) (by kernel_rfl) (fun _ _ _ h => h) (Or.inl ⟨by rfl, ?_⟩) (by assumption) ?_
  rotate_left
  · intro w hSw; (try dsimp only at hSw); go_simp; (try with_reducible rfl)
  (try simp only [Act.put, List.setIfInBounds_toArray, List.set_cons_zero, List.set_cons_succ])
  refine held_take (i := 1) (v := ?_) rfl (by kernel_rfl) (by kernel_rfl) (by kernel_rfl) (fun _ _ _ h => h) (Or.inl ⟨by rfl, ?_⟩) (by assumption) ?_
  rotate_left
  · intro w hSw; (try dsimp only at hSw); go_simp; (try with_reducible rfl)
  (try simp only [Act.put, List.setIfInBounds_toArray, List.set_cons_zero, List.set_cons_succ])
  refine held_take (i := 4) (v := ?_) rfl (by kernel_rfl) (by kernel_rfl) (by kernel_rfl) (fun _ _ _ h => h) (Or.inl ⟨by rfl, ?_⟩) (by assumption) ?_
  rotate_left
  · intro w hSw; (try dsimp only at hSw); go_simp; (try with_reducible rfl)
  (try simp only [Act.put, List.setIfInBounds_toArray, List.set_cons_zero, List.set_cons_succ])
  refine wpAnyH_ready (rs := [2]) (by kernel_rfl) (by simp) ?_
  refine held_cons rfl (fun K hK => ?_) AllReadyH.nil
  go_simp
  refine (HBl.out _).mono ?_; rintro e w2 ⟨v2, b2, rfl, hv2, hge2, hb2⟩; have HT2 := Lib.hid (HT1.out.drew.below hb2); have V2 := Lib.hid (hv2.vr (Nat.pow_pos (by decide))); have s2 := HT2.out.pr 3 rfl; clear hv2 hge2 hb2
  (try go_simp)
  refine hK.out _ _ ?_ (fun hHeld2 => ?_)
  · (try dsimp only)
    first | assumption | exact s1 | exact s4 | exact s5
  clear hK K hHeld
  have hHeld := hHeld2
  clear hHeld2
  (try simp only [Act.put, List.setIfInBounds_toArray, List.set_cons_zero, List.set_cons_succ])
  refine wpAnyH_ready (rs := [3]) (by kernel_rfl) (by simp) ?_
  refine held_cons rfl (fun K hK => ?_) AllReadyH.nil
  go_simp
  refine (HNt.out _ _ V2.out).mono ?_; rintro e w3 ⟨v3, b3, rfl, hv3, hge3, hb3⟩; obtain rfl := hv3.e; have HT3 := Lib.hid (HT2.out.cons hb3 hv3.blk hge3); have V3 := Lib.hid hv3.lt; have s3 := HT3.out.pr 4 rfl; have r0 := (HT3.out.pr 1 rfl).1; have r1 := (HT3.out.pr 1 rfl).2; have r2 := (HT3.out.pr 2 rfl).1; have r3 := (HT3.out.pr 2 rfl).2; have f0 := (HT3.out.at 1 rfl).frz 0; have f1 := (HT3.out.at 1 rfl).frz 1; have f2 := (HT3.out.at 2 rfl).frz 0; have f3 := (HT3.out.at 2 rfl).frz 1; have HT4 := Lib.hid (HT3.out.two 2 (x := .int .i64 n) (y := .slice (some ⟨b3, 0, none⟩) (wcount n) (wcount n)) rfl); have s4 := HT4.out.pr 4 rfl; have HT5 := Lib.hid (HT4.out.two 1 (x := .int .i64 n) (y := .slice pa (wcount n) ca) rfl); have s5 := HT5.out.pr 4 rfl; clear hv3 hge3 hb3
  (try go_simp)
  refine hK.out _ _ ?_ (fun hHeld2 => ?_)
  · (try dsimp only)
    first | assumption | exact s1 | exact s4 | exact s5
  clear hK K hHeld
  have hHeld := hHeld2
  clear hHeld2
  (try simp only [Act.put, List.setIfInBounds_toArray, List.set_cons_zero, List.set_cons_succ])
  refine wpAnyH_ready (rs := [5]) (by kernel_rfl) (by simp) ?_
  refine held_cons rfl (fun K hK => ?_) AllReadyH.nil
  go_simp
  refine hK.out _ _ ?_ (fun hHeld2 => ?_)
  · (try dsimp only)
    first | assumption | exact s1 | exact s4 | exact s5
  clear hK K hHeld
  have hHeld := hHeld2
  clear hHeld2
  (try simp only [Act.put, List.setIfInBounds_toArray, List.set_cons_zero, List.set_cons_succ])
  refine wpAnyH_ready (rs := [6]) (by kernel_rfl) (by simp) ?_
  refine held_cons rfl (fun K hK => ?_) AllReadyH.nil
  go_simp
  refine hK.out _ _ ?_ (fun hHeld2 => ?_)
  · (try dsimp only)
    first | assumption | exact s1 | exact s4 | exact s5
  clear hK K hHeld
  have hHeld := hHeld2
  clear hHeld2
  (try simp only [Act.put, List.setIfInBounds_toArray, List.set_cons_zero, List.set_cons_succ])
  refine wpAnyH_done (by kernel_rfl) ?_ _
  go_wp2_with fail
  have e0 := (HT5.out.pr 2 rfl).1
  have e1 := (HT5.out.pr 2 rfl).2
  have e2 := (HT5.out.pr 1 rfl).1
  have e3 := (HT5.out.pr 1 rfl).2
  exact bodyPost_ret (v := .tuple #[vecO n b3, .agg #[.int .i64 n, .slice pa (wcount n) ca]]) (by simp [results, Tryz.results119, go_sem, e0, e1, e2, e3, vecO]) rfl ⟨_, _, rfl, (HT5.out.vo 0 rfl V3.out HA.out.le).vr (notN_lt _ _), HA.out.below HT5.out.bel, HT5.out.bel⟩
end Go.Proofs.YtkoggfahjlnecaaGreatDoor
namespace Go.Proofs.YtkoggfahjlnecaaGreatDoor
set_option linter.unusedVariables false
open Go.RowKit
/-- what is said of an operation's value ahead of the walk: the value itself, or what holds of it in every later world and which blocks it brings -/
inductive Sp where
  | known (v : Value)
  | rel (ok : Value → World → Prop) (own : Value → List (Nat × Nat × List Value))
def Sp.val : Sp → Value → Value
  | .known v, _ => v
  | .rel _ _, u => u
def Sp.ok : Sp → Value → World → Prop
  | .known v, u, _ => u = v
  | .rel ok _, u, w => ok u w
def Sp.own : Sp → Value → List (Nat × Nat × List Value)
  | .known _, _ => []
  | .rel _ own, u => own u
theorem Sp.val_ok {s : Sp} {u : Value} {w : World} (h : s.ok u w) : s.val u = u := by
  cases s with
  | known v => exact (show u = v from h).symm
  | rel _ _ => rfl
def Sp.Mono (s : Sp) : Prop := ∀ u w w', Below w.heap.size w w' → s.ok u w → s.ok u w'
theorem Sp.Mono.known {v : Value} : (Sp.known v).Mono := fun _ _ _ _ h => h
def spAt (sp : List Sp) (j : Nat) : Sp := sp.getD j (.known undef)
/-- a box that the region makes -/
def Sp.box (t : Nat) (l : List Value) : Sp := .rel (fun v _ => ∃ L, v = .pointer (some ⟨L, 0, none⟩)) fun v => match v with
  | .pointer (some a) => [(a.block, t, l)]
  | _ => []
theorem Sp.Mono.box {t : Nat} {l : List Value} : (Sp.box t l).Mono := fun _ _ _ _ h => h
def MonoAll : List Sp → Prop
  | [] => True
  | s :: sp => s.Mono ∧ MonoAll sp
theorem MonoAll.get {sp : List Sp} (h : MonoAll sp) (j : Nat) : (spAt sp j).Mono := by
  induction sp generalizing j with
  | nil => exact Sp.Mono.known
  | cons s sp ih =>
    cases j with
    | zero => exact h.1
    | succ j => exact ih h.2 j
/-- the frame with the values laid in the slots of the operations that have come up -/
def fillL (listed : Nat → Bool) : List Oper → List Sp → (Nat → Value) → Nat → Act → Act
  | o :: ops, s :: sp, u, j, a => fillL listed ops sp u (j + 1) (if listed j then a.put o.dst (s.val (u j)) else a)
  | [], _, _, _, a => a
  | _ :: _, [], _, _, a => a
def ownsL (listed : Nat → Bool) : List Sp → (Nat → Value) → Nat → List (Nat × Nat × List Value)
  | [], _, _ => []
  | s :: sp, u, j => (if listed j then s.own (u j) else []) ++ ownsL listed sp u (j + 1)
def okAll (e : Nat → Bool) : List Sp → (Nat → Value) → Nat → World → Prop
  | [], _, _, _ => True
  | s :: sp, u, j, w => (e j = true → s.ok (u j) w) ∧ okAll e sp u (j + 1) w
theorem fill_congr {l l' : Nat → Bool} {u u' : Nat → Value} : ∀ (ops : List Oper) (sp : List Sp) (j : Nat) (a : Act), (∀ k, j ≤ k → l k = l' k) → (∀ k, j ≤ k → u k = u' k) → fillL l ops sp u j a = fillL l' ops sp u' j a
  | [], _, _, _, _, _ => by simp [fillL]
  | _ :: _, [], _, _, _, _ => by simp [fillL]
  | o :: ops, s :: sp, j, a, h, hu => by
    simp only [fillL]
    rw [h j (Nat.le_refl _), hu j (Nat.le_refl _)]
    exact fill_congr ops sp (j + 1) _ (fun k hk => h k (by omega)) (fun k hk => hu k (by omega))
theorem fill_comm {l : Nat → Bool} {u : Nat → Value} {d : Tmp} {v : Value} : ∀ (ops : List Oper) (sp : List Sp) (j : Nat) (a : Act), (∀ k o, l (j + k) = true → ops[k]? = some o → o.dst ≠ some d) → fillL l ops sp u j (a.put (some d) v) = (fillL l ops sp u j a).put (some d) v
  | [], _, _, _, _ => by simp [fillL]
  | _ :: _, [], _, _, _ => by simp [fillL]
  | o :: ops, s :: sp, j, a, h => by
    simp only [fillL]
    have h' : ∀ k o', l (j + 1 + k) = true → ops[k]? = some o' → o'.dst ≠ some d := fun k o' hk ho => h (k + 1) o' (by rwa [show j + (k + 1) = j + 1 + k by omega]) (by simpa using ho)
    have ih := fill_comm (l := l) (u := u) (d := d) (v := v) ops sp (j + 1)
    split
    · rename_i hj
      rw [Act.put_comm a v _ (fun e he => by cases he; exact h 0 o hj rfl), ih _ h']
    · exact ih _ h'
theorem fill_set {e l l' : Nat → Bool} {u u' : Nat → Value} {d : Tmp} : ∀ (ops : List Oper) (sp : List Sp) (j k : Nat) (a : Act) (o : Oper), k < sp.length → ops[k]? = some o → o.dst = some d → (∀ k, l k = true → e k = true) → (∀ k' o', k' ≠ k → e (j + k') = true → ops[k']? = some o' → o'.dst ≠ some d) →
    l (j + k) = false → l' (j + k) = true → (∀ i, i ≠ j + k → l' i = l i) → (∀ i, i ≠ j + k → u' i = u i) → fillL l' ops sp u' j a = (fillL l ops sp u j a).put (some d) ((spAt sp k).val (u' (j + k)))
  | [], _, _, _, _, _, _, h, _, _, _, _, _, _, _ => by simp at h
  | _ :: _, [], _, _, _, _, h, _, _, _, _, _, _, _, _ => by simp at h
  | o1 :: ops, s :: sp, j, 0, a, o, _, ho, hd, hle, hne, h0, h1, hl, hu => by
    simp only [Nat.add_zero] at h0 h1 hl hu ⊢
    obtain rfl : o1 = o := by simpa using ho
    simp only [fillL, h0, h1, if_true, Bool.false_eq_true, if_false, hd]
    rw [fill_congr (l := l') (l' := l) (u := u') (u' := u) ops sp (j + 1) _ (fun k hk => hl k (by omega)) (fun k hk => hu k (by omega))]
    exact fill_comm ops sp (j + 1) a (fun k o' hk ho' => hne (k + 1) o' (by omega) (by rw [show j + (k + 1) = j + 1 + k by omega]; exact hle _ hk) (by simpa using ho'))
  | o1 :: ops, s :: sp, j, k + 1, a, o, hk, ho, hd, hle, hne, h0, h1, hl, hu => by
    simp only [fillL]
    rw [hl j (by omega), hu j (by omega)]
    have := fill_set (e := e) (l := l) (l' := l') (u := u) (u' := u') (d := d) ops sp (j + 1) k (if l j then a.put o1.dst (s.val (u j)) else a) o (by simpa using hk) (by simpa using ho) hd hle
      (fun k' o' hk' hlt ho' => hne (k' + 1) o' (by omega) (by rwa [show j + (k' + 1) = j + 1 + k' by omega]) (by simpa using ho')) (by rw [← h0]; congr 1; omega) (by rw [← h1]; congr 1; omega) (fun i hi => hl i (by omega)) (fun i hi => hu i (by omega))
    rw [this]
    rw [show j + 1 + k = j + (k + 1) by omega]
    rfl
theorem put_size (a : Act) (d : Option Tmp) (v : Value) : (a.put d v).tmps.size = a.tmps.size := by cases d <;> simp [Act.put]
theorem fill_size {l : Nat → Bool} {u : Nat → Value} : ∀ (ops : List Oper) (sp : List Sp) (j : Nat) (a : Act), (fillL l ops sp u j a).tmps.size = a.tmps.size
  | [], _, _, _ => by simp [fillL]
  | _ :: _, [], _, _ => by simp [fillL]
  | o :: ops, s :: sp, j, a => by
    simp only [fillL]
    rw [fill_size]
    split
    · exact put_size _ _ _
    · rfl
theorem put_get {a b : Act} {d : Option Tmp} {v : Value} {t : Tmp} (h : a.tmps[t]? = b.tmps[t]?) (hs : a.tmps.size = b.tmps.size) : (a.put d v).tmps[t]? = (b.put d v).tmps[t]? := by
  cases d with
  | none => exact h
  | some d =>
    simp only [Act.put, Array.getElem?_setIfInBounds]
    rw [h, hs]
theorem put_get_ne {b : Act} {d : Option Tmp} {v : Value} {t : Tmp} (h : d ≠ some t) : (b.put d v).tmps[t]? = b.tmps[t]? := by
  cases d with
  | none => rfl
  | some d =>
    have : d ≠ t := fun e => h (by rw [e])
    simp [Act.put, Array.getElem?_setIfInBounds_ne this]
theorem fill_get {l e : Nat → Bool} {u : Nat → Value} {t : Tmp} : ∀ (ops : List Oper) (sp : List Sp) (j : Nat) (a b : Act), a.tmps[t]? = b.tmps[t]? → a.tmps.size = b.tmps.size →
    (∀ k, l k = true → e k = true) → (∀ k o, ops[k]? = some o → e (j + k) = true → o.dst = some t → l (j + k) = true) → (fillL l ops sp u j a).tmps[t]? = (fillL e ops sp u j b).tmps[t]?
  | [], _, _, _, _, h, _, _, _ => by simpa [fillL] using h
  | _ :: _, [], _, _, _, h, _, _, _ => by simpa [fillL] using h
  | o :: ops, s :: sp, j, a, b, h, hs, he, hl => by
    simp only [fillL]
    have hl' : ∀ k o', ops[k]? = some o' → e (j + 1 + k) = true → o'.dst = some t → l (j + 1 + k) = true := fun k o' ho hk hd => by
      have := hl (k + 1) o' (by simpa using ho) (by rwa [show j + (k + 1) = j + 1 + k by omega]) hd
      rwa [show j + 1 + k = j + (k + 1) by omega]
    by_cases hj : l j = true
    · rw [if_pos hj, if_pos (he j hj)]
      exact fill_get ops sp (j + 1) _ _ (put_get h hs) (by rw [put_size, put_size]; exact hs) he hl'
    · rw [if_neg hj]
      by_cases hj2 : e j = true
      · rw [if_pos hj2]
        refine fill_get ops sp (j + 1) _ _ ?_ (by rw [put_size]; exact hs) he hl'
        rw [put_get_ne fun e' => hj (hl 0 o rfl hj2 e')]; exact h
      · rw [if_neg hj2]
        exact fill_get ops sp (j + 1) _ _ h hs he hl'
theorem owns_none {l : Nat → Bool} {u : Nat → Value} : ∀ (sp : List Sp) (j : Nat), (∀ k, l k = false) → ownsL l sp u j = []
  | [], _, _ => rfl
  | s :: sp, j, h => by simp only [ownsL, h j, Bool.false_eq_true, if_false, List.nil_append]; exact owns_none sp (j + 1) h
theorem fill_none {l : Nat → Bool} {u : Nat → Value} : ∀ (ops : List Oper) (sp : List Sp) (j : Nat) (a : Act), (∀ k, l k = false) → fillL l ops sp u j a = a
  | [], _, _, _, _ => by simp [fillL]
  | _ :: _, [], _, _, _ => by simp [fillL]
  | o :: ops, s :: sp, j, a, h => by simp only [fillL, h j, Bool.false_eq_true, if_false]; exact fill_none ops sp (j + 1) a h
theorem owns_congr {l l' : Nat → Bool} {u u' : Nat → Value} : ∀ (sp : List Sp) (j : Nat), (∀ k, j ≤ k → l k = l' k) → (∀ k, j ≤ k → u k = u' k) → ownsL l sp u j = ownsL l' sp u' j
  | [], _, _, _ => rfl
  | s :: sp, j, h, hu => by
    simp only [ownsL]
    rw [h j (Nat.le_refl _), hu j (Nat.le_refl _), owns_congr sp (j + 1) (fun k hk => h k (by omega)) (fun k hk => hu k (by omega))]
theorem owns_set {l l' : Nat → Bool} {u u' : Nat → Value} : ∀ (sp : List Sp) (j k : Nat), k < sp.length → l (j + k) = false → l' (j + k) = true → (∀ i, i ≠ j + k → l' i = l i) → (∀ i, i ≠ j + k → u' i = u i) →
    (ownsL l' sp u' j).Perm ((spAt sp k).own (u' (j + k)) ++ ownsL l sp u j)
  | [], _, _, h, _, _, _, _ => by simp at h
  | s :: sp, j, 0, _, h0, h1, hl, hu => by
    simp only [Nat.add_zero] at *
    simp only [ownsL, h0, h1, if_true, Bool.false_eq_true, if_false, List.nil_append]
    rw [owns_congr (l := l') (l' := l) (u := u') (u' := u) sp (j + 1) (fun k hk => hl k (by omega)) (fun k hk => hu k (by omega))]
    exact List.Perm.refl _
  | s :: sp, j, k + 1, hk, h0, h1, hl, hu => by
    simp only [ownsL]
    rw [hl j (by omega), hu j (by omega)]
    have ih := owns_set (l := l) (l' := l') (u := u) (u' := u') sp (j + 1) k (by simpa using hk) (by rw [← h0]; congr 1; omega) (by rw [← h1]; congr 1; omega) (fun i hi => hl i (by omega)) (fun i hi => hu i (by omega))
    rw [show j + 1 + k = j + (k + 1) by omega] at ih
    refine (List.Perm.append_left _ ih).trans ?_
    rw [← List.append_assoc, ← List.append_assoc]
    exact List.Perm.append_right _ List.perm_append_comm
theorem Tr.perm {w W : World} {ls ls'} (h : Tr w ls W) (hp : ls'.Perm ls) : Tr w ls' W :=
  ⟨h.bel, fun p hm => h.blk p (hp.mem_iff.1 hm), fun p hm => h.ge p (hp.mem_iff.1 hm), (hp.map (·.1)).nodup_iff.2 h.nd⟩
theorem Tr.many {w W W' : World} {ls bs} (h : Tr w ls W) (hb : Below W.heap.size W W') (hk : ∀ p ∈ bs, Blk W' p.1 p.2.1 p.2.2 ∧ W.heap.size ≤ p.1) (hn : (bs.map (·.1)).Nodup) : Tr w (bs ++ ls) W' := by
  have h' := h.below hb
  refine ⟨h'.bel, fun p hp => ?_, fun p hp => ?_, ?_⟩
  · rcases List.mem_append.1 hp with hp | hp
    · exact (hk p hp).1
    · exact h'.blk p hp
  · rcases List.mem_append.1 hp with hp | hp
    · have := (hk p hp).2; have := h.bel.size; omega
    · exact h.ge p hp
  · rw [List.map_append, List.nodup_append]
    refine ⟨hn, h.nd, fun x hx y hy e => ?_⟩
    obtain ⟨p, hp, e1⟩ := List.mem_map.1 hx
    obtain ⟨q, hq, e2⟩ := List.mem_map.1 hy
    have h1 := (hk p hp).2
    have h2 := (h.blk q hq).lt
    omega
theorem Tr.base {w W : World} {bs ls} (h : Tr w (bs ++ ls) W) : Tr w ls W :=
  ⟨h.bel, fun p hp => h.blk p (List.mem_append_right _ hp), fun p hp => h.ge p (List.mem_append_right _ hp), by have := h.nd; rw [List.map_append, List.nodup_append] at this; exact this.2.1⟩
def depB (o : Oper) (j : Nat) : Bool := o.after.any fun e => Region.binds .any e && e.on == j
def earlyB (es : List Nat) (j : Nat) : Bool := es.getD j 0 != 0
def freeB (es : List Nat) (j : Nat) : Bool := es.getD j 0 == 2
def early (es : List Nat) : List Nat := (List.range es.length).filter (earlyB es)
theorem mem_early {es : List Nat} {j : Nat} : j ∈ early es ↔ earlyB es j = true := by
  unfold early
  rw [List.mem_filter, List.mem_range]
  refine ⟨fun h => h.2, fun h => ⟨?_, h⟩⟩
  rcases Nat.lt_or_ge j es.length with h' | h'
  · exact h'
  · unfold earlyB at h
    rw [List.getD, List.getElem?_eq_none h'] at h
    cases h
/-- is q among what i waits for, by way of n others at most? -/
def reachB (ops : Array Oper) : Nat → Nat → Nat → Bool
  | 0, _, _ => false
  | n + 1, i, q => match ops[i]? with
    | some o' => o'.after.any fun e => Region.binds .any e && (e.on == q || reachB ops n e.on q)
    | none => false
theorem reach_listed {ops : List Oper} {listed : Array Bool} (hcl : ∀ j o, ops[j]? = some o → listed.getD j false = true → ∀ i, depB o i = true → listed.getD i false = true) (q : Nat) : ∀ n i, listed.getD i false = true → reachB ops.toArray n i q = true → listed.getD q false = true
  | 0, _, _, h => by simp [reachB] at h
  | n + 1, i, hi, h => by
    unfold reachB at h
    cases ho' : ops[i]? with
    | none => simp [ho'] at h
    | some o' =>
      have h3 : (o'.after.any fun e => Region.binds .any e && (e.on == q || reachB ops.toArray n e.on q)) = true := by simpa [ho'] using h
      obtain ⟨e, he, hb⟩ := Array.any_eq_true'.1 h3
      simp only [Bool.and_eq_true, Bool.or_eq_true, beq_iff_eq] at hb
      have hd : depB o' e.on = true := Array.any_eq_true'.2 ⟨e, he, by simp [hb.1]⟩
      have h4 := hcl i o' ho' hi e.on hd
      rcases hb.2 with h5 | h5
      · rw [← h5]; exact h4
      · exact reach_listed hcl q n e.on h4 h5
/-- what a region must fulfil: the early operations may come up in any order that their edges leave, each with a slot of its own that no early one looks at but those that wait for it; all others wait for all of them -/
def webOp (ops : Array Oper) (es : List Nat) (size i : Nat) (o : Oper) : Bool :=
  if earlyB es i then
    (o.after.all fun e => !Region.binds .any e || (decide (e.on < i) && earlyB es e.on)) &&
    (match o.dst with | some d => decide (d < size) | none => false) &&
    (early es).all (fun j => j == i || ((ops[j]?).bind (·.dst)) != o.dst) &&
    (o.looksAt ops).all (fun t => (early es).all fun j => ((ops[j]?).bind (·.dst)) != some t || depB o j) &&
    (!freeB es i || (List.range ops.size).all fun j => j == i || match ops[j]? with | some o' => depB o' i || depB o j || o.apart ops o' | none => true)
  else
    o.after.any (fun e => Region.binds .any e && !earlyB es e.on) ||
    (early es).all fun j => freeB es j || o.after.any fun e => Region.binds .any e && (e.on == j || reachB ops 12 e.on j)
def webB (ops : Array Oper) (es : List Nat) (size : Nat) : Bool :=
  Region.noSelect ops && decide (es.length ≤ ops.size) && (List.range ops.size).all fun i => match ops[i]? with
    | some o => webOp ops es size i o
    | none => true
def okAt (sp : List Sp) (j : Nat) (v : Value) (w : World) : Prop := (spAt sp j).ok v w
def ownAt (sp : List Sp) (j : Nat) (v : Value) : List (Nat × Nat × List Value) := (spAt sp j).own v
/-- what is to be shown of operation i that only reckons -/
def WebPure (P : Program) (ops : Array Oper) (w0 : World) (base : List (Nat × Nat × List Value)) (sp : List Sp) (A : (Nat → Value) → Act) (i : Nat) : Prop :=
  ∀ o, ops[i]? = some o → ∀ u w, Tr w0 base w → (∀ j, depB o j = true → okAt sp j (u j) w) → ∃ v, Yields P ops o v (A u) ∧ okAt sp i v w ∧ ownAt sp i v = []
/-- what is to be shown of operation i -/
def WebOb (P : Program) (ops : Array Oper) (w0 : World) (base : List (Nat × Nat × List Value)) (sp : List Sp) (A : (Nat → Value) → Act) (i : Nat) : Prop :=
  ∀ o, ops[i]? = some o → ∀ u w, Tr w0 base w → (∀ j, depB o j = true → okAt sp j (u j) w) → ∀ (Q : Exit → Act → World → Prop) (K : Act → World → Prop),
    Shut (∀ v w', Below w.heap.size w w' → okAt sp i v w' → (∀ p ∈ ownAt sp i v, Blk w' p.1 p.2.1 p.2.2 ∧ w.heap.size ≤ p.1) → ((ownAt sp i v).map (·.1)).Nodup → K ((A u).put o.dst v) w') →
    if Region.wanted o (yielded ops (A u).tmps) = true then o.wp P (A u) w K Q else K ((A u).put o.dst undef) w
theorem put_inj {a : Act} {d : Tmp} {v u : Value} (hd : d < a.tmps.size) (h : a.put (some d) v = a.put (some d) u) : v = u := by
  have h1 := congrArg (fun x : Act => x.tmps[d]?) h
  simpa [Act.put, hd] using h1
theorem wp_move {P : Program} {o : Oper} {a b : Act} {w : World} {F : Value → World → Prop} {K : Act → World → Prop} {Q : Exit → Act → World → Prop} {d : Tmp} (hd : o.dst = some d) (hsz : d < b.tmps.size)
    (he : execOp a.eval o = execOp b.eval o) (hK : ∀ v w', F v w' → K (a.put o.dst v) w')
    (h : o.wp P b w (fun b' w' => ∃ v, b' = b.put o.dst v ∧ F v w') (fun _ _ _ => False)) : o.wp P a w K Q := by
  have key : ∀ v w', (∃ u, b.put o.dst v = b.put o.dst u ∧ F u w') → K (a.put o.dst v) w' := by
    rintro v w' ⟨u, e, hF⟩
    rw [hd] at e
    obtain rfl := put_inj hsz e
    exact hK _ _ hF
  unfold Oper.wp at *
  rw [he]
  generalize (execOp b.eval o).run P w = r at *
  cases r with
  | ok n w' =>
    cases n <;> simp only [Oper.upon] at h ⊢
    case value v => exact key _ _ h
    case skip => exact key _ _ h
    case defer df =>
      obtain ⟨u, e, _⟩ := h
      have h1 := congrArg (fun x : Act => x.defers) e
      rw [hd] at h1
      have h2 := congrArg List.length h1
      simp [Act.put] at h2
    case enter f args =>
      refine Calls.mono h fun e w'' he => ?_
      cases e with
      | returned v => exact key _ _ he
      | panicked c => exact he.elim
      | outgrown => obtain ⟨_, _, h⟩ := he; exact h.elim
    case row row args => exact Rows.mono h fun v w'' he => key _ _ he
  | halt x w' => cases x <;> simp only [Oper.upon] at h
theorem wpAny_more {P : Program} {md : Region.Mode} {ops : Array Oper} {Q : Exit → Act → World → Prop} : ∀ (k : Nat) (listed : Array Bool) (a : Act) (w : World), wpAny P md ops Q k listed a w → wpAny P md ops Q (k + 1) listed a w
  | 0, _, _, _, h => ⟨fun _ => h.2, by rw [h.1]; simp⟩
  | k + 1, _, _, _, h => ⟨h.1, fun i hi => wpOp_mono (fun a' w' h' => wpAny_more k _ a' w' h') (h.2 i hi)⟩
theorem wpAny_le {P : Program} {md : Region.Mode} {ops : Array Oper} {Q : Exit → Act → World → Prop} {listed : Array Bool} {a : Act} {w : World} {k m : Nat} (hkm : k ≤ m) (h : wpAny P md ops Q k listed a w) : wpAny P md ops Q m listed a w := by
  induction m with
  | zero => obtain rfl : k = 0 := by omega
            exact h
  | succ m ih =>
    by_cases e : k = m + 1
    · subst e; exact h
    · exact wpAny_more _ _ _ _ (ih (by omega))
theorem web_looks {ops : Array Oper} {o : Oper} {a b : Act} (hs : ∀ cs c, o.op ≠ .select cs c) (h : ∀ t ∈ o.looksAt ops, a.tmps[t]? = b.tmps[t]?) :
    execOp a.eval o = execOp b.eval o ∧ Region.wanted o (yielded ops a.tmps) = Region.wanted o (yielded ops b.tmps) := by
  constructor
  · refine execOp_congr o hs fun x hx => ?_
    cases x with
    | tmp t =>
      have := h t (List.mem_append_left _ (List.mem_filterMap.2 ⟨.tmp t, by simpa using hx, rfl⟩))
      show a.tmps.getD t undef = b.tmps.getD t undef
      rw [Array.getD_eq_getD_getElem?, Array.getD_eq_getD_getElem?, this]
    | _ => rfl
  · unfold Region.wanted
    cases hg : o.guard with
    | none => rfl
    | some gw =>
      obtain ⟨g, want⟩ := gw
      have hy : yielded ops a.tmps g = yielded ops b.tmps g := by
        unfold yielded
        cases ht : (ops[g]?).bind (·.dst) with
        | none => rfl
        | some t =>
          have := h t (by simp [Oper.looksAt, hg, ht])
          simp [this]
      simp only [hy]
theorem least {p : Nat → Prop} : ∀ n, p n → ∃ i, i ≤ n ∧ p i ∧ ∀ j, j < i → ¬ p j := by
  intro n
  induction n using Nat.strongRecOn with
  | ind n ih =>
    intro h
    by_cases hx : ∃ j, j < n ∧ p j
    · obtain ⟨j, hj, hp⟩ := hx
      obtain ⟨i, h1, h2, h3⟩ := ih j hj hp
      exact ⟨i, by omega, h2, h3⟩
    · exact ⟨n, Nat.le_refl _, h, fun j hj hp => hx ⟨j, hj, hp⟩⟩
theorem okAll_of {e : Nat → Bool} {u : Nat → Value} {w : World} : ∀ (sp : List Sp) (j : Nat), (∀ k, k < sp.length → e (j + k) = true → okAt sp k (u (j + k)) w) → okAll e sp u j w
  | [], _, _ => trivial
  | s :: sp, j, h => ⟨fun he => h 0 (by simp) he, okAll_of sp (j + 1) fun k hk he => by
      have := h (k + 1) (by simpa using hk)
      rw [show j + 1 + k = j + (k + 1) by omega] at he ⊢
      exact this he⟩
theorem getD_tf {listed : Array Bool} {j : Nat} (h : listed.getD j true = false) : j < listed.size ∧ listed.getD j false = false := by
  rcases Nat.lt_or_ge j listed.size with h' | h'
  · refine ⟨h', ?_⟩
    rw [Array.getD_eq_getD_getElem?] at h ⊢
    rw [Array.getElem?_eq_getElem h'] at h ⊢
    exact h
  · rw [Array.getD_eq_getD_getElem?, Array.getElem?_eq_none h'] at h
    cases h
theorem getD_ft {listed : Array Bool} {j : Nat} (hj : j < listed.size) (h : listed.getD j false = false) : listed.getD j true = false := by
  rw [Array.getD_eq_getD_getElem?] at h ⊢
  rw [Array.getElem?_eq_getElem hj] at h ⊢
  exact h
theorem getD_set {listed : Array Bool} {i j : Nat} (hi : i < listed.size) : (listed.setIfInBounds i true).getD j false = if j = i then true else listed.getD j false := by
  rw [Array.getD_eq_getD_getElem?, Array.getD_eq_getD_getElem?, Array.getElem?_setIfInBounds]
  by_cases e : i = j
  · subst e; simp [hi]
  · rw [if_neg e, if_neg (fun h => e h.symm)]
theorem web_core {P : Program} {ops : List Oper} {Q : Exit → Act → World → Prop} {a0 : Act} {w0 : World} {sp : List Sp} {es : List Nat} {base : List (Nat × Nat × List Value)} {size k : Nat} {l1 : Array Bool}
    (hchk : webB ops.toArray es size = true) (hlen : es.length = sp.length) (hsz : size ≤ a0.tmps.size) (hl : ((List.range ops.length).map (earlyB es)).toArray = l1) (hmono : MonoAll sp)
    {A : (Nat → Value) → Act} (hA : ∀ u, fillL (earlyB es) ops sp u 0 a0 = A u) (hQ : ∀ c a (d : Tmp) v w, Q (.panic c) (a.put (some d) v) w → Q (.panic c) a w) (hob : ∀ i, earlyB es i = true → freeB es i = false → WebOb P ops.toArray w0 base sp A i) (hpu : ∀ i, freeB es i = true → WebPure P ops.toArray w0 base sp A i)
    (hend : ∀ u w', Tr w0 (ownsL (earlyB es) sp u 0 ++ base) w' → okAll (earlyB es) sp u 0 w' → wpAny P .any ops.toArray Q k l1 (A u) w') :
    ∀ (fuel : Nat) (listed : Array Bool) (u : Nat → Value) (w : World) (todo : List Nat), listed.size = ops.length → (∀ j, earlyB es j = false → listed.getD j false = false) →
      (∀ j o, ops[j]? = some o → listed.getD j false = true → ∀ i, depB o i = true → listed.getD i false = true) → (∀ j, earlyB es j = true → listed.getD j false = false → j ∈ todo) → todo.length + k ≤ fuel →
      Tr w0 (ownsL (fun j => listed.getD j false) sp u 0 ++ base) w → (∀ j, listed.getD j false = true → okAt sp j (u j) w) →
      wpAny P .any ops.toArray Q fuel listed (fillL (fun j => listed.getD j false) ops sp u 0 a0) w := by
  simp only [webB, Bool.and_eq_true, decide_eq_true_eq, List.all_eq_true, List.mem_range, List.size_toArray] at hchk
  obtain ⟨⟨hsel, hn1⟩, hops⟩ := hchk
  have hops' : ∀ i o, ops[i]? = some o → webOp ops.toArray es size i o = true := fun i o ho => by
    have := hops i (List.getElem?_eq_some_iff.1 ho).1
    simpa [ho] using this
  have hein : ∀ j, earlyB es j = true → j < sp.length := fun j hj => by
    have := mem_early.2 hj
    unfold early at this
    rw [List.mem_filter, List.mem_range] at this
    omega
  have hdone : ∀ (fuel : Nat) (listed : Array Bool) (u : Nat → Value) (w : World), k ≤ fuel → listed.size = ops.length → (∀ j, earlyB es j = false → listed.getD j false = false) → (∀ j, earlyB es j = true → listed.getD j false = true) →
      Tr w0 (ownsL (fun j => listed.getD j false) sp u 0 ++ base) w → (∀ j, listed.getD j false = true → okAt sp j (u j) w) →
      wpAny P .any ops.toArray Q fuel listed (fillL (fun j => listed.getD j false) ops sp u 0 a0) w := by
    intro fuel listed u w hf hls hhi hall hT hok
    have hle : ∀ j, listed.getD j false = earlyB es j := fun j => by
      cases h : earlyB es j with
      | true => exact hall j h
      | false => exact hhi j h
    have hl1 : listed = l1 := by
      rw [← hl]
      apply Array.ext
      · simp [hls]
      · intro i h1 h2
        have := hle i
        rw [Array.getD_eq_getD_getElem?, Array.getElem?_eq_getElem h1] at this
        simpa using this
    rw [fill_congr (l := fun j => listed.getD j false) (l' := earlyB es) (u := u) (u' := u) ops sp 0 a0 (fun q _ => hle q) (fun _ _ => rfl), hA]
    rw [owns_congr (l := fun j => listed.getD j false) (l' := earlyB es) (u := u) (u' := u) sp 0 (fun q _ => hle q) (fun _ _ => rfl)] at hT
    have := hend u w hT (okAll_of sp 0 fun q _ he => by rw [Nat.zero_add] at he ⊢; exact hok q (hall q he))
    rw [hl1]; exact wpAny_le hf this
  intro fuel
  induction fuel with
  | zero =>
    intro listed u w todo hls hhi hcl htodo hf hT hok
    have ht : todo = [] := List.eq_nil_of_length_eq_zero (by omega)
    refine hdone 0 listed u w (by omega) hls hhi (fun j hj => ?_) hT hok
    cases h : listed.getD j false with
    | true => rfl
    | false => have := htodo j hj h; rw [ht] at this; cases this
  | succ fuel ih =>
    intro listed u w todo hls hhi hcl htodo hf hT hok
    by_cases hall : ∀ j, earlyB es j = true → listed.getD j false = true
    · exact hdone _ listed u w (by omega) hls hhi hall hT hok
    · have hex : ∃ j, earlyB es j = true ∧ listed.getD j false = false := by
        apply Classical.byContradiction
        intro hno
        exact hall fun j hj => by
          cases h : listed.getD j false with
          | true => rfl
          | false => exact (hno ⟨j, hj, h⟩).elim
      obtain ⟨j0, hj0, hun0⟩ := hex
      have hfe : ∀ j, freeB es j = true → earlyB es j = true := fun j hj => by
        have h1 : es.getD j 0 = 2 := by simpa only [freeB, beq_iff_eq] using hj
        unfold earlyB; rw [h1]; rfl
      have hle : ∀ j, listed.getD j false = true → earlyB es j = true := fun j hj => by
        cases h : earlyB es j with
        | true => rfl
        | false => rw [hhi j h] at hj; cases hj
      have common : ∀ i, i ∈ Region.ready .any ops.toArray listed → earlyB es i = true → ∃ o d, ops[i]? = some o ∧ o.dst = some d ∧ (∀ j, depB o j = true → okAt sp j (u j) w) ∧ d < (A u).tmps.size ∧
          execOp (fillL (fun j => listed.getD j false) ops sp u 0 a0).eval o = execOp (A u).eval o ∧ Region.wanted o (yielded ops.toArray (fillL (fun j => listed.getD j false) ops sp u 0 a0).tmps) = Region.wanted o (yielded ops.toArray (A u).tmps) ∧
          (freeB es i = true → ∀ j oj, ops.toArray[j]? = some oj → j ≠ i → listed.getD j true = false → depB oj i = false → o.apart ops.toArray oj = true) ∧
          (∀ v w', (Below w.heap.size w w' ∧ okAt sp i v w' ∧ (∀ p ∈ ownAt sp i v, Blk w' p.1 p.2.1 p.2.2 ∧ w.heap.size ≤ p.1) ∧ ((ownAt sp i v).map (·.1)).Nodup) →
            wpAny P .any ops.toArray Q fuel (listed.setIfInBounds i true) ((fillL (fun j => listed.getD j false) ops sp u 0 a0).put o.dst v) w') := by
        intro i hi hi1
        obtain ⟨hun, o, ho0, hdep⟩ := mem_ready.1 hi
        have ho : ops[i]? = some o := by simpa using ho0
        obtain ⟨his, hunf⟩ := getD_tf hun
        have hw := hops' i o ho
        have hdB : ∀ q, depB o q = true → listed.getD q false = true := fun q hq => by
          obtain ⟨e, he, hb⟩ := Array.any_eq_true'.1 hq
          simp only [Bool.and_eq_true, beq_iff_eq] at hb
          rw [← hb.2]; exact hdep e he hb.1
        have hi2 := hein i hi1
        simp only [webOp, hi1, if_true, Bool.and_eq_true, Array.all_eq_true_iff_forall_mem, List.all_eq_true] at hw
        obtain ⟨⟨⟨⟨hedge, hdst⟩, hdist⟩, hlook⟩, hfr⟩ := hw
        obtain ⟨d, hd⟩ : ∃ d, o.dst = some d := by
          cases hx : o.dst with
          | none => simp [hx] at hdst
          | some d => exact ⟨d, rfl⟩
        have hdsz : d < size := by simpa [hd] using hdst
        have hLk : ∀ t ∈ o.looksAt ops.toArray, (fillL (fun j => listed.getD j false) ops sp u 0 a0).tmps[t]? = (A u).tmps[t]? := fun t ht => by
          rw [← hA]
          refine fill_get ops sp 0 a0 a0 rfl rfl hle fun q o' ho' hq hd' => ?_
          rw [Nat.zero_add] at hq ⊢
          have h1 := hlook t ht q (mem_early.2 hq)
          simp only [List.getElem?_toArray, ho', Option.bind_some, hd', Bool.or_eq_true, bne_self_eq_false, Bool.false_eq_true, false_or] at h1
          exact hdB q h1
        obtain ⟨he, hwant⟩ := web_looks (Region.noSelect_spec hsel i o · · ho0) hLk
        have hbsz : d < (A u).tmps.size := by rw [← hA, fill_size]; exact Nat.lt_of_lt_of_le hdsz hsz
        refine ⟨o, d, ho, hd, fun j hj => hok j (hdB j hj), hbsz, he, hwant, fun hf j oj hoj hne hju hnd => ?_, ?_⟩
        · rw [hf] at hfr
          simp only [Bool.not_true, Bool.false_or, List.all_eq_true, List.mem_range, List.size_toArray] at hfr
          have hj : ops[j]? = some oj := by simpa using hoj
          have h1 := hfr j (List.getElem?_eq_some_iff.1 hj).1
          have hnj : depB o j = false := by
            cases hx : depB o j with
            | false => rfl
            | true => have := hdB j hx; rw [(getD_tf hju).2] at this; cases this
          simpa [hj, hne, hnd, hnj] using h1
        · rintro v w' ⟨hb, hv, hown, hnd⟩
          obtain ⟨u', hu'⟩ : ∃ u' : Nat → Value, u' = fun j => if j = i then v else u j := ⟨_, rfl⟩
          have hui : u' i = v := by rw [hu']; simp
          have huo : ∀ q, q ≠ i → u' q = u q := fun q hq => by rw [hu']; simp [hq]
          have hfs := fill_set (e := earlyB es) (l := fun j => listed.getD j false) (l' := fun j => (listed.setIfInBounds i true).getD j false) (u := u) (u' := u') (d := d) ops sp 0 i a0 o hi2 ho hd hle (fun k' o' hne hek ho' => by
              rw [Nat.zero_add] at hek
              have h1 := hdist k' (mem_early.2 hek)
              simp only [List.getElem?_toArray, ho', Option.bind_some, Bool.or_eq_true, beq_iff_eq, hne, false_or, bne_iff_ne, hd] at h1
              exact h1) (by simpa using hunf) (by rw [Nat.zero_add, getD_set his]; simp) (fun q hq => by rw [Nat.zero_add] at hq; rw [getD_set his, if_neg hq]) (fun q hq => huo q (by simpa using hq))
          rw [Nat.zero_add, hui, Sp.val_ok hv, ← hd] at hfs
          rw [← hfs]
          have hmem : i ∈ todo := htodo i hi1 hunf
          refine ih _ u' w' (todo.erase i) (by simpa using hls) (fun j hj => ?_) (fun j o' ho' hj q hq => ?_) (fun j hj hjl => ?_) ?_ ?_ (fun j hjl => ?_)
          · rw [getD_set his, if_neg (fun e => by rw [e, hi1] at hj; cases hj)]; exact hhi j hj
          · rw [getD_set his] at hj ⊢
            by_cases e : q = i
            · rw [if_pos e]
            · rw [if_neg e]
              by_cases e2 : j = i
              · subst e2
                rw [ho] at ho'
                obtain rfl := Option.some.inj ho'
                exact hdB q hq
              · rw [if_neg e2] at hj
                exact hcl j o' ho' hj q hq
          · rw [getD_set his] at hjl
            by_cases e : j = i
            · rw [if_pos e] at hjl; cases hjl
            · rw [if_neg e] at hjl
              exact (List.mem_erase_of_ne e).2 (htodo j hj hjl)
          · rw [List.length_erase_of_mem hmem]
            have := List.length_pos_of_mem hmem
            omega
          · have hp := owns_set (l := fun j => listed.getD j false) (l' := fun j => (listed.setIfInBounds i true).getD j false) (u := u) (u' := u') sp 0 i hi2 (by simpa using hunf) (by rw [Nat.zero_add, getD_set his]; simp) (fun q hq => by rw [Nat.zero_add] at hq; rw [getD_set his, if_neg hq]) (fun q hq => huo q (by simpa using hq))
            rw [Nat.zero_add, hui] at hp
            have h1 := hT.many hb hown hnd
            rw [← List.append_assoc] at h1
            exact h1.perm (List.Perm.append_right _ hp)
          · rw [getD_set his] at hjl
            by_cases e : j = i
            · subst e; rw [hui]; exact hv
            · rw [if_neg e] at hjl
              rw [huo j e]
              exact hmono.get j _ _ _ hb (hok j hjl)
      have hleast : ∀ j0, earlyB es j0 = true → listed.getD j0 false = false → ∃ i, i ≤ j0 ∧ earlyB es i = true ∧ i ∈ Region.ready .any ops.toArray listed ∧ (∀ j, j < i → ¬ (earlyB es j = true ∧ listed.getD j false = false)) := by
        intro j0 hj0 hun0
        obtain ⟨i, hij, ⟨hi1, hi2⟩, hmin⟩ := least (p := fun j => earlyB es j = true ∧ listed.getD j false = false) j0 ⟨hj0, hun0⟩
        have hio : i < ops.length := by have := hein i hi1; omega
        have ho : ops[i]? = some ops[i] := List.getElem?_eq_getElem hio
        have hw := hops' i _ ho
        simp only [webOp, hi1, if_true, Bool.and_eq_true, Array.all_eq_true_iff_forall_mem] at hw
        exact ⟨i, hij, hi1, mem_ready.2 ⟨getD_ft (by omega) hi2, ops[i], by simp, fun e he hb => by
          have h1 := hw.1.1.1.1 e he
          rw [hb] at h1
          have h2 : e.on < i ∧ earlyB es e.on = true := by simpa using h1
          cases h : listed.getD e.on false with
          | true => rfl
          | false => exact (hmin e.on h2.1 ⟨h2.2, h⟩).elim⟩, hmin⟩
      by_cases hpr : ∃ i, i ∈ Region.ready .any ops.toArray listed ∧ freeB es i = true
      · obtain ⟨i, hi, hf⟩ := hpr
        obtain ⟨o, d, ho, hd, hdk, hbsz, he, hwant, hap, next⟩ := common i hi (hfe i hf)
        obtain ⟨v, hy, hv, hown⟩ := hpu i hf o (by simpa using ho) u w hT.base hdk
        refine wpAny_first (i := i) (oi := o) (v := v) (by simpa using ho) (Region.noSelect_spec hsel) (fun c a w h => by rw [hd] at h; exact hQ c a _ _ w h) fuel listed _ w (fun j oj hoj hne hju hno => hap hf j oj hoj hne hju ?_) hi (hy.of_same he hwant)
          (next v w ⟨Below.refl _ _, hv, by rw [hown]; exact fun p hp => (by cases hp), by rw [hown]; exact List.nodup_nil⟩)
        cases hx : depB oj i with
        | false => rfl
        | true =>
          obtain ⟨e, he', hb⟩ := Array.any_eq_true'.1 hx
          simp only [Bool.and_eq_true, beq_iff_eq] at hb
          exact (hno e he' hb.1 hb.2).elim
      · refine ⟨fun h0 => ?_, fun i hi => ?_⟩
        · obtain ⟨i, _, _, hr, _⟩ := hleast j0 hj0 hun0
          rw [h0] at hr; cases hr
        · have hi1 : earlyB es i = true := by
            cases hge : earlyB es i with
            | true => rfl
            | false =>
            obtain ⟨hun, o, ho0, hdep⟩ := mem_ready.1 hi
            have ho : ops[i]? = some o := by simpa using ho0
            have hw := hops' i o ho
            simp only [webOp, hge, Bool.false_eq_true, if_false, Bool.or_eq_true] at hw
            rcases hw with h | h
            · obtain ⟨e, he, hb⟩ := Array.any_eq_true'.1 h
              simp only [Bool.and_eq_true, Bool.not_eq_true'] at hb
              have h1 := hdep e he hb.1
              rw [hhi _ hb.2] at h1; cases h1
            · simp only [List.all_eq_true] at h
              obtain ⟨q, _, hq1, hqr, _⟩ := hleast j0 hj0 hun0
              have hqf : freeB es q = false := by
                cases hx : freeB es q with
                | false => rfl
                | true => exact (hpr ⟨q, hqr, hx⟩).elim
              have hqu := (getD_tf (mem_ready.1 hqr).1).2
              have hq := h q (mem_early.2 hq1)
              rw [hqf] at hq
              simp only [Bool.false_or] at hq
              obtain ⟨e, he, hb⟩ := Array.any_eq_true'.1 hq
              simp only [Bool.and_eq_true, Bool.or_eq_true, beq_iff_eq] at hb
              have h1 := hdep e he hb.1
              rcases hb.2 with h2 | h2
              · rw [h2, hqu] at h1; cases h1
              · have := reach_listed hcl q 12 e.on h1 h2
                rw [hqu] at this; cases this
          have hif : freeB es i = false := by
            cases hx : freeB es i with
            | false => rfl
            | true => exact (hpr ⟨i, hi, hx⟩).elim
          obtain ⟨o, d, ho, hd, hdk, hbsz, he, hwant, hap, next⟩ := common i hi hi1
          have ho0 : ops.toArray[i]? = some o := by simpa using ho
          have hO := hob i hi1 hif o ho0 u w hT.base hdk (fun _ _ _ => False)
            (fun b' w' => ∃ v, b' = (A u).put o.dst v ∧ (Below w.heap.size w w' ∧ okAt sp i v w' ∧ (∀ p ∈ ownAt sp i v, Blk w' p.1 p.2.1 p.2.2 ∧ w.heap.size ≤ p.1) ∧ ((ownAt sp i v).map (·.1)).Nodup))
            (fun v w' h1 h2 h3 h4 => ⟨v, rfl, h1, h2, h3, h4⟩)
          unfold wpOp
          simp only [ho0]
          rw [hwant]
          by_cases hw2 : Region.wanted o (yielded ops.toArray (A u).tmps) = true
          · rw [if_pos hw2] at hO ⊢
            exact .inl (wp_move hd hbsz he next hO)
          · rw [if_neg hw2] at hO ⊢
            obtain ⟨v, e, hF⟩ := hO
            rw [hd] at e
            obtain rfl := put_inj hbsz e
            exact next _ _ hF
/-- every early operation in turn -/
def ObAll (p q : Nat → Prop) : List Nat → Nat → Prop
  | [], _ => True
  | b :: es, i => (b ≠ 0 → b ≠ 2 → p i) ∧ (b = 2 → q i) ∧ ObAll p q es (i + 1)
theorem ObAll.out {p q : Nat → Prop} : ∀ {es : List Nat} {k : Nat}, ObAll p q es k → ∀ i, (earlyB es i = true → freeB es i = false → p (k + i)) ∧ (freeB es i = true → q (k + i))
  | [], _, _, i => by simp [earlyB, freeB]
  | b :: es, k, h, 0 => ⟨fun h1 h2 => h.1 (by simpa [earlyB] using h1) (by simpa [freeB] using h2), fun h2 => h.2.1 (by simpa [freeB] using h2)⟩
  | b :: es, k, h, i + 1 => by
    have := ObAll.out h.2.2 i
    rw [show k + 1 + i = k + (i + 1) by omega] at this
    exact ⟨fun h1 h2 => this.1 (by simpa [earlyB] using h1) (by simpa [freeB] using h2), fun h2 => this.2 (by simpa [freeB] using h2)⟩
theorem ob_yes {p q : Nat → Prop} {es : List Nat} {i : Nat} (h : p i) (hs : ObAll p q es (i + 1)) : ObAll p q (1 :: es) i := ⟨fun _ _ => h, fun h => (by cases h), hs⟩
theorem ob_pure {p q : Nat → Prop} {es : List Nat} {i : Nat} (h : q i) (hs : ObAll p q es (i + 1)) : ObAll p q (2 :: es) i := ⟨fun _ h2 => absurd rfl h2, fun _ => h, hs⟩
theorem ob_late {p q : Nat → Prop} {es : List Nat} {i : Nat} (hs : ObAll p q es (i + 1)) : ObAll p q (0 :: es) i := ⟨fun h _ => absurd rfl h, fun h => (by cases h), hs⟩
theorem ob_nil {p q : Nat → Prop} {i : Nat} : ObAll p q [] i := trivial
theorem web_pure {P : Program} {ops : Array Oper} {w0 : World} {base : List (Nat × Nat × List Value)} {sp : List Sp} {A : (Nat → Value) → Act} {i : Nat} {o : Oper} (ho : ops.toList[i]? = some o)
    (h : ∀ u w, Tr w0 base w → (∀ j, depB o j = true → okAt sp j (u j) w) → ∃ v, Yields P ops o v (A u) ∧ okAt sp i v w ∧ ownAt sp i v = []) : WebPure P ops w0 base sp A i := fun o' ho' => by
  obtain rfl : o = o' := by
    have : ops[i]? = some o := by simpa using ho
    rw [this] at ho'
    exact Option.some.inj ho'
  exact h
/-- **A DRAWN REGION WHOSE OPERATIONS MAKE MEMORY BUT WRITE NOTHING OLD (calls, allocs, loads), STORES LAST: each operation is shown once**, from what is said of those it waits for -/
theorem wp_region_web {P : Program} {id : Nat} {ops : List Oper} {Q : Exit → Act → World → Prop} {a0 : Act} {w0 w : World} (sp : List Sp) (es : List Nat) (base : List (Nat × Nat × List Value)) (size k : Nat) (l1 : Array Bool)
    (hm : P.follows .mixedOrders = true) (hchk : webB ops.toArray es size = true) (hlen : es.length = sp.length) (hk : (early es).length + k = ops.length) (hl : ((List.range ops.length).map (earlyB es)).toArray = l1)
    (hsz : size ≤ a0.tmps.size) (hmono : MonoAll sp) (hT : Tr w0 base w.drew) (hQ : ∀ c a (d : Tmp) v w, Q (.panic c) (a.put (some d) v) w → Q (.panic c) a w) {A : (Nat → Value) → Act} (hA : ∀ u, fillL (earlyB es) ops sp u 0 a0 = A u) (hob : ObAll (WebOb P ops.toArray w0 base sp A) (WebPure P ops.toArray w0 base sp A) es 0)
    (hend : ∀ u w', Tr w0 (ownsL (earlyB es) sp u 0 ++ base) w' → okAll (earlyB es) sp u 0 w' → wpAny P .any ops.toArray Q k l1 (A u) w') : (Code.region id ops.toArray true).wp P Q a0 w := by
  refine wp_region_any hm ?_
  have hnone : ∀ j, (Array.replicate ops.length false).getD j false = false := fun j => by
    rw [Array.getD_eq_getD_getElem?, Array.getElem?_replicate]; split <;> rfl
  have h := web_core hchk hlen hsz hl hmono hA hQ (fun i h1 h2 => by have := (hob.out i).1 h1 h2; rwa [Nat.zero_add] at this) (fun i h => by have := (hob.out i).2 h; rwa [Nat.zero_add] at this) hend ops.length (Array.replicate ops.length false) (fun _ => undef) w.drew (early es) (by simp) (fun j _ => hnone j)
    (fun j o _ hj => by rw [hnone] at hj; cases hj) (fun j hj _ => mem_early.2 hj) (by omega)
    (by rw [owns_none sp 0 hnone]; exact hT) (fun j hj => by rw [hnone] at hj; cases hj)
  rw [fill_none ops sp 0 a0 hnone] at h
  simpa using h
theorem web_op {P : Program} {ops : Array Oper} {w0 : World} {base : List (Nat × Nat × List Value)} {sp : List Sp} {A : (Nat → Value) → Act} {i : Nat} {o : Oper} (ho : ops.toList[i]? = some o)
    (h : ∀ u w, Tr w0 base w → (∀ j, depB o j = true → okAt sp j (u j) w) → ∀ (Q : Exit → Act → World → Prop) (K : Act → World → Prop),
      Shut (∀ v w', Below w.heap.size w w' → okAt sp i v w' → (∀ p ∈ ownAt sp i v, Blk w' p.1 p.2.1 p.2.2 ∧ w.heap.size ≤ p.1) → ((ownAt sp i v).map (·.1)).Nodup → K ((A u).put o.dst v) w') →
      if Region.wanted o (yielded ops (A u).tmps) = true then o.wp P (A u) w K Q else K ((A u).put o.dst undef) w) : WebOb P ops w0 base sp A i := fun o' ho' => by
  obtain rfl : o = o' := by
    have : ops[i]? = some o := by simpa using ho
    rw [this] at ho'
    exact Option.some.inj ho'
  exact h
end Go.Proofs.YtkoggfahjlnecaaGreatDoor
