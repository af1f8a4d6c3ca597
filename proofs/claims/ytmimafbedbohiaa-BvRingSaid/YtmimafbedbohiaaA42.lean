import Derived.Test.YtmimafbedbohiaaA41
namespace Go.Proofs.Ytmimafbedbohiaa
set_option linter.unusedVariables false
open Go.RowKit

/-- two vectors are returned -/
def RetP (w : World) (n q r : Nat) (e : Ending) (w' : World) : Prop := ∃ v u, e = .returned (.tuple #[v, u]) ∧ VR w' v n q ∧ VR w' u n r ∧ Below w.heap.size w w'

theorem Tr.pr {w W : World} {ls} (h : Tr w ls W) (j : Nat) {b t : Nat} {u v : Value} (hj : ls[j]? = some (b, t, [u, v])) : W.cell? ⟨b, 0, none⟩ = some u ∧ W.cell? ⟨b, 1, none⟩ = some v := ⟨(h.at j hj).cell (i := 0) rfl, (h.at j hj).cell (i := 1) rfl⟩
theorem Tr.cons {w W W' : World} {ls} (h : Tr w ls W) {b t : Nat} {l : List Value} (hb : Below W.heap.size W W') (hk : Blk W' b t l) (hge : W.heap.size ≤ b) : Tr w ((b, t, l) :: ls) W' := by
  have h' := h.below hb
  refine ⟨h'.bel, fun p hp => ?_, fun p hp => ?_, ?_⟩
  · rcases List.mem_cons.1 hp with rfl | hp
    · exact hk
    · exact h'.blk p hp
  · rcases List.mem_cons.1 hp with rfl | hp
    · have := h.bel.size; show w.heap.size ≤ b; omega
    · exact h.ge p hp
  · rw [List.map_cons, List.nodup_cons]
    refine ⟨fun hm => ?_, h.nd⟩
    obtain ⟨p, hp, e⟩ := List.mem_map.1 hm
    have := (h.blk p hp).lt
    dsimp only at e; omega

set_option maxRecDepth 100000 in
set_option maxHeartbeats 4000000 in
theorem split_zero {w : World} {va vb : Value} {n A B : Nat} (hA : VR w va n A) (hB : VR w vb n B) (hn : 0 < n) (h0 : B = 0) :
    Calls Try.prog 83 #[va, vb] w (RetP w n (notN n 0) A) := by
  have HA := Lib.hid hA
  have hn128 := hA.le
  have hni : (n : Int) ≤ 128 := by omega
  obtain ⟨pa, ca, rfl, ra⟩ := hA.ex
  have HAny : Hid (∀ w', Below w.heap.size w w' → Calls Try.prog 74 #[vb] w' fun e w'' => e = .returned (.bool false) ∧ Below w'.heap.size w' w'') := Lib.hid fun w' hb => by
    have := any_any (hB.below hb); rwa [h0, show nz 0 = false from rfl] at this
  obtain ⟨pb, cb, rfl, rb⟩ := hB.ex
  have HBl := Lib.hid (fun w => blank_any (w := w) n hn128)
  have HNt := Lib.hid (fun w va (h : VR w va n 0) => not_any (w := w) (va := va) (n := n) (A := 0) h hn)
  clear hA hB ra rb hn128 hn h0
  go_enter Try.func83, Try.ntmps83
  go_wp2_with fail
  have hT := ((((Tr.nil w).lay 26 [.int .i64 n, .slice pa (wcount n) ca]).lay 26 [.int .i64 n, .slice pb (wcount n) cb]).lay 26 [.int .i64 0, .slice none 0 0]).lay 26 [.int .i64 0, .slice none 0 0]
  simp only [World.size_alloc] at hT
  generalize (((w.alloc (.cells [Value.int .i64 n, .slice pa (wcount n) ca].toArray 26)).alloc (.cells [Value.int .i64 n, .slice pb (wcount n) cb].toArray 26)).alloc (.cells [Value.int .i64 0, .slice none 0 0].toArray 26)).alloc (.cells [Value.int .i64 0, .slice none 0 0].toArray 26) = W at *
  have HT := Lib.hid hT
  clear hT
  refine (HAny.out _ HT.out.bel).mono ?_; rintro e w1 ⟨rfl, hb1⟩
  have HT1 := Lib.hid (HT.out.below hb1)
  clear hb1
  go_wp2_with fail
  have s1 := HT1.out.drew.pr 3 rfl
  refine wp_region_held_drew (S := (fun w' => w'.cell? ⟨w.heap.size, 0, none⟩ = some (.int .i64 n) ∧ w'.cell? ⟨w.heap.size, 1, none⟩ = some (.slice pa (wcount n) ca))) (by kernel_rfl) ?_ (fun hHeld => ?_)
  · (try dsimp only)
    first | assumption | exact s1 | exact s4 | exact s5
  refine held_take (i := 0) (v := ?_) rfl (by kernel_rfl) (by kernel_rfl) (by kernel_rfl) (fun _ _ _ h => h) (Or.inl ⟨by rfl, ?_⟩) (by assumption) ?_
  rotate_left
  · intro w hSw; (try dsimp only at hSw); go_simp; (try with_reducible rfl)
  (try simp only [Act.put, List.setIfInBounds_toArray, List.set_cons_zero, List.set_cons_succ])
  refine held_take (i := 1) (v := ?_) rfl (by kernel_rfl) (by kernel_rfl) (by kernel_rfl) (fun _ _ _ h => h) (Or.inl ⟨by rfl, ?_⟩) (by assumption) ?_
  rotate_left
  · intro w hSw; (try dsimp only at hSw); go_simp; (try with_reducible rfl)
  (try simp only [Act.put, List.setIfInBounds_toArray, List.set_cons_zero, List.set_cons_succ])
  refine held_take (i := 4) (v := ?_) rfl (by kernel_rfl) (by kernel_rfl) (by kernel_rfl) (fun _ _ _ h => h) (Or.inl ⟨by rfl, ?_⟩) (by assumption) ?_
  rotate_left
  · intro w hSw; (try dsimp only at hSw); go_simp; (try with_reducible rfl)
  (try simp only [Act.put, List.setIfInBounds_toArray, List.set_cons_zero, List.set_cons_succ])
  refine wpAnyH_ready (rs := [2]) (by kernel_rfl) (by simp) ?_
  refine held_cons rfl (fun K hK => ?_) AllReadyH.nil
  go_simp
  refine (HBl.out _).mono ?_; rintro e w2 ⟨v2, b2, rfl, hv2, hge2, hb2⟩; have HT2 := Lib.hid (HT1.out.drew.below hb2); have V2 := Lib.hid (hv2.vr (Nat.pow_pos (by decide))); have s2 := HT2.out.pr 3 rfl; clear hv2 hge2 hb2
  (try go_simp)
  refine hK.out _ _ ?_ (fun hHeld2 => ?_)
  · (try dsimp only)
    first | assumption | exact s1 | exact s4 | exact s5
  clear hK K hHeld
  have hHeld := hHeld2
  clear hHeld2
  (try simp only [Act.put, List.setIfInBounds_toArray, List.set_cons_zero, List.set_cons_succ])
  refine wpAnyH_ready (rs := [3]) (by kernel_rfl) (by simp) ?_
  refine held_cons rfl (fun K hK => ?_) AllReadyH.nil
  go_simp
  refine (HNt.out _ _ V2.out).mono ?_; rintro e w3 ⟨v3, b3, rfl, hv3, hge3, hb3⟩; obtain rfl := hv3.e; have HT3 := Lib.hid (HT2.out.cons hb3 hv3.blk hge3); have V3 := Lib.hid hv3.lt; have s3 := HT3.out.pr 4 rfl; have r0 := (HT3.out.pr 1 rfl).1; have r1 := (HT3.out.pr 1 rfl).2; have r2 := (HT3.out.pr 2 rfl).1; have r3 := (HT3.out.pr 2 rfl).2; have f0 := (HT3.out.at 1 rfl).frz 0; have f1 := (HT3.out.at 1 rfl).frz 1; have f2 := (HT3.out.at 2 rfl).frz 0; have f3 := (HT3.out.at 2 rfl).frz 1; have HT4 := Lib.hid (HT3.out.two 2 (x := .int .i64 n) (y := .slice (some ⟨b3, 0, none⟩) (wcount n) (wcount n)) rfl); have s4 := HT4.out.pr 4 rfl; have HT5 := Lib.hid (HT4.out.two 1 (x := .int .i64 n) (y := .slice pa (wcount n) ca) rfl); have s5 := HT5.out.pr 4 rfl; clear hv3 hge3 hb3
  (try go_simp)
  refine hK.out _ _ ?_ (fun hHeld2 => ?_)
  · (try dsimp only)
    first | assumption | exact s1 | exact s4 | exact s5
  clear hK K hHeld
  have hHeld := hHeld2
  clear hHeld2
  (try simp only [Act.put, List.setIfInBounds_toArray, List.set_cons_zero, List.set_cons_succ])
  refine wpAnyH_ready (rs := [5]) (by kernel_rfl) (by simp) ?_
  refine held_cons rfl (fun K hK => ?_) AllReadyH.nil
  go_simp
  refine hK.out _ _ ?_ (fun hHeld2 => ?_)
  · (try dsimp only)
    first | assumption | exact s1 | exact s4 | exact s5
  clear hK K hHeld
  have hHeld := hHeld2
  clear hHeld2
  (try simp only [Act.put, List.setIfInBounds_toArray, List.set_cons_zero, List.set_cons_succ])
  refine wpAnyH_ready (rs := [6]) (by kernel_rfl) (by simp) ?_
  refine held_cons rfl (fun K hK => ?_) AllReadyH.nil
  go_simp
  refine hK.out _ _ ?_ (fun hHeld2 => ?_)
  · (try dsimp only)
    first | assumption | exact s1 | exact s4 | exact s5
  clear hK K hHeld
  have hHeld := hHeld2
  clear hHeld2
  (try simp only [Act.put, List.setIfInBounds_toArray, List.set_cons_zero, List.set_cons_succ])
  refine wpAnyH_done (by kernel_rfl) ?_ _
  go_wp2_with fail
  have e0 := (HT5.out.pr 2 rfl).1
  have e1 := (HT5.out.pr 2 rfl).2
  have e2 := (HT5.out.pr 1 rfl).1
  have e3 := (HT5.out.pr 1 rfl).2
  exact bodyPost_ret (v := .tuple #[vecO n b3, .agg #[.int .i64 n, .slice pa (wcount n) ca]]) (by simp [results, Try.results83, go_sem, e0, e1, e2, e3, vecO]) rfl ⟨_, _, rfl, (HT5.out.vo 0 rfl V3.out HA.out.le).vr (notN_lt _ _), HA.out.below HT5.out.bel, HT5.out.bel⟩
end Go.Proofs.Ytmimafbedbohiaa
