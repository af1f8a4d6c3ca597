
import Derived.Test.YtkoggfahjlnecaaGreatDoorVB8
import Derived.Test.YtkoggfahjlnecaaGreatDoorVB4
import Derived.Test.YtkoggfahjlnecaaGreatDoorVA40
namespace Go.Proofs.YtkoggfahjlnecaaGreatDoor
set_option linter.unusedVariables false
open Go.RowKit
theorem run_enter {f : FuncId} {fn : Func} {c : Code} (hf : Tryz.prog.funcs[f]? = some fn) (hname : (fn.name == "runtime.NumGoroutine") = false) (hb : fn.body = some c) (args : Array Value) (w : World) :
    (callFunc f args).run Tryz.prog w = .ok (.enter f args) w := by
  have h1 : fn.name ≠ "runtime.NumGoroutine" := by simpa using hname
  simp [callFunc, hf, h1, hb]
theorem Tr.far {w W : World} {ls} (h : Tr w ls W) (j : Nat) {b t : Nat} {l : List Value} (hj : ls[j]? = some (b, t, l)) : w.heap.size ≤ b := h.ge _ (List.mem_of_getElem? hj)
theorem b2n_lt (q : Bool) : b2n q < 2 ^ 1 := by cases q <;> decide
set_option maxRecDepth 100000 in
set_option maxHeartbeats 4000000 in
theorem bin_0 {w : World} {va vb : Value} {n A B : Nat} (hA : VR w va n A) (hB : VR w vb n B) (hn : 0 < n) :
    Calls Tryz.prog 47 #[.int .i64 0, va, vb] w (RetE w n ((A + B + 0) % 2 ^ n) 0) := by
  have HA := Lib.hid hA
  have HB := Lib.hid hB
  have hni : (n : Int) ≤ 128 := by have := hA.le; omega
  have hn0 : ((n : Int) == 0) = false := by simp; omega
  obtain ⟨pa, ca, rfl, _⟩ := hA.ex
  obtain ⟨pb, cb, rfl, _⟩ := hB.ex
  have HC : Hid (∀ w', Below w.heap.size w w' → Calls Tryz.prog 82 #[.agg #[.int .i64 n, .slice pa (wcount n) ca], .agg #[.int .i64 n, .slice pb (wcount n) cb], .int .u64 0] w' (Fresh w' n ((A + B + 0) % 2 ^ n))) := Lib.hid (fun w' hb => plus_any (hA.below hb) (hB.below hb) hn 0 (by decide))
  have HN := Lib.hid hn
  clear hA hB hn
  go_enter Tryz.func47, Tryz.ntmps47
  go_wp2_with fail
  have hT := (((Tr.nil w).lay 39 [.int .i64 n, .slice pa (wcount n) ca]).lay 39 [.int .i64 n, .slice pb (wcount n) cb]).lay 39 [.int .i64 0, .slice none 0 0]
  simp only [World.size_alloc] at hT
  generalize ((w.alloc (.cells [Value.int .i64 n, .slice pa (wcount n) ca].toArray 39)).alloc (.cells [Value.int .i64 n, .slice pb (wcount n) cb].toArray 39)).alloc (.cells [Value.int .i64 0, .slice none 0 0].toArray 39) = W at *
  have HT := Lib.hid hT
  clear hT
  refine (HC.out _ HT.out.bel).mono ?_; rintro e w2 ⟨v2, b2, rfl, hv2, hge2, hb2⟩
  obtain rfl := hv2.e
  have HT2 := Lib.hid (HT.out.cons hb2 hv2.blk hge2)
  have HL := Lib.hid hv2.lt
  have r0 := (HT2.out.pr 1 rfl).1
  have r1 := (HT2.out.pr 1 rfl).2
  have f0 := (HT2.out.at 1 rfl).frz 0
  have f1 := (HT2.out.at 1 rfl).frz 1
  clear hv2 hge2 hb2
  go_wp2_with fail
  have HT3 := Lib.hid (HT2.out.two 1 (x := .int .i64 n) (y := .slice (some ⟨b2, 0, none⟩) (wcount n) (wcount n)) rfl)
  have e0 := (HT3.out.pr 1 rfl).1
  have e1 := (HT3.out.pr 1 rfl).2
  exact bodyPost_ret (v := .tuple #[vecO n b2, .int .i64 0]) (by simp [results, Tryz.results47, go_sem, e0, e1, vecO]) rfl ⟨_, rfl, (HT3.out.vo 0 rfl HL.out HA.out.le).vr (Nat.mod_lt _ (Nat.pow_pos (by decide))), HT3.out.bel, Far.vec (HT3.out.far 0 rfl)⟩
set_option maxRecDepth 100000 in
set_option maxHeartbeats 4000000 in
theorem bin_1 {w : World} {va vb : Value} {n A B : Nat} (hA : VR w va n A) (hB : VR w vb n B) (hn : 0 < n) :
    Calls Tryz.prog 47 #[.int .i64 1, va, vb] w (RetE w n ((A + notN n B + 1) % 2 ^ n) 0) := by
  have HA := Lib.hid hA
  have HB := Lib.hid hB
  have hni : (n : Int) ≤ 128 := by have := hA.le; omega
  have hn0 : ((n : Int) == 0) = false := by simp; omega
  obtain ⟨pa, ca, rfl, _⟩ := hA.ex
  obtain ⟨pb, cb, rfl, _⟩ := hB.ex
  have HNt : Hid (∀ w', Below w.heap.size w w' → Calls Tryz.prog 77 #[.agg #[.int .i64 n, .slice pb (wcount n) cb]] w' (Fresh w' n (notN n B))) := Lib.hid fun w' hb => not_any (hB.below hb) hn
  have HN := Lib.hid hn
  clear hA hB hn
  go_enter Tryz.func47, Tryz.ntmps47
  go_wp2_with fail
  have hT := (((Tr.nil w).lay 39 [.int .i64 n, .slice pa (wcount n) ca]).lay 39 [.int .i64 n, .slice pb (wcount n) cb]).lay 39 [.int .i64 0, .slice none 0 0]
  simp only [World.size_alloc] at hT
  generalize ((w.alloc (.cells [Value.int .i64 n, .slice pa (wcount n) ca].toArray 39)).alloc (.cells [Value.int .i64 n, .slice pb (wcount n) cb].toArray 39)).alloc (.cells [Value.int .i64 0, .slice none 0 0].toArray 39) = W at *
  have HT := Lib.hid hT
  clear hT
  have HT0 := Lib.hid HT.out.drew
  refine wp_region_held_drew (S := fun w' => (w'.cell? ⟨w.heap.size, 0, none⟩ = some (.int .i64 n) ∧ w'.cell? ⟨w.heap.size, 1, none⟩ = some (.slice pa (wcount n) ca)) ∧ w'.cell? ⟨w.heap.size + 1, 0, none⟩ = some (.int .i64 n) ∧ w'.cell? ⟨w.heap.size + 1, 1, none⟩ = some (.slice pb (wcount n) cb)) (by kernel_rfl) ⟨HT0.out.pr 2 rfl, HT0.out.pr 1 rfl⟩ (fun hHeld => ?_)
  generalize W.drew = D at *
  refine held_take (i := 0) (v := ?_) rfl (by kernel_rfl) (by kernel_rfl) (by kernel_rfl) (fun _ _ _ h => h) (Or.inl ⟨by rfl, ?_⟩) (by assumption) ?_
  rotate_left
  · intro w hSw; (try dsimp only at hSw); go_simp; (try with_reducible rfl)
  (try simp only [Act.put, List.setIfInBounds_toArray, List.set_cons_zero, List.set_cons_succ])
  refine held_take (i := 1) (v := ?_) rfl (by kernel_rfl) (by kernel_rfl) (by kernel_rfl) (fun _ _ _ h => h) (Or.inl ⟨by rfl, ?_⟩) (by assumption) ?_
  rotate_left
  · intro w hSw; (try dsimp only at hSw); go_simp; (try with_reducible rfl)
  (try simp only [Act.put, List.setIfInBounds_toArray, List.set_cons_zero, List.set_cons_succ])
  refine wpAnyH_ready (rs := [2]) (by kernel_rfl) (by simp) ?_
  refine held_cons rfl (fun K hK => ?_) AllReadyH.nil
  go_simp
  refine (HNt.out _ HT0.out.bel).mono ?_; rintro e wt1 ⟨v1, b1, rfl, hv1, hge1, hb1⟩
  have VN := Lib.hid (hv1.vr (notN_lt _ _))
  have HT1 := Lib.hid (HT0.out.below hb1)
  clear hv1 hge1 hb1
  (try go_simp)
  refine hK.out _ _ ?_ (fun hHeld2 => ?_)
  · exact ⟨HT1.out.pr 2 rfl, HT1.out.pr 1 rfl⟩
  clear hK K hHeld
  have hHeld := hHeld2
  clear hHeld2
  (try simp only [Act.put, List.setIfInBounds_toArray, List.set_cons_zero, List.set_cons_succ])
  refine wpAnyH_ready (rs := [3]) (by kernel_rfl) (by simp) ?_
  refine held_cons rfl (fun K hK => ?_) AllReadyH.nil
  go_simp
  refine (plus_any (HA.out.below HT1.out.bel) VN.out HN.out 1 (Nat.le_refl _)).mono ?_; rintro e wt2 ⟨v2, b2, rfl, hv2, hge2, hb2⟩
  obtain rfl := hv2.e
  have HT2 := Lib.hid (HT1.out.cons hb2 hv2.blk hge2)
  have HL := Lib.hid hv2.lt
  clear hv2 hge2 hb2
  (try go_simp)
  refine hK.out _ _ ?_ (fun hHeld2 => ?_)
  · exact ⟨HT2.out.pr 3 rfl, HT2.out.pr 2 rfl⟩
  clear hK K hHeld
  have hHeld := hHeld2
  clear hHeld2
  (try simp only [Act.put, List.setIfInBounds_toArray, List.set_cons_zero, List.set_cons_succ])
  refine wpAnyH_ready (rs := [4]) (by kernel_rfl) (by simp) ?_
  refine held_cons rfl (fun K hK => ?_) AllReadyH.nil
  have r0 := (HT2.out.pr 1 rfl).1
  have r1 := (HT2.out.pr 1 rfl).2
  have f0 := (HT2.out.at 1 rfl).frz 0
  have f1 := (HT2.out.at 1 rfl).frz 1
  go_simp
  refine hK.out _ _ ?_ (fun hHeld2 => ?_)
  · exact ⟨(HT2.out.two 1 (x := .int .i64 n) (y := .slice (some ⟨b2, 0, none⟩) (wcount n) (wcount n)) rfl).pr 3 rfl, (HT2.out.two 1 (x := .int .i64 n) (y := .slice (some ⟨b2, 0, none⟩) (wcount n) (wcount n)) rfl).pr 2 rfl⟩
  clear hK K hHeld
  have hHeld := hHeld2
  clear hHeld2
  (try simp only [Act.put, List.setIfInBounds_toArray, List.set_cons_zero, List.set_cons_succ])
  have HT3 := Lib.hid (HT2.out.two 1 (x := .int .i64 n) (y := .slice (some ⟨b2, 0, none⟩) (wcount n) (wcount n)) rfl)
  clear r0 r1 f0 f1
  generalize (wt2.setCell ⟨w.heap.size + 1 + 1, 0, none⟩ (.int .i64 n)).setCell ⟨w.heap.size + 1 + 1, 1, none⟩ (.slice (some ⟨b2, 0, none⟩) (wcount n) (wcount n)) = wt3 at *
  refine held_take (i := 5) (v := ?_) rfl (by kernel_rfl) (by kernel_rfl) (by kernel_rfl) (fun _ _ _ h => h) (Or.inl ⟨by rfl, ?_⟩) (by assumption) ?_
  rotate_left
  · intro w hSw; (try dsimp only at hSw); go_simp; (try with_reducible rfl)
  (try simp only [Act.put, List.setIfInBounds_toArray, List.set_cons_zero, List.set_cons_succ])
  refine wpAnyH_done (by kernel_rfl) ?_ _
  go_wp2_with fail
  have e0 := (HT3.out.pr 1 rfl).1
  have e1 := (HT3.out.pr 1 rfl).2
  exact bodyPost_ret (v := .tuple #[vecO n b2, .int .i64 0]) (by simp [results, Tryz.results47, go_sem, e0, e1, vecO]) rfl ⟨_, rfl, (HT3.out.vo 0 rfl HL.out HA.out.le).vr (Nat.mod_lt _ (Nat.pow_pos (by decide))), HT3.out.bel, Far.vec (HT3.out.far 0 rfl)⟩
set_option maxRecDepth 100000 in
set_option maxHeartbeats 4000000 in
theorem bin_13 {w : World} {va vb : Value} {n A B : Nat} (hA : VR w va n A) (hB : VR w vb n B) (hn : 0 < n) :
    Calls Tryz.prog 47 #[.int .i64 13, va, vb] w (RetE w 1 (b2n (cmpB 13 n A B)) 0) := by
  have HA := Lib.hid hA
  have hni : (n : Int) ≤ 128 := by have := hA.le; omega
  have hn0 : ((n : Int) == 0) = false := by simp; omega
  obtain ⟨pa, ca, rfl, _⟩ := hA.ex
  obtain ⟨pb, cb, rfl, _⟩ := hB.ex
  have HC : Hid (∀ w', Below w.heap.size w w' → Calls Tryz.prog 90 #[.int .i64 13, .agg #[.int .i64 n, .slice pa (wcount n) ca], .agg #[.int .i64 n, .slice pb (wcount n) cb]] w' fun e w'' => e = .returned (.bool (cmpB 13 n A B)) ∧ Below w'.heap.size w' w'') := Lib.hid fun w' hb => compare_any (hA.below hb) (hB.below hb) 13 (by decide) (by decide)
  have HTr := Lib.hid (fun w q => truth_any (w := w) q)
  clear hA hB hn
  go_enter Tryz.func47, Tryz.ntmps47
  go_wp2_with fail
  have hT := (((Tr.nil w).lay 39 [.int .i64 n, .slice pa (wcount n) ca]).lay 39 [.int .i64 n, .slice pb (wcount n) cb]).lay 39 [.int .i64 0, .slice none 0 0]
  simp only [World.size_alloc] at hT
  generalize ((w.alloc (.cells [Value.int .i64 n, .slice pa (wcount n) ca].toArray 39)).alloc (.cells [Value.int .i64 n, .slice pb (wcount n) cb].toArray 39)).alloc (.cells [Value.int .i64 0, .slice none 0 0].toArray 39) = W at *
  have HT := Lib.hid hT
  clear hT
  refine (HC.out _ HT.out.bel).mono ?_; rintro e w1 ⟨rfl, hb1⟩
  have HT1 := Lib.hid (HT.out.below hb1)
  clear hb1
  go_wp2_with fail
  refine (HTr.out _ _).mono ?_; rintro e w2 ⟨v2, b2, rfl, hv2, hge2, hb2⟩
  obtain rfl := hv2.e
  have HT2 := Lib.hid (HT1.out.cons hb2 hv2.blk hge2)
  have HL := Lib.hid hv2.lt
  have r0 := (HT2.out.pr 1 rfl).1
  have r1 := (HT2.out.pr 1 rfl).2
  have f0 := (HT2.out.at 1 rfl).frz 0
  have f1 := (HT2.out.at 1 rfl).frz 1
  clear hv2 hge2 hb2
  go_wp2_with fail
  have HT3 := Lib.hid (HT2.out.two 1 (x := .int .i64 1) (y := .slice (some ⟨b2, 0, none⟩) (wcount 1) (wcount 1)) rfl)
  have e0 := (HT3.out.pr 1 rfl).1
  have e1 := (HT3.out.pr 1 rfl).2
  exact bodyPost_ret (v := .tuple #[vecO 1 b2, .int .i64 0]) (by simp [results, Tryz.results47, go_sem, e0, e1, vecO]) rfl ⟨_, rfl, (HT3.out.vo 0 rfl HL.out (by decide)).vr (b2n_lt _), HT3.out.bel, Far.vec (HT3.out.far 0 rfl)⟩
end Go.Proofs.YtkoggfahjlnecaaGreatDoor
namespace Go.Proofs.YtkoggfahjlnecaaGreatDoor
set_option linter.unusedVariables false
open Go.RowKit
set_option maxRecDepth 100000 in
set_option maxHeartbeats 4000000 in
theorem bin_2 {w : World} {va vb : Value} {n A B : Nat} (hA : VR w va n A) (hB : VR w vb n B) (hn : 0 < n) :
    Calls Tryz.prog 47 #[.int .i64 2, va, vb] w (RetE w n (A * B % 2 ^ n) 0) := by
  have HA := Lib.hid hA
  have HB := Lib.hid hB
  have hni : (n : Int) ≤ 128 := by have := hA.le; omega
  have hn0 : ((n : Int) == 0) = false := by simp; omega
  obtain ⟨pa, ca, rfl, _⟩ := hA.ex
  obtain ⟨pb, cb, rfl, _⟩ := hB.ex
  have HC : Hid (∀ w', Below w.heap.size w w' → Calls Tryz.prog 83 #[.agg #[.int .i64 n, .slice pa (wcount n) ca], .agg #[.int .i64 n, .slice pb (wcount n) cb]] w' (Fresh w' n (A * B % 2 ^ n))) := Lib.hid (fun w' hb => times_any (hA.below hb) (hB.below hb) hn)
  have HN := Lib.hid hn
  clear hA hB hn
  go_enter Tryz.func47, Tryz.ntmps47
  go_wp2_with fail
  have hT := (((Tr.nil w).lay 39 [.int .i64 n, .slice pa (wcount n) ca]).lay 39 [.int .i64 n, .slice pb (wcount n) cb]).lay 39 [.int .i64 0, .slice none 0 0]
  simp only [World.size_alloc] at hT
  generalize ((w.alloc (.cells [Value.int .i64 n, .slice pa (wcount n) ca].toArray 39)).alloc (.cells [Value.int .i64 n, .slice pb (wcount n) cb].toArray 39)).alloc (.cells [Value.int .i64 0, .slice none 0 0].toArray 39) = W at *
  have HT := Lib.hid hT
  clear hT
  refine (HC.out _ HT.out.bel).mono ?_; rintro e w2 ⟨v2, b2, rfl, hv2, hge2, hb2⟩
  obtain rfl := hv2.e
  have HT2 := Lib.hid (HT.out.cons hb2 hv2.blk hge2)
  have HL := Lib.hid hv2.lt
  have r0 := (HT2.out.pr 1 rfl).1
  have r1 := (HT2.out.pr 1 rfl).2
  have f0 := (HT2.out.at 1 rfl).frz 0
  have f1 := (HT2.out.at 1 rfl).frz 1
  clear hv2 hge2 hb2
  go_wp2_with fail
  have HT3 := Lib.hid (HT2.out.two 1 (x := .int .i64 n) (y := .slice (some ⟨b2, 0, none⟩) (wcount n) (wcount n)) rfl)
  have e0 := (HT3.out.pr 1 rfl).1
  have e1 := (HT3.out.pr 1 rfl).2
  exact bodyPost_ret (v := .tuple #[vecO n b2, .int .i64 0]) (by simp [results, Tryz.results47, go_sem, e0, e1, vecO]) rfl ⟨_, rfl, (HT3.out.vo 0 rfl HL.out HA.out.le).vr (Nat.mod_lt _ (Nat.pow_pos (by decide))), HT3.out.bel, Far.vec (HT3.out.far 0 rfl)⟩
set_option maxRecDepth 100000 in
set_option maxHeartbeats 4000000 in
theorem bin_10 {w : World} {va vb : Value} {n A B : Nat} (hA : VR w va n A) (hB : VR w vb n B) (hn : 0 < n) :
    Calls Tryz.prog 47 #[.int .i64 10, va, vb] w (RetE w n (shiftN 10 n A B) 0) := by
  have HA := Lib.hid hA
  have HB := Lib.hid hB
  have hni : (n : Int) ≤ 128 := by have := hA.le; omega
  have hn0 : ((n : Int) == 0) = false := by simp; omega
  obtain ⟨pa, ca, rfl, _⟩ := hA.ex
  obtain ⟨pb, cb, rfl, _⟩ := hB.ex
  have HC : Hid (∀ w', Below w.heap.size w w' → Calls Tryz.prog 89 #[.int .i64 10, .agg #[.int .i64 n, .slice pa (wcount n) ca], .agg #[.int .i64 n, .slice pb (wcount n) cb]] w' (Fresh w' n (shiftN 10 n A B))) := Lib.hid (fun w' hb => shift_any (hA.below hb) (hB.below hb) 10 (by decide))
  have HN := Lib.hid hn
  clear hA hB hn
  go_enter Tryz.func47, Tryz.ntmps47
  go_wp2_with fail
  have hT := (((Tr.nil w).lay 39 [.int .i64 n, .slice pa (wcount n) ca]).lay 39 [.int .i64 n, .slice pb (wcount n) cb]).lay 39 [.int .i64 0, .slice none 0 0]
  simp only [World.size_alloc] at hT
  generalize ((w.alloc (.cells [Value.int .i64 n, .slice pa (wcount n) ca].toArray 39)).alloc (.cells [Value.int .i64 n, .slice pb (wcount n) cb].toArray 39)).alloc (.cells [Value.int .i64 0, .slice none 0 0].toArray 39) = W at *
  have HT := Lib.hid hT
  clear hT
  refine (HC.out _ HT.out.bel).mono ?_; rintro e w2 ⟨v2, b2, rfl, hv2, hge2, hb2⟩
  obtain rfl := hv2.e
  have HT2 := Lib.hid (HT.out.cons hb2 hv2.blk hge2)
  have HL := Lib.hid hv2.lt
  have r0 := (HT2.out.pr 1 rfl).1
  have r1 := (HT2.out.pr 1 rfl).2
  have f0 := (HT2.out.at 1 rfl).frz 0
  have f1 := (HT2.out.at 1 rfl).frz 1
  clear hv2 hge2 hb2
  go_wp2_with fail
  have HT3 := Lib.hid (HT2.out.two 1 (x := .int .i64 n) (y := .slice (some ⟨b2, 0, none⟩) (wcount n) (wcount n)) rfl)
  have e0 := (HT3.out.pr 1 rfl).1
  have e1 := (HT3.out.pr 1 rfl).2
  exact bodyPost_ret (v := .tuple #[vecO n b2, .int .i64 0]) (by simp [results, Tryz.results47, go_sem, e0, e1, vecO]) rfl ⟨_, rfl, (HT3.out.vo 0 rfl HL.out HA.out.le).vr (shiftN_lt _ _ _ _), HT3.out.bel, Far.vec (HT3.out.far 0 rfl)⟩
set_option maxRecDepth 100000 in
set_option maxHeartbeats 4000000 in
theorem bin_11 {w : World} {va vb : Value} {n A B : Nat} (hA : VR w va n A) (hB : VR w vb n B) (hn : 0 < n) :
    Calls Tryz.prog 47 #[.int .i64 11, va, vb] w (RetE w n (shiftN 11 n A B) 0) := by
  have HA := Lib.hid hA
  have HB := Lib.hid hB
  have hni : (n : Int) ≤ 128 := by have := hA.le; omega
  have hn0 : ((n : Int) == 0) = false := by simp; omega
  obtain ⟨pa, ca, rfl, _⟩ := hA.ex
  obtain ⟨pb, cb, rfl, _⟩ := hB.ex
  have HC : Hid (∀ w', Below w.heap.size w w' → Calls Tryz.prog 89 #[.int .i64 11, .agg #[.int .i64 n, .slice pa (wcount n) ca], .agg #[.int .i64 n, .slice pb (wcount n) cb]] w' (Fresh w' n (shiftN 11 n A B))) := Lib.hid (fun w' hb => shift_any (hA.below hb) (hB.below hb) 11 (by decide))
  have HN := Lib.hid hn
  clear hA hB hn
  go_enter Tryz.func47, Tryz.ntmps47
  go_wp2_with fail
  have hT := (((Tr.nil w).lay 39 [.int .i64 n, .slice pa (wcount n) ca]).lay 39 [.int .i64 n, .slice pb (wcount n) cb]).lay 39 [.int .i64 0, .slice none 0 0]
  simp only [World.size_alloc] at hT
  generalize ((w.alloc (.cells [Value.int .i64 n, .slice pa (wcount n) ca].toArray 39)).alloc (.cells [Value.int .i64 n, .slice pb (wcount n) cb].toArray 39)).alloc (.cells [Value.int .i64 0, .slice none 0 0].toArray 39) = W at *
  have HT := Lib.hid hT
  clear hT
  refine (HC.out _ HT.out.bel).mono ?_; rintro e w2 ⟨v2, b2, rfl, hv2, hge2, hb2⟩
  obtain rfl := hv2.e
  have HT2 := Lib.hid (HT.out.cons hb2 hv2.blk hge2)
  have HL := Lib.hid hv2.lt
  have r0 := (HT2.out.pr 1 rfl).1
  have r1 := (HT2.out.pr 1 rfl).2
  have f0 := (HT2.out.at 1 rfl).frz 0
  have f1 := (HT2.out.at 1 rfl).frz 1
  clear hv2 hge2 hb2
  go_wp2_with fail
  have HT3 := Lib.hid (HT2.out.two 1 (x := .int .i64 n) (y := .slice (some ⟨b2, 0, none⟩) (wcount n) (wcount n)) rfl)
  have e0 := (HT3.out.pr 1 rfl).1
  have e1 := (HT3.out.pr 1 rfl).2
  exact bodyPost_ret (v := .tuple #[vecO n b2, .int .i64 0]) (by simp [results, Tryz.results47, go_sem, e0, e1, vecO]) rfl ⟨_, rfl, (HT3.out.vo 0 rfl HL.out HA.out.le).vr (shiftN_lt _ _ _ _), HT3.out.bel, Far.vec (HT3.out.far 0 rfl)⟩
set_option maxRecDepth 100000 in
set_option maxHeartbeats 4000000 in
theorem bin_12 {w : World} {va vb : Value} {n A B : Nat} (hA : VR w va n A) (hB : VR w vb n B) (hn : 0 < n) :
    Calls Tryz.prog 47 #[.int .i64 12, va, vb] w (RetE w n (shiftN 12 n A B) 0) := by
  have HA := Lib.hid hA
  have HB := Lib.hid hB
  have hni : (n : Int) ≤ 128 := by have := hA.le; omega
  have hn0 : ((n : Int) == 0) = false := by simp; omega
  obtain ⟨pa, ca, rfl, _⟩ := hA.ex
  obtain ⟨pb, cb, rfl, _⟩ := hB.ex
  have HC : Hid (∀ w', Below w.heap.size w w' → Calls Tryz.prog 89 #[.int .i64 12, .agg #[.int .i64 n, .slice pa (wcount n) ca], .agg #[.int .i64 n, .slice pb (wcount n) cb]] w' (Fresh w' n (shiftN 12 n A B))) := Lib.hid (fun w' hb => shift_any (hA.below hb) (hB.below hb) 12 (by decide))
  have HN := Lib.hid hn
  clear hA hB hn
  go_enter Tryz.func47, Tryz.ntmps47
  go_wp2_with fail
  have hT := (((Tr.nil w).lay 39 [.int .i64 n, .slice pa (wcount n) ca]).lay 39 [.int .i64 n, .slice pb (wcount n) cb]).lay 39 [.int .i64 0, .slice none 0 0]
  simp only [World.size_alloc] at hT
  generalize ((w.alloc (.cells [Value.int .i64 n, .slice pa (wcount n) ca].toArray 39)).alloc (.cells [Value.int .i64 n, .slice pb (wcount n) cb].toArray 39)).alloc (.cells [Value.int .i64 0, .slice none 0 0].toArray 39) = W at *
  have HT := Lib.hid hT
  clear hT
  refine (HC.out _ HT.out.bel).mono ?_; rintro e w2 ⟨v2, b2, rfl, hv2, hge2, hb2⟩
  obtain rfl := hv2.e
  have HT2 := Lib.hid (HT.out.cons hb2 hv2.blk hge2)
  have HL := Lib.hid hv2.lt
  have r0 := (HT2.out.pr 1 rfl).1
  have r1 := (HT2.out.pr 1 rfl).2
  have f0 := (HT2.out.at 1 rfl).frz 0
  have f1 := (HT2.out.at 1 rfl).frz 1
  clear hv2 hge2 hb2
  go_wp2_with fail
  have HT3 := Lib.hid (HT2.out.two 1 (x := .int .i64 n) (y := .slice (some ⟨b2, 0, none⟩) (wcount n) (wcount n)) rfl)
  have e0 := (HT3.out.pr 1 rfl).1
  have e1 := (HT3.out.pr 1 rfl).2
  exact bodyPost_ret (v := .tuple #[vecO n b2, .int .i64 0]) (by simp [results, Tryz.results47, go_sem, e0, e1, vecO]) rfl ⟨_, rfl, (HT3.out.vo 0 rfl HL.out HA.out.le).vr (shiftN_lt _ _ _ _), HT3.out.bel, Far.vec (HT3.out.far 0 rfl)⟩
end Go.Proofs.YtkoggfahjlnecaaGreatDoor
