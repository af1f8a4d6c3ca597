
import Derived.Test.YtkoggfahjlnecaaGreatDoorVB9
namespace Go.Proofs.YtkoggfahjlnecaaGreatDoor
set_option linter.unusedVariables false
open Go.RowKit
set_option maxRecDepth 100000 in
set_option maxHeartbeats 4000000 in
theorem bin_7 {w : World} {va vb : Value} {n A B : Nat} (hA : VR w va n A) (hB : VR w vb n B) (hn : 0 < n) :
    Calls Tryz.prog 47 #[.int .i64 7, va, vb] w (RetE w n (A &&& B) 0) := by
  have HA := Lib.hid hA
  have HB := Lib.hid hB
  have hni : (n : Int) ≤ 128 := by have := hA.le; omega
  have hn0 : ((n : Int) == 0) = false := by simp; omega
  obtain ⟨pa, ca, rfl, _⟩ := hA.ex
  obtain ⟨pb, cb, rfl, _⟩ := hB.ex
  have HC : Hid (∀ w', Below w.heap.size w w' → Calls Tryz.prog 85 #[.agg #[.int .i64 n, .slice pa (wcount n) ca], .agg #[.int .i64 n, .slice pb (wcount n) cb], .func (Fn.func 86) #[] #[]] w' (Fresh w' n (A &&& B))) := Lib.hid (fun w' hb => bitwise_any (hA.below hb) (hB.below hb) 86 (fun x y => x &&& y) and_fn (fun args w => run_enter (Tryz.func86) (by kernel_rfl) rfl args w) (fun i => word_and A B i) (Nat.lt_of_le_of_lt Nat.and_le_left hA.lt))
  have HN := Lib.hid hn
  clear hA hB hn
  go_enter Tryz.func47, Tryz.ntmps47
  go_wp2_with fail
  have hT := (((Tr.nil w).lay 39 [.int .i64 n, .slice pa (wcount n) ca]).lay 39 [.int .i64 n, .slice pb (wcount n) cb]).lay 39 [.int .i64 0, .slice none 0 0]
  simp only [World.size_alloc] at hT
  generalize ((w.alloc (.cells [Value.int .i64 n, .slice pa (wcount n) ca].toArray 39)).alloc (.cells [Value.int .i64 n, .slice pb (wcount n) cb].toArray 39)).alloc (.cells [Value.int .i64 0, .slice none 0 0].toArray 39) = W at *
  have HT := Lib.hid hT
  clear hT
  refine (HC.out _ HT.out.bel).mono ?_; rintro e w2 ⟨v2, b2, rfl, hv2, hge2, hb2⟩
  obtain rfl := hv2.e
  have HT2 := Lib.hid (HT.out.cons hb2 hv2.blk hge2)
  have HL := Lib.hid hv2.lt
  have r0 := (HT2.out.pr 1 rfl).1
  have r1 := (HT2.out.pr 1 rfl).2
  have f0 := (HT2.out.at 1 rfl).frz 0
  have f1 := (HT2.out.at 1 rfl).frz 1
  clear hv2 hge2 hb2
  go_wp2_with fail
  have HT3 := Lib.hid (HT2.out.two 1 (x := .int .i64 n) (y := .slice (some ⟨b2, 0, none⟩) (wcount n) (wcount n)) rfl)
  have e0 := (HT3.out.pr 1 rfl).1
  have e1 := (HT3.out.pr 1 rfl).2
  exact bodyPost_ret (v := .tuple #[vecO n b2, .int .i64 0]) (by simp [results, Tryz.results47, go_sem, e0, e1, vecO]) rfl ⟨_, rfl, (HT3.out.vo 0 rfl HL.out HA.out.le).vr (Nat.lt_of_le_of_lt Nat.and_le_left HA.out.lt), HT3.out.bel, Far.vec (HT3.out.far 0 rfl)⟩
set_option maxRecDepth 100000 in
set_option maxHeartbeats 4000000 in
theorem bin_8 {w : World} {va vb : Value} {n A B : Nat} (hA : VR w va n A) (hB : VR w vb n B) (hn : 0 < n) :
    Calls Tryz.prog 47 #[.int .i64 8, va, vb] w (RetE w n (A ||| B) 0) := by
  have HA := Lib.hid hA
  have HB := Lib.hid hB
  have hni : (n : Int) ≤ 128 := by have := hA.le; omega
  have hn0 : ((n : Int) == 0) = false := by simp; omega
  obtain ⟨pa, ca, rfl, _⟩ := hA.ex
  obtain ⟨pb, cb, rfl, _⟩ := hB.ex
  have HC : Hid (∀ w', Below w.heap.size w w' → Calls Tryz.prog 85 #[.agg #[.int .i64 n, .slice pa (wcount n) ca], .agg #[.int .i64 n, .slice pb (wcount n) cb], .func (Fn.func 87) #[] #[]] w' (Fresh w' n (A ||| B))) := Lib.hid (fun w' hb => bitwise_any (hA.below hb) (hB.below hb) 87 (fun x y => x ||| y) or_fn (fun args w => run_enter (Tryz.func87) (by kernel_rfl) rfl args w) (fun i => word_or A B i) (Nat.or_lt_two_pow hA.lt hB.lt))
  have HN := Lib.hid hn
  clear hA hB hn
  go_enter Tryz.func47, Tryz.ntmps47
  go_wp2_with fail
  have hT := (((Tr.nil w).lay 39 [.int .i64 n, .slice pa (wcount n) ca]).lay 39 [.int .i64 n, .slice pb (wcount n) cb]).lay 39 [.int .i64 0, .slice none 0 0]
  simp only [World.size_alloc] at hT
  generalize ((w.alloc (.cells [Value.int .i64 n, .slice pa (wcount n) ca].toArray 39)).alloc (.cells [Value.int .i64 n, .slice pb (wcount n) cb].toArray 39)).alloc (.cells [Value.int .i64 0, .slice none 0 0].toArray 39) = W at *
  have HT := Lib.hid hT
  clear hT
  refine (HC.out _ HT.out.bel).mono ?_; rintro e w2 ⟨v2, b2, rfl, hv2, hge2, hb2⟩
  obtain rfl := hv2.e
  have HT2 := Lib.hid (HT.out.cons hb2 hv2.blk hge2)
  have HL := Lib.hid hv2.lt
  have r0 := (HT2.out.pr 1 rfl).1
  have r1 := (HT2.out.pr 1 rfl).2
  have f0 := (HT2.out.at 1 rfl).frz 0
  have f1 := (HT2.out.at 1 rfl).frz 1
  clear hv2 hge2 hb2
  go_wp2_with fail
  have HT3 := Lib.hid (HT2.out.two 1 (x := .int .i64 n) (y := .slice (some ⟨b2, 0, none⟩) (wcount n) (wcount n)) rfl)
  have e0 := (HT3.out.pr 1 rfl).1
  have e1 := (HT3.out.pr 1 rfl).2
  exact bodyPost_ret (v := .tuple #[vecO n b2, .int .i64 0]) (by simp [results, Tryz.results47, go_sem, e0, e1, vecO]) rfl ⟨_, rfl, (HT3.out.vo 0 rfl HL.out HA.out.le).vr (Nat.or_lt_two_pow HA.out.lt HB.out.lt), HT3.out.bel, Far.vec (HT3.out.far 0 rfl)⟩
set_option maxRecDepth 100000 in
set_option maxHeartbeats 4000000 in
theorem bin_9 {w : World} {va vb : Value} {n A B : Nat} (hA : VR w va n A) (hB : VR w vb n B) (hn : 0 < n) :
    Calls Tryz.prog 47 #[.int .i64 9, va, vb] w (RetE w n (A ^^^ B) 0) := by
  have HA := Lib.hid hA
  have HB := Lib.hid hB
  have hni : (n : Int) ≤ 128 := by have := hA.le; omega
  have hn0 : ((n : Int) == 0) = false := by simp; omega
  obtain ⟨pa, ca, rfl, _⟩ := hA.ex
  obtain ⟨pb, cb, rfl, _⟩ := hB.ex
  have HC : Hid (∀ w', Below w.heap.size w w' → Calls Tryz.prog 85 #[.agg #[.int .i64 n, .slice pa (wcount n) ca], .agg #[.int .i64 n, .slice pb (wcount n) cb], .func (Fn.func 88) #[] #[]] w' (Fresh w' n (A ^^^ B))) := Lib.hid (fun w' hb => bitwise_any (hA.below hb) (hB.below hb) 88 (fun x y => x ^^^ y) xor_fn (fun args w => run_enter (Tryz.func88) (by kernel_rfl) rfl args w) (fun i => word_xor A B i) (Nat.xor_lt_two_pow hA.lt hB.lt))
  have HN := Lib.hid hn
  clear hA hB hn
  go_enter Tryz.func47, Tryz.ntmps47
  go_wp2_with fail
  have hT := (((Tr.nil w).lay 39 [.int .i64 n, .slice pa (wcount n) ca]).lay 39 [.int .i64 n, .slice pb (wcount n) cb]).lay 39 [.int .i64 0, .slice none 0 0]
  simp only [World.size_alloc] at hT
  generalize ((w.alloc (.cells [Value.int .i64 n, .slice pa (wcount n) ca].toArray 39)).alloc (.cells [Value.int .i64 n, .slice pb (wcount n) cb].toArray 39)).alloc (.cells [Value.int .i64 0, .slice none 0 0].toArray 39) = W at *
  have HT := Lib.hid hT
  clear hT
  refine (HC.out _ HT.out.bel).mono ?_; rintro e w2 ⟨v2, b2, rfl, hv2, hge2, hb2⟩
  obtain rfl := hv2.e
  have HT2 := Lib.hid (HT.out.cons hb2 hv2.blk hge2)
  have HL := Lib.hid hv2.lt
  have r0 := (HT2.out.pr 1 rfl).1
  have r1 := (HT2.out.pr 1 rfl).2
  have f0 := (HT2.out.at 1 rfl).frz 0
  have f1 := (HT2.out.at 1 rfl).frz 1
  clear hv2 hge2 hb2
  go_wp2_with fail
  have HT3 := Lib.hid (HT2.out.two 1 (x := .int .i64 n) (y := .slice (some ⟨b2, 0, none⟩) (wcount n) (wcount n)) rfl)
  have e0 := (HT3.out.pr 1 rfl).1
  have e1 := (HT3.out.pr 1 rfl).2
  exact bodyPost_ret (v := .tuple #[vecO n b2, .int .i64 0]) (by simp [results, Tryz.results47, go_sem, e0, e1, vecO]) rfl ⟨_, rfl, (HT3.out.vo 0 rfl HL.out HA.out.le).vr (Nat.xor_lt_two_pow HA.out.lt HB.out.lt), HT3.out.bel, Far.vec (HT3.out.far 0 rfl)⟩
end Go.Proofs.YtkoggfahjlnecaaGreatDoor
