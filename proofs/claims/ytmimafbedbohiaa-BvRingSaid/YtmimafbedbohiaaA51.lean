import Derived.Test.YtmimafbedbohiaaA44
namespace Go.Proofs.Ytmimafbedbohiaa
set_option linter.unusedVariables false
open Go.RowKit

set_option maxRecDepth 100000 in
set_option maxHeartbeats 4000000 in
theorem un_0 {w : World} {va : Value} {n A : Nat} (hA : VR w va n A) (hn : 0 < n) :
    Calls Try.prog 33 #[.int .i64 0, va] w (RetE w n (notN n A) 0) := by
  have HA := Lib.hid hA
  have hni : (n : Int) ≤ 128 := by have := hA.le; omega
  have hn0 : ((n : Int) == 0) = false := by simp; omega
  obtain ⟨pa, ca, rfl, _⟩ := hA.ex
  have HC : Hid (∀ w', Below w.heap.size w w' → Calls Try.prog 48 #[.agg #[.int .i64 n, .slice pa (wcount n) ca]] w' (Fresh w' n (notN n A))) := Lib.hid (fun w' hb => not_any (hA.below hb) hn)
  clear hA hn
  go_enter Try.func33, Try.ntmps33
  go_wp2_with fail
  have hT := ((Tr.nil w).lay 26 [.int .i64 n, .slice pa (wcount n) ca]).lay 26 [.int .i64 0, .slice none 0 0]
  simp only [World.size_alloc] at hT
  generalize (w.alloc (.cells [Value.int .i64 n, .slice pa (wcount n) ca].toArray 26)).alloc (.cells [Value.int .i64 0, .slice none 0 0].toArray 26) = W at *
  have HT := Lib.hid hT
  clear hT
  refine (HC.out _ HT.out.bel).mono ?_; rintro e w2 ⟨v2, b2, rfl, hv2, hge2, hb2⟩
  obtain rfl := hv2.e
  have HT2 := Lib.hid (HT.out.cons hb2 hv2.blk hge2)
  have HL := Lib.hid hv2.lt
  have r0 := (HT2.out.pr 1 rfl).1
  have r1 := (HT2.out.pr 1 rfl).2
  have f0 := (HT2.out.at 1 rfl).frz 0
  have f1 := (HT2.out.at 1 rfl).frz 1
  clear hv2 hge2 hb2
  go_wp2_with fail
  have HT3 := Lib.hid (HT2.out.two 1 (x := .int .i64 n) (y := .slice (some ⟨b2, 0, none⟩) (wcount n) (wcount n)) rfl)
  have e0 := (HT3.out.pr 1 rfl).1
  have e1 := (HT3.out.pr 1 rfl).2
  exact bodyPost_ret (v := .tuple #[vecO n b2, .int .i64 0]) (by simp [results, Try.results33, go_sem, e0, e1, vecO]) rfl ⟨_, rfl, (HT3.out.vo 0 rfl HL.out HA.out.le).vr (notN_lt _ _), HT3.out.bel, Far.vec (HT3.out.far 0 rfl)⟩

set_option maxRecDepth 100000 in
set_option maxHeartbeats 4000000 in
theorem un_1 {w : World} {va : Value} {n A : Nat} (hA : VR w va n A) (hn : 0 < n) :
    Calls Try.prog 33 #[.int .i64 1, va] w (RetE w n (negN n A) 0) := by
  have HA := Lib.hid hA
  have hni : (n : Int) ≤ 128 := by have := hA.le; omega
  have hn0 : ((n : Int) == 0) = false := by simp; omega
  obtain ⟨pa, ca, rfl, _⟩ := hA.ex
  have HC : Hid (∀ w', Below w.heap.size w w' → Calls Try.prog 73 #[.agg #[.int .i64 n, .slice pa (wcount n) ca]] w' (Fresh w' n (negN n A))) := Lib.hid (fun w' hb => neg_any (hA.below hb) hn)
  clear hA hn
  go_enter Try.func33, Try.ntmps33
  go_wp2_with fail
  have hT := ((Tr.nil w).lay 26 [.int .i64 n, .slice pa (wcount n) ca]).lay 26 [.int .i64 0, .slice none 0 0]
  simp only [World.size_alloc] at hT
  generalize (w.alloc (.cells [Value.int .i64 n, .slice pa (wcount n) ca].toArray 26)).alloc (.cells [Value.int .i64 0, .slice none 0 0].toArray 26) = W at *
  have HT := Lib.hid hT
  clear hT
  refine (HC.out _ HT.out.bel).mono ?_; rintro e w2 ⟨v2, b2, rfl, hv2, hge2, hb2⟩
  obtain rfl := hv2.e
  have HT2 := Lib.hid (HT.out.cons hb2 hv2.blk hge2)
  have HL := Lib.hid hv2.lt
  have r0 := (HT2.out.pr 1 rfl).1
  have r1 := (HT2.out.pr 1 rfl).2
  have f0 := (HT2.out.at 1 rfl).frz 0
  have f1 := (HT2.out.at 1 rfl).frz 1
  clear hv2 hge2 hb2
  go_wp2_with fail
  have HT3 := Lib.hid (HT2.out.two 1 (x := .int .i64 n) (y := .slice (some ⟨b2, 0, none⟩) (wcount n) (wcount n)) rfl)
  have e0 := (HT3.out.pr 1 rfl).1
  have e1 := (HT3.out.pr 1 rfl).2
  exact bodyPost_ret (v := .tuple #[vecO n b2, .int .i64 0]) (by simp [results, Try.results33, go_sem, e0, e1, vecO]) rfl ⟨_, rfl, (HT3.out.vo 0 rfl HL.out HA.out.le).vr (negN_lt _ _), HT3.out.bel, Far.vec (HT3.out.far 0 rfl)⟩
end Go.Proofs.Ytmimafbedbohiaa
