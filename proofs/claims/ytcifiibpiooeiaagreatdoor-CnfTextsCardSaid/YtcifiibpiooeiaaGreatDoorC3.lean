import Derived.Test.YtcifiibpiooeiaaGreatDoorC2
namespace Go.Proofs.YtcifiibpiooeiaaGreatDoor
set_option linter.unusedVariables false
open Go.RowKit Go.Sort

theorem add_w1 : addC 2 [] [2, -1, 2] = ([[-1, 2]], 0) := by decide +kernel
theorem add_w2 : addC 2 [[-1, 2]] [1, -1] = ([[-1, 2]], 0) := by decide +kernel
theorem text_w : textC 2 [[-1, 2]] = [112, 32, 99, 110, 102, 32, 50, 32, 49, 10, 45, 49, 32, 50, 32, 48, 10] := by decide +kernel

set_option maxRecDepth 100000 in
set_option maxHeartbeats 8000000 in
theorem awake_any {w : World} (htab : Lib.TabIs Tryz.prog w "internal/strconv.uint64pow10" .u64 Lib.pow10Tab) :
    Calls Tryz.prog 5 #[] w fun e w' => e = .returned (.bool true) ∧ Below w.heap.size w w' := by
  have HTab := Lib.hid htab
  clear htab
  have HNew := Lib.hid (new_any 2 w)
  have HHas := Lib.hid (new_has (fun _ => False) 2 w)
  have HbN := Lib.hid (Below.new w (.cells #[.int .i64 2, .slice none 0 0] 61))
  go_enter Tryz.func5, Tryz.ntmps5
  go_wp2_with fail
  refine HNew.out.mono ?_
  rintro e w1 ⟨rfl, hw1⟩
  have h1 : HasC (fun _ => False) w1 w.heap.size (foot w.heap.size (.slice none 0 0)) 2 [] := by rw [hw1]; exact HHas.out
  have b1 : Below w.heap.size w w1 := by rw [hw1]; exact HbN.out
  have H1 := Lib.hid (And.intro h1 b1)
  clear h1 b1 hw1 HNew HHas HbN
  go_wp2_with fail
  have hbn := Below.new w1 (.cells #[.int .i64 2, .int .i64 (-1), .int .i64 2] 3)
  have hro : RO (w1.alloc (.cells #[.int .i64 2, .int .i64 (-1), .int .i64 2] 3)) (.slice (some ⟨w1.heap.size, 0, none⟩) 3 3) 1 [(2 : Int), -1, 2].length (ints [2, -1, 2]) := RO.ofCells (Blk.new 3 [.int .i64 2, .int .i64 (-1), .int .i64 2]) rfl
  have had := add_any (l := [2, -1, 2]) (fun k hk => hk.elim) (H1.out.1.below hbn) ⟨by omega, by simp, fun i hi => absurd hi (by simp)⟩ hro (by simp)
  refine had.mono ?_
  clear had
  rintro e w2 ⟨rfl, F2, hc2, hu2⟩
  rw [add_w1] at hc2 ⊢
  have hb1 := H1.out.2.trans (hbn.mono H1.out.2.size)
  have hge : ∀ k, foot w.heap.size (.slice none 0 0) k → w.heap.size ≤ k := fun k hk => by rcases hk with hk | hk <;> first | omega | cases hk
  have hb2 := hb1.trans (hu2.toBelow hge hb1.size)
  have hge2 : ∀ k, F2 k → w.heap.size ≤ k := fun k hk => by
    rcases hu2.sub k hk with h | h
    · exact hge k h
    · have := hb1.size; omega
  have H2 := Lib.hid (And.intro hc2 (And.intro hb2 hge2))
  clear hbn hro hc2 hu2 hb1 hge hb2 hge2
  go_wp2_with fail
  have hbn := Below.new w2 (.cells #[.int .i64 1, .int .i64 (-1)] 3)
  have hro : RO (w2.alloc (.cells #[.int .i64 1, .int .i64 (-1)] 3)) (.slice (some ⟨w2.heap.size, 0, none⟩) 2 2) 1 [(1 : Int), -1].length (ints [1, -1]) := RO.ofCells (Blk.new 3 [.int .i64 1, .int .i64 (-1)]) rfl
  have hwf : WFC 2 [[-1, 2]] := by have := addC_wf (v := 2) (cls := []) ⟨by omega, by simp, fun i hi => absurd hi (by simp)⟩ [2, -1, 2]; rwa [add_w1] at this
  have had := add_any (l := [1, -1]) (fun k hk => hk.elim) (H2.out.1.below hbn) hwf hro (by simp)
  refine had.mono ?_
  clear had
  rintro e w3 ⟨rfl, F3, hc3, hu3⟩
  rw [add_w2] at hc3 ⊢
  have hb1 := H2.out.2.1.trans (hbn.mono H2.out.2.1.size)
  have hb3 := hb1.trans (hu3.toBelow H2.out.2.2 hb1.size)
  have HLn := Lib.hid (len_any hc3)
  have HTx := text_any hc3 hwf (tab_below HTab.out hb3)
  rw [text_w] at HTx
  have HTx := Lib.hid HTx
  have H3 := Lib.hid hb3
  clear hbn hro hwf hc3 hu3 hb1 hb3
  go_wp2_with fail
  refine HLn.out.mono ?_
  rintro e w4 ⟨rfl, rfl⟩
  go_wp2_with fail
  refine HTx.out.mono ?_
  rintro e w5 ⟨rfl, hb5⟩
  have HB5 := Lib.hid (H3.out.trans (hb5.mono H3.out.size))
  clear hb5
  go_wp2_with fail
  go_ret
  exact ⟨rfl, HB5.out⟩
end Go.Proofs.YtcifiibpiooeiaaGreatDoor
