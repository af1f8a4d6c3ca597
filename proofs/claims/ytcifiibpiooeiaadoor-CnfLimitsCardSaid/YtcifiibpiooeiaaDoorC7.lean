import Derived.Test.YtcifiibpiooeiaaDoorC6
namespace Go.Proofs.YtcifiibpiooeiaaDoor
set_option linter.unusedVariables false
open Go.RowKit Go.Sort Go.Deep Go.ChangeShapes

theorem infoInt : (Tryd.prog.info? 3).map (fun i => (i.zero, i.size, i.bytes)) = some (some (.int .i64 0), 1, 8) := by kernel_rfl
set_option maxRecDepth 100000 in
theorem mk_ints (n : Nat) (hn : n ≤ 1000000) (w : World) : (Instr.makeSlice 22 (.int .i64 n) (.int .i64 n)).run Tryd.prog w = .ok (.slice (some ⟨w.heap.size, 0, none⟩) n n) (w.alloc (.cells (List.replicate n (Value.int .i64 0)).toArray 3)) := by
  obtain ⟨i0, hi, hz0, hz1, hz2⟩ := info_parts infoInt
  have h := run_make (P := Tryd.prog) w 22 3 i0 _ Tryd.underlying22 hi hz0 .i64 .i64 n n (by omega) (by omega) (by rw [hz2]; omega) (by omega)
  rw [h, hz1]
  simp only [Int.toNat_natCast, Nat.mul_one, Value.cells]
  congr 3
  apply Array.ext'
  rw [toList_madeCells_one]
/-- ones as far as i, then zeros -/
def onesV (i : Nat) : List Value := List.replicate i (.int .i64 1) ++ List.replicate (1001 - i) (.int .i64 0)
theorem onesV_len (i : Nat) (h : i ≤ 1001) : (onesV i).length = 1001 := by simp [onesV]; omega
theorem onesV_at (i : Nat) (h : i < 1001) : ∃ u, (onesV i)[i]? = some u := ⟨_, List.getElem?_eq_getElem (by rw [onesV_len i (by omega)]; exact h)⟩
theorem onesV_set (i : Nat) (h : i < 1001) : (onesV i).set i (.int .i64 1) = onesV (i + 1) := by
  unfold onesV
  rw [show 1001 - i = (1001 - (i + 1)) + 1 by omega, List.replicate_succ, List.set_append_right _ _ (by simp)]
  simp [List.replicate_succ', List.append_assoc]
theorem onesV_all : onesV 1001 = ints (List.replicate 1001 1) := by unfold onesV ints; rw [List.map_replicate, Nat.sub_self, List.replicate_zero, List.append_nil]
theorem ones_drop : (ints (List.replicate 1001 1)).drop 1 = ints (List.replicate 1000 1) := by rw [ints_drop, List.drop_replicate]

set_option maxRecDepth 100000 in
set_option maxHeartbeats 16000000 in
theorem limits_law {w : World} (lv : Value) (n : Int) (htab : Lib.TabIs Tryd.prog w "internal/strconv.uint64pow10" .u64 Lib.pow10Tab) :
    Calls Tryd.prog 4 #[lv, .int .i64 n] w fun e w' => e = .returned (.bool true) ∧ Below w.heap.size w w' := by
  obtain ⟨V, hV⟩ : ∃ V, newV n = V := ⟨_, rfl⟩
  have hVi : max 0 (min n 60000) = (V : Int) := by rw [← hV, newV_int]
  have hV6 : V ≤ 60000 := by omega
  have hn1 := new_any n
  rw [hV] at hn1
  have HNew := Lib.hid hn1
  have HAw := Lib.hid (awake_any htab)
  have HV := Lib.hid (And.intro hVi hV6)
  clear hn1 hV hV6 htab hVi
  go_enter Tryd.func4, Tryd.ntmps4
  go_wp2_with fail
  refine HAw.out.mono ?_
  rintro e w1 ⟨rfl, hb1⟩
  have HB1 := Lib.hid hb1
  clear hb1 HAw
  go_wp2_with fail
  refine (HNew.out w1).mono ?_
  rintro e w2 ⟨rfl, rfl⟩
  have hc2 := Blk.new (w := w1) 49 [.int .i64 V, .slice none 0 0]
  have hb2 := HB1.out.trans ((Below.new w1 (.cells #[.int .i64 V, .slice none 0 0] 49)).mono HB1.out.size)
  have HVa := Lib.hid (vars_any (has_nil (fun _ => False) hc2))
  have H2 := Lib.hid (And.intro hc2 (And.intro hb2 HB1.out.size))
  clear hc2 hb2 HNew
  go_wp2_with fail
  refine HVa.out.mono ?_
  rintro e w3 ⟨rfl, rfl⟩
  clear HVa
  have hVi := HV.out.1
  go_upto_region 6 with fail
  obtain ⟨W, hW⟩ : ∃ W, w1.alloc (.cells #[.int .i64 V, .slice none 0 0] 49) = W := ⟨_, rfl⟩
  obtain ⟨g, hg⟩ : ∃ g, w1.heap.size = g := ⟨_, rfl⟩
  rw [hW, hg] at H2 ⊢
  clear hW hg
  have hmk : (Instr.makeSlice 22 (.int .i64 1001) (.int .i64 1001)).run Tryd.prog W = .ok (.slice (some ⟨W.heap.size, 0, none⟩) 1001 1001) (W.alloc (.cells (onesV 0).toArray 3)) := mk_ints 1001 (by omega) W
  have hbl := Blk.new (w := W) 3 (onesV 0)
  have hbn := Below.new W (.cells (onesV 0).toArray 3)
  have H3 := Lib.hid (And.intro hbl hbn)
  clear hbl hbn hVi
  go_wp2_with fail
  clear hmk
  go_loopw [24] (fun iv wr => ∃ i : Nat, i ≤ 1001 ∧ iv = .int .i64 i ∧ Blk wr W.heap.size 3 (onesV i) ∧ Below W.heap.size W wr) (fun iv _ => 1001 - (intOf iv).toNat)
  case atStart => exact ⟨0, Nat.zero_le _, rfl, H3.out.1, H3.out.2⟩
  case round =>
    obtain ⟨i, hi, rfl, hB, hbr⟩ := hrel
    have HB := Lib.hid (And.intro hB hbr)
    by_cases hlt : i < 1001
    · obtain ⟨u, hu⟩ := onesV_at i hlt
      have c0 := hB.cell hu
      have f0 := hB.frz i
      have hii : (i : Int) < 1001 := by omega
      have hiw : IntKind.i64.wrap ((i : Int) + 1) = (i : Int) + 1 := i64_of (by omega)
      have hB2 := hB.set i (.int .i64 1)
      rw [onesV_set i hlt] at hB2
      have hb2 := hbr.trans ((upd_set (w := wr) (i := i) (F := fun k => k = W.heap.size) (.int .i64 1) rfl).toBelow (fun j e => by omega) hbr.size)
      have HZ := Lib.hid (And.intro hB2 (And.intro hb2 hlt))
      clear hB hbr hi hlt hu hB2 hb2
      go_wp2_with fail
      go_roundw
      case rel => exact ⟨i + 1, HZ.out.2.2, by go_num, HZ.out.1, HZ.out.2.1⟩
      case measure => have := HZ.out.2.2; simp [intOf]; omega
    · obtain rfl : i = 1001 := by omega
      clear hlt hi hB hbr
      go_wp2_with fail
      refine (new_any 1 wr).mono ?_
      rintro e w2 ⟨rfl, hw2⟩
      have hB := HB.out.1
      rw [onesV_all] at hB
      have hbn := Below.new wr (.cells #[.int .i64 (newV 1), .slice none 0 0] 49)
      have hdd := Blk.new (w := wr) 49 [.int .i64 (newV 1), .slice none 0 0]
      have hl2 := hB.next hbn
      have hc2 := (H2.out.1.next HB.out.2).next hbn
      have hbw := (H2.out.2.1.trans (HB.out.2.mono H2.out.2.1.size)).trans (hbn.mono (H2.out.2.1.trans (HB.out.2.mono H2.out.2.1.size)).size)
      have hne : wr.heap.size ≠ W.heap.size ∧ wr.heap.size ≠ g := ⟨by have := hB.lt; omega, by have := (H2.out.1.next HB.out.2).lt; omega⟩
      rw [← show w2 = _ from hw2] at hdd hl2 hc2 hbw
      have hgg : w.heap.size ≤ wr.heap.size := by have h1 := H2.out.2.1.size; have h2 := HB.out.2.size; omega
      obtain ⟨h, hh⟩ : ∃ h, wr.heap.size = h := ⟨_, rfl⟩
      rw [hh] at hdd hne hgg ⊢
      have H4 := Lib.hid (And.intro hdd (And.intro hl2 (And.intro hc2 (And.intro hbw (And.intro hne hgg)))))
      clear hB hbn hdd hl2 hc2 hbw hne hw2 hh hgg HB
      obtain ⟨gl, hgl⟩ : ∃ gl, W.heap.size = gl := ⟨_, rfl⟩
      rw [hgl] at H4 ⊢
      clear hgl H3
      have hro : RO w2 (.slice (some ⟨gl, 0, none⟩) 1001 1001) 1 1001 (ints (List.replicate 1001 1)) := RO.ofCells H4.out.2.1 (by rw [ints_len, List.length_replicate])
      have hro1 : RO w2 (.slice (some ⟨gl, 0, none⟩) 1001 1001) 1 (List.replicate 1001 (1 : Int)).length (ints (List.replicate 1001 1)) := by rw [List.length_replicate]; exact hro
      have hwf : WFC (newV 1) [] := ⟨by decide, by simp, fun i hi => absurd hi (by simp)⟩
      have had := add_any (A := fun _ => False) (fun k hk => hk.elim) (has_nil _ H4.out.1) hwf hro1 (by rw [List.length_replicate]; omega)
      rw [show newV 1 = 1 from by decide] at had
      unfold AddR at had
      rw [addC_long 1001 (by omega)] at had
      have HA := Lib.hid had
      clear hro hro1 hwf had
      go_wp2_with fail
      refine HA.out.mono ?_
      rintro e w3 ⟨rfl, F3, hc3, hu3⟩
      have hF3 : ∀ k, F3 k → k ≠ g ∧ k ≠ gl ∧ w.heap.size ≤ k := fun k hk => by
        have h1 := H4.out.2.2.1.lt
        have h2 := H4.out.2.1.lt
        have h3 := H4.out.2.2.2.2
        have h4 := H4.out.2.2.2.1.size
        rcases hu3.sub k hk with (hh | hh) | hh
        · omega
        · cases hh
        · omega
      have hn0 : ∀ k, foot h (.slice none 0 0) k → k ≠ g ∧ k ≠ gl ∧ w.heap.size ≤ k := fun k hk => by
        have h3 := H4.out.2.2.2.2
        rcases hk with hh | hh
        · omega
        · cases hh
      have hl3 := hu3.blk H4.out.2.1 (fun hk => (hn0 _ hk).2.1 rfl)
      have hc3c := hu3.blk H4.out.2.2.1 (fun hk => (hn0 _ hk).1 rfl)
      have hb3 := H4.out.2.2.2.1.trans (hu3.toBelow (fun k hk => (hn0 k hk).2.2) H4.out.2.2.2.1.size)
      have hro : RO w3 (.slice (some ⟨gl, 0, none⟩) 1001 1001) 1 1001 (ints (List.replicate 1001 1)) := RO.ofCells hl3 (by rw [ints_len, List.length_replicate])
      have hro1 := hro.dropS (k := 1) (c' := 1000) (q := some ⟨gl, 1, none⟩) (by omega) (fun _ => rfl)
      rw [ones_drop] at hro1
      have hro2 : RO w3 (.slice (some ⟨gl, 1, none⟩) 1000 1000) 1 (List.replicate 1000 (1 : Int)).length (ints (List.replicate 1000 1)) := by rw [List.length_replicate]; exact hro1
      have hwf : WFC 1 [] := ⟨by decide, by simp, fun i hi => absurd hi (by simp)⟩
      have had := add_any (A := fun _ => False) (fun k hk => hk.elim) hc3 hwf hro2 (by rw [List.length_replicate]; omega)
      unfold AddR at had
      rw [addC_many 1000 (by omega) (by omega)] at had
      have HA3 := Lib.hid had
      have H5 := Lib.hid (And.intro hF3 (And.intro hc3c hb3))
      clear hc3 hu3 hF3 hn0 hl3 hc3c hb3 hro hro1 hro2 hwf had HA
      go_wp2_with fail
      refine HA3.out.mono ?_
      rintro e w4 ⟨rfl, F4, hc4, hu4⟩
      have hc4c := hu4.blk H5.out.2.1 (fun hk => (H5.out.1 _ hk).1 rfl)
      have hb4 := H5.out.2.2.trans (hu4.toBelow (fun k hk => (H5.out.1 k hk).2.2) H5.out.2.2.size)
      have hwf : WFC 1 [[1]] := by have h := addC_wf (v := 1) (cls := []) ⟨by omega, by simp, fun i hi => absurd hi (by simp)⟩ (List.replicate 1000 1); rwa [addC_many 1000 (by omega) (by omega)] at h
      have HLn := Lib.hid (len_any hc4)
      have HCl := clause_any hc4 hwf 0
      rw [show clsI [[1]] 0 = [1] from rfl] at HCl
      have HCl := Lib.hid HCl
      have H6 := Lib.hid (And.intro hc4c hb4)
      clear hc4 hu4 hc4c hb4 hwf HA3
      go_wp2_with fail
      refine HLn.out.mono ?_
      rintro e w5 ⟨rfl, rfl⟩
      go_wp2_with fail
      refine HCl.out.mono ?_
      rintro e w5 ⟨v5, rfl, ho5, hb5⟩
      obtain ⟨p5, c5, ev⟩ := ownsRow_form ho5
      subst ev
      have hc5 := H6.out.1.next hb5
      have hb5w := H6.out.2.trans (hb5.mono H6.out.2.size)
      have HVr := Lib.hid (var_any (has_nil (fun _ => False) hc5) HV.out.2)
      have H7 := Lib.hid (And.intro hb5w H4.out.2.2.2.2)
      clear ho5 hb5 hc5 hb5w
      go_wp2_with fail
      refine HVr.out.mono ?_
      rintro e w6 hv6
      by_cases hge : 60000 ≤ n
      · obtain ⟨rfl, rfl⟩ := hv6.1 (by have := HV.out.1; omega)
        have hgd : decide ((60000 : Int) ≤ n) = true := decide_eq_true hge
        clear hv6 hge
        go_wp2_with fail
        go_ret
        exact ⟨rfl, H7.out.1⟩
      · obtain ⟨rfl, hc6, hu6⟩ := hv6.2 (by have := HV.out.1; omega)
        have hV6 : V < 60000 := by have := HV.out.1; omega
        have hmx : max 0 n = (V : Int) := by have := HV.out.1; omega
        have hvw : IntKind.i64.wrap ((V : Int) + 1) = (V : Int) + 1 := i64_of (by omega)
        have hvw2 : IntKind.i64.wrap ((V : Int) + 1 + 1) = (V : Int) + 1 + 1 := i64_of (by omega)
        have hnw : IntKind.i64.wrap (-((V : Int) + 1)) = -((V : Int) + 1) := i64_of (by omega)
        have hgg : ∀ k, foot g (.slice none 0 0) k → w.heap.size ≤ k := fun k hk => by
          have := H2.out.2.2
          rcases hk with hh | hh
          · omega
          · cases hh
        have hb6 := H7.out.1.trans (hu6.toBelow hgg H7.out.1.size)
        have HVs := Lib.hid (vars_any hc6)
        have H8 := Lib.hid (And.intro hc6 (And.intro hb6 hgg))
        have hng : decide ((60000 : Int) ≤ n) = false := decide_eq_false hge
        have HV6 := Lib.hid hV6
        clear hv6 hge hc6 hu6 hb6 hgg hV6
        go_wp2_with fail
        refine HVs.out.mono ?_
        rintro e w7 ⟨rfl, rfl⟩
        go_wp2_with fail
        have hbn := Below.new w6 (.cells #[.int .i64 (-((V : Int) + 1))] 3)
        have hro : RO (w6.alloc (.cells #[.int .i64 (-((V : Int) + 1))] 3)) (.slice (some ⟨w6.heap.size, 0, none⟩) 1 1) 1 [-((V : Int) + 1)].length (ints [-((V : Int) + 1)]) := ro_one _ _
        have hwf : WFC (V + 1) [] := ⟨by have := HV6.out; omega, by simp, fun i hi => absurd hi (by simp)⟩
        have had := add_any (A := fun _ => False) (fun k hk => hk.elim) (H8.out.1.below hbn) hwf hro (by simp)
        unfold AddR at had
        rw [show -((V : Int) + 1) = -((V + 1 : Nat) : Int) by omega, addC_neg (v := V + 1) (by omega)] at had
        rw [show -((V + 1 : Nat) : Int) = -((V : Int) + 1) by omega] at had
        refine had.mono ?_
        clear had
        rintro e w8 ⟨rfl, F8, hc8, hu8⟩
        have hb8a := H8.out.2.1.trans (hbn.mono H8.out.2.1.size)
        have hb8 := hb8a.trans (hu8.toBelow H8.out.2.2 hb8a.size)
        have hg8 : ∀ k, F8 k → w.heap.size ≤ k := fun k hk => by
          rcases hu8.sub k hk with hh | hh
          · exact H8.out.2.2 k hh
          · have := hb8a.size; omega
        have hwf8 : WFC (V + 1) [[-((V : Int) + 1)]] := by
          have h := addC_wf hwf [-((V + 1 : Nat) : Int)]
          rw [addC_neg (v := V + 1) (by omega), show -((V + 1 : Nat) : Int) = -((V : Int) + 1) by omega] at h
          exact h
        have H9 := Lib.hid (And.intro hc8 (And.intro hb8 (And.intro hg8 hwf8)))
        clear hbn hro hwf hc8 hu8 hb8a hb8 hg8 hwf8
        go_wp2_with fail
        have hbn := Below.new w8 (.cells #[.int .i64 ((V : Int) + 1 + 1)] 3)
        have hro : RO (w8.alloc (.cells #[.int .i64 ((V : Int) + 1 + 1)] 3)) (.slice (some ⟨w8.heap.size, 0, none⟩) 1 1) 1 [(V : Int) + 1 + 1].length (ints [(V : Int) + 1 + 1]) := ro_one _ _
        have had := add_any (A := fun _ => False) (fun k hk => hk.elim) (H9.out.1.below hbn) H9.out.2.2.2 hro (by simp)
        unfold AddR at had
        rw [show (V : Int) + 1 + 1 = ((V + 1 : Nat) : Int) + 1 by omega, addC_above] at had
        rw [show ((V + 1 : Nat) : Int) + 1 = (V : Int) + 1 + 1 by omega] at had
        refine had.mono ?_
        clear had
        rintro e w9 ⟨rfl, F9, hc9, hu9⟩
        have hb9a := H9.out.2.1.trans (hbn.mono H9.out.2.1.size)
        have hb9 := hb9a.trans (hu9.toBelow H9.out.2.2.1 hb9a.size)
        have hg9 : ∀ k, F9 k → w.heap.size ≤ k := fun k hk => by
          rcases hu9.sub k hk with hh | hh
          · exact H9.out.2.2.1 k hh
          · have := hb9a.size; omega
        have H10 := Lib.hid (And.intro hc9 (And.intro hb9 hg9))
        clear hbn hro hc9 hu9 hb9a hb9 hg9
        go_wp2_with fail
        have hbn := Below.new w9 (.cells #[.int .i64 0] 3)
        have hro : RO (w9.alloc (.cells #[.int .i64 0] 3)) (.slice (some ⟨w9.heap.size, 0, none⟩) 1 1) 1 [(0 : Int)].length (ints [(0 : Int)]) := ro_one _ _
        have had := add_any (A := fun _ => False) (fun k hk => hk.elim) (H10.out.1.below hbn) H9.out.2.2.2 hro (by simp)
        unfold AddR at had
        rw [addC_zero] at had
        refine had.mono ?_
        clear had
        rintro e w10 ⟨rfl, F10, hc10, hu10⟩
        have hb10a := H10.out.2.1.trans (hbn.mono H10.out.2.1.size)
        have hb10 := hb10a.trans (hu10.toBelow H10.out.2.2 hb10a.size)
        have HLn := Lib.hid (len_any hc10)
        have H11 := Lib.hid hb10
        clear hbn hro hc10 hu10 hb10a hb10
        go_wp2_with fail
        refine HLn.out.mono ?_
        rintro e w11 ⟨rfl, rfl⟩
        go_wp2_with fail
        go_ret
        exact ⟨rfl, H11.out⟩
end Go.Proofs.YtcifiibpiooeiaaDoor
