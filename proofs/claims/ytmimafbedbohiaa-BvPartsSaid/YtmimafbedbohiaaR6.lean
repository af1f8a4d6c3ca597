import Derived.Test.YtmimafbedbohiaaR5
import Derived.Test.YtmimafbedbohiaaB4
import Derived.Test.YtmimafbedbohiaaB7
import Derived.Test.YtmimafbedbohiaaB10
namespace Go.Proofs.Ytmimafbedbohiaa
set_option linter.unusedVariables false
open Go.RowKit

/-- a list of bits and an error are returned -/
def RetNE (w : World) (n x : Nat) (err : Int) (e : Ending) (w' : World) : Prop := ∃ v, e = .returned (.tuple #[v, .int .i64 err]) ∧ LN w' v n x ∧ Below w.heap.size w w'
theorem nnum {w : World} {va : Value} {m n B : Nat} (hB : LN w va m B) (hm : m ≤ 128) (hn : n ≤ 128) : Calls Try.prog 23 #[va, .int .i64 n] w fun e w' => e = .returned (.int .i64 ((min B n : Nat) : Int)) ∧ w = w' := by
  obtain ⟨f, hB, rfl⟩ := hB
  have h := rnum_any hB (by omega) (n : Int) (by omega)
  rwa [show min ((ofB f m : Nat) : Int) (max (n : Int) 0) = ((min (ofB f m) n : Nat) : Int) by omega] at h
theorem nequal {w : World} {va vb : Value} {n A B : Nat} (hA : LN w va n A) (hB : LN w vb n B) (hn : n ≤ 128) : Calls Try.prog 41 #[va, vb] w fun e w' => e = .returned (.bool (decide (A = B))) ∧ Below w.heap.size w w' := by
  obtain ⟨f, hA, rfl⟩ := hA
  obtain ⟨g, hB, rfl⟩ := hB
  exact requal_any hA hB (by omega)
theorem none_one (q : Bool) (w : World) : Calls Try.prog 71 #[.bool q] w (RetN w 1 (b2n q)) :=
  (rone_any q w).mono fun e w' h => h.n (by cases q <;> rfl)
theorem move_up10 {n A S : Nat} (hS : S ≤ n) : ofB (moveF A.testBit n (S : Int) false) n = ofB (upF A S) n := by
  refine ofB_congr fun j hj => ?_
  unfold moveF upF
  by_cases h : S ≤ j
  · rw [if_pos ⟨by omega, by omega⟩, show ((j : Int) - (S : Int)).toNat = j - S by omega]; simp [h]
  · rw [if_neg (by omega)]; simp [h]
theorem move_down {n A S : Nat} (q : Bool) (hS : S ≤ n) : ofB (moveF A.testBit n (-(S : Int)) q) n = ofB (downF A n S q) n := by
  refine ofB_congr fun j hj => ?_
  unfold moveF downF
  by_cases h : j < n - S
  · rw [if_pos ⟨by omega, by omega⟩, if_pos h, show ((j : Int) - -(S : Int)).toNat = j + S by omega]
  · rw [if_neg (by omega), if_neg h]

set_option maxRecDepth 100000 in
set_option maxHeartbeats 8000000 in
theorem rbin_0 {w : World} {va vb : Value} {n A B : Nat} (hA : LN w va n A) (hB : LN w vb n B) (h1 : 1 ≤ n) (hn : n ≤ 128) : Calls Try.prog 28 #[.int .i64 0, va, vb] w (RetNE w n ((A + B + 0) % 2 ^ n) 0) := by
  have hni : (n : Int) ≤ 128 := by omega
  have hn0 : ((n : Int) == 0) = false := by simp; omega
  have HN := Lib.hid (And.intro h1 hn)
  obtain ⟨pa, ca, rfl⟩ := hA.form
  obtain ⟨pb, cb, rfl⟩ := hB.form
  have hmk := fun w => mk_bools n (by omega) w
  have hbl : Below w.heap.size w (w.alloc (.cells (bools (List.replicate n false)).toArray 4)) := Below.new _ _
  have HA := Lib.hid (hA.below hbl)
  have HB := Lib.hid (hB.below hbl)
  have HW := Lib.hid hbl
  obtain ⟨S, hS⟩ : ∃ S, min B n = S := ⟨_, rfl⟩
  have HNum := Lib.hid (nnum (n := n) (hB.below hbl) hn hn)
  rw [hS] at HNum
  have HS := Lib.hid hS
  have hSi : (S : Int) ≤ 128 := by omega
  have hSn : IntKind.i64.wrap (-(S : Int)) = -(S : Int) := IntWalk.i64_in _ (by omega)
  clear hA hB h1 hn hbl hS
  go_enter Try.func28, Try.ntmps28
  go_wp2_with fail
  generalize w.alloc (.cells (bools (List.replicate n false)).toArray 4) = W at *
  refine HNum.out.mono ?_; rintro e w' ⟨rfl, rfl⟩
  clear hmk
  go_wp2_with fail
  refine (nplus false HA.out HB.out (by have := HN.out; omega)).mono ?_; rintro e w9 ⟨v9, rfl, h9, hb9⟩
  rw [if_neg (by decide)] at h9
  have HF := Lib.hid (And.intro h9 (HW.out.trans (hb9.mono HW.out.size)))
  clear h9 hb9
  go_wp2_with fail
  go_ret2
  exact ⟨_, rfl, HF.out.1, HF.out.2⟩

set_option maxRecDepth 100000 in
set_option maxHeartbeats 8000000 in
theorem rbin_1 {w : World} {va vb : Value} {n A B : Nat} (hA : LN w va n A) (hB : LN w vb n B) (h1 : 1 ≤ n) (hn : n ≤ 128) : Calls Try.prog 28 #[.int .i64 1, va, vb] w (RetNE w n ((A + notN n B + 1) % 2 ^ n) 0) := by
  have hni : (n : Int) ≤ 128 := by omega
  have hn0 : ((n : Int) == 0) = false := by simp; omega
  have HN := Lib.hid (And.intro h1 hn)
  obtain ⟨pa, ca, rfl⟩ := hA.form
  obtain ⟨pb, cb, rfl⟩ := hB.form
  have hmk := fun w => mk_bools n (by omega) w
  have hbl : Below w.heap.size w (w.alloc (.cells (bools (List.replicate n false)).toArray 4)) := Below.new _ _
  have HA := Lib.hid (hA.below hbl)
  have HB := Lib.hid (hB.below hbl)
  have HW := Lib.hid hbl
  obtain ⟨S, hS⟩ : ∃ S, min B n = S := ⟨_, rfl⟩
  have HNum := Lib.hid (nnum (n := n) (hB.below hbl) hn hn)
  rw [hS] at HNum
  have HS := Lib.hid hS
  have hSi : (S : Int) ≤ 128 := by omega
  have hSn : IntKind.i64.wrap (-(S : Int)) = -(S : Int) := IntWalk.i64_in _ (by omega)
  clear hA hB h1 hn hbl hS
  go_enter Try.func28, Try.ntmps28
  go_wp2_with fail
  generalize w.alloc (.cells (bools (List.replicate n false)).toArray 4) = W at *
  refine HNum.out.mono ?_; rintro e w' ⟨rfl, rfl⟩
  clear hmk
  go_wp2_with fail
  refine (nnot HB.out (by have := HN.out; omega)).mono ?_; rintro e w3 ⟨v3, rfl, h3, hb3⟩
  obtain ⟨p3, c3, rfl⟩ := h3.form
  have H3 := Lib.hid (And.intro (HA.out.below hb3) h3)
  have HW3 := Lib.hid (HW.out.trans (hb3.mono HW.out.size))
  clear h3 hb3
  go_wp2_with fail
  refine (nplus true H3.out.1 H3.out.2 (by have := HN.out; omega)).mono ?_; rintro e w9 ⟨v9, rfl, h9, hb9⟩
  rw [if_pos rfl] at h9
  have HF := Lib.hid (And.intro h9 (HW3.out.trans (hb9.mono HW3.out.size)))
  clear h9 hb9
  go_wp2_with fail
  go_ret2
  exact ⟨_, rfl, HF.out.1, HF.out.2⟩

set_option maxRecDepth 100000 in
set_option maxHeartbeats 8000000 in
theorem rbin_2 {w : World} {va vb : Value} {n A B : Nat} (hA : LN w va n A) (hB : LN w vb n B) (h1 : 1 ≤ n) (hn : n ≤ 128) : Calls Try.prog 28 #[.int .i64 2, va, vb] w (RetNE w n (A * B % 2 ^ n) 0) := by
  have hni : (n : Int) ≤ 128 := by omega
  have hn0 : ((n : Int) == 0) = false := by simp; omega
  have HN := Lib.hid (And.intro h1 hn)
  obtain ⟨pa, ca, rfl⟩ := hA.form
  obtain ⟨pb, cb, rfl⟩ := hB.form
  have hmk := fun w => mk_bools n (by omega) w
  have hbl : Below w.heap.size w (w.alloc (.cells (bools (List.replicate n false)).toArray 4)) := Below.new _ _
  have HA := Lib.hid (hA.below hbl)
  have HB := Lib.hid (hB.below hbl)
  have HW := Lib.hid hbl
  obtain ⟨S, hS⟩ : ∃ S, min B n = S := ⟨_, rfl⟩
  have HNum := Lib.hid (nnum (n := n) (hB.below hbl) hn hn)
  rw [hS] at HNum
  have HS := Lib.hid hS
  have hSi : (S : Int) ≤ 128 := by omega
  have hSn : IntKind.i64.wrap (-(S : Int)) = -(S : Int) := IntWalk.i64_in _ (by omega)
  clear hA hB h1 hn hbl hS
  go_enter Try.func28, Try.ntmps28
  go_wp2_with fail
  generalize w.alloc (.cells (bools (List.replicate n false)).toArray 4) = W at *
  refine HNum.out.mono ?_; rintro e w' ⟨rfl, rfl⟩
  clear hmk
  go_wp2_with fail
  refine (ntimes HA.out HB.out HN.out.2).mono ?_; rintro e w9 ⟨v9, rfl, h9, hb9⟩
  have HF := Lib.hid (And.intro h9 (HW.out.trans (hb9.mono HW.out.size)))
  clear h9 hb9
  go_wp2_with fail
  go_ret2
  exact ⟨_, rfl, HF.out.1, HF.out.2⟩

set_option maxRecDepth 100000 in
set_option maxHeartbeats 8000000 in
theorem rbin_3 {w : World} {va vb : Value} {n A B : Nat} (hA : LN w va n A) (hB : LN w vb n B) (h1 : 1 ≤ n) (hn : n ≤ 128) : Calls Try.prog 28 #[.int .i64 3, va, vb] w (RetNE w n (divN n A B) 0) := by
  have hni : (n : Int) ≤ 128 := by omega
  have hn0 : ((n : Int) == 0) = false := by simp; omega
  have HN := Lib.hid (And.intro h1 hn)
  obtain ⟨pa, ca, rfl⟩ := hA.form
  obtain ⟨pb, cb, rfl⟩ := hB.form
  have hmk := fun w => mk_bools n (by omega) w
  have hbl : Below w.heap.size w (w.alloc (.cells (bools (List.replicate n false)).toArray 4)) := Below.new _ _
  have HA := Lib.hid (hA.below hbl)
  have HB := Lib.hid (hB.below hbl)
  have HW := Lib.hid hbl
  obtain ⟨S, hS⟩ : ∃ S, min B n = S := ⟨_, rfl⟩
  have HNum := Lib.hid (nnum (n := n) (hB.below hbl) hn hn)
  rw [hS] at HNum
  have HS := Lib.hid hS
  have hSi : (S : Int) ≤ 128 := by omega
  have hSn : IntKind.i64.wrap (-(S : Int)) = -(S : Int) := IntWalk.i64_in _ (by omega)
  clear hA hB h1 hn hbl hS
  go_enter Try.func28, Try.ntmps28
  go_wp2_with fail
  generalize w.alloc (.cells (bools (List.replicate n false)).toArray 4) = W at *
  refine HNum.out.mono ?_; rintro e w' ⟨rfl, rfl⟩
  clear hmk
  go_wp2_with fail
  refine (nsplit HA.out HB.out HN.out.2).mono ?_; rintro e w3 ⟨v3, u3, rfl, h3, k3, hb3⟩
  obtain ⟨p3, c3, rfl⟩ := h3.form
  obtain ⟨p4, c4, rfl⟩ := k3.form
  have HF := Lib.hid (And.intro h3 (HW.out.trans (hb3.mono HW.out.size)))
  clear h3 k3 hb3
  go_wp2_with fail
  go_ret2
  exact ⟨_, rfl, HF.out.1, HF.out.2⟩

set_option maxRecDepth 100000 in
set_option maxHeartbeats 8000000 in
theorem rbin_4 {w : World} {va vb : Value} {n A B : Nat} (hA : LN w va n A) (hB : LN w vb n B) (h1 : 1 ≤ n) (hn : n ≤ 128) : Calls Try.prog 28 #[.int .i64 4, va, vb] w (RetNE w n (A % B) 0) := by
  have hni : (n : Int) ≤ 128 := by omega
  have hn0 : ((n : Int) == 0) = false := by simp; omega
  have HN := Lib.hid (And.intro h1 hn)
  obtain ⟨pa, ca, rfl⟩ := hA.form
  obtain ⟨pb, cb, rfl⟩ := hB.form
  have hmk := fun w => mk_bools n (by omega) w
  have hbl : Below w.heap.size w (w.alloc (.cells (bools (List.replicate n false)).toArray 4)) := Below.new _ _
  have HA := Lib.hid (hA.below hbl)
  have HB := Lib.hid (hB.below hbl)
  have HW := Lib.hid hbl
  obtain ⟨S, hS⟩ : ∃ S, min B n = S := ⟨_, rfl⟩
  have HNum := Lib.hid (nnum (n := n) (hB.below hbl) hn hn)
  rw [hS] at HNum
  have HS := Lib.hid hS
  have hSi : (S : Int) ≤ 128 := by omega
  have hSn : IntKind.i64.wrap (-(S : Int)) = -(S : Int) := IntWalk.i64_in _ (by omega)
  clear hA hB h1 hn hbl hS
  go_enter Try.func28, Try.ntmps28
  go_wp2_with fail
  generalize w.alloc (.cells (bools (List.replicate n false)).toArray 4) = W at *
  refine HNum.out.mono ?_; rintro e w' ⟨rfl, rfl⟩
  clear hmk
  go_wp2_with fail
  refine (nsplit HA.out HB.out HN.out.2).mono ?_; rintro e w3 ⟨v3, u3, rfl, h3, k3, hb3⟩
  obtain ⟨p3, c3, rfl⟩ := h3.form
  obtain ⟨p4, c4, rfl⟩ := k3.form
  have HF := Lib.hid (And.intro k3 (HW.out.trans (hb3.mono HW.out.size)))
  have HS0 := Lib.hid (own_bools0 w3)
  have HR3 := Lib.hid (k3.bits.below (Below.new w3 (.cells #[] 4)))
  clear h3 k3 hb3
  go_wp2_with (at_builtin; go_must (refine wpList_appR rfl _ _ 35 rfl Try.T35 w3.heap.size (.slice (some ⟨w3.heap.size, 0, none⟩) 0 0) 0 (bools []) rfl HS0.out _ n _ rfl HR3.out (bools_one _) (by have := HN.out; omega) (by have := HN.out; omega) (by simp) ?_); intro v4 w4 happ; have HP := Lib.hid happ; clear happ)
  go_ret2
  have hb4 := HP.out.below (Below.new w3 _) (by simp) (fun k hk => by have := own_bk hk; omega)
  refine ⟨_, rfl, ?_, HF.out.2.trans (hb4.mono HF.out.2.size)⟩
  have h := RO.own HP.out.own
  rw [Nat.zero_add, bools_append, List.nil_append] at h
  exact ⟨_, h, by rw [ofB_mod', Nat.mod_eq_of_lt HF.out.1.lt]⟩

set_option maxRecDepth 100000 in
set_option maxHeartbeats 8000000 in
theorem rbin_5 {w : World} {va vb : Value} {n A B : Nat} (hA : LN w va n A) (hB : LN w vb n B) (h1 : 1 ≤ n) (hn : n ≤ 128) : Calls Try.prog 28 #[.int .i64 5, va, vb] w (RetNE w n (sdivZ n A B) 0) := by
  have hni : (n : Int) ≤ 128 := by omega
  have hn0 : ((n : Int) == 0) = false := by simp; omega
  have HN := Lib.hid (And.intro h1 hn)
  obtain ⟨pa, ca, rfl⟩ := hA.form
  obtain ⟨pb, cb, rfl⟩ := hB.form
  have hmk := fun w => mk_bools n (by omega) w
  have hbl : Below w.heap.size w (w.alloc (.cells (bools (List.replicate n false)).toArray 4)) := Below.new _ _
  have HA := Lib.hid (hA.below hbl)
  have HB := Lib.hid (hB.below hbl)
  have HW := Lib.hid hbl
  obtain ⟨S, hS⟩ : ∃ S, min B n = S := ⟨_, rfl⟩
  have HNum := Lib.hid (nnum (n := n) (hB.below hbl) hn hn)
  rw [hS] at HNum
  have HS := Lib.hid hS
  have hSi : (S : Int) ≤ 128 := by omega
  have hSn : IntKind.i64.wrap (-(S : Int)) = -(S : Int) := IntWalk.i64_in _ (by omega)
  clear hA hB h1 hn hbl hS
  go_enter Try.func28, Try.ntmps28
  go_wp2_with fail
  generalize w.alloc (.cells (bools (List.replicate n false)).toArray 4) = W at *
  refine HNum.out.mono ?_; rintro e w' ⟨rfl, rfl⟩
  clear hmk
  go_wp2_with fail
  refine (nsigned HA.out HB.out HN.out.1 HN.out.2).mono ?_; rintro e w3 ⟨v3, u3, rfl, h3, k3, hb3⟩
  obtain ⟨p3, c3, rfl⟩ := h3.form
  obtain ⟨p4, c4, rfl⟩ := k3.form
  have HF := Lib.hid (And.intro h3 (HW.out.trans (hb3.mono HW.out.size)))
  clear h3 k3 hb3
  go_wp2_with fail
  go_ret2
  exact ⟨_, rfl, HF.out.1, HF.out.2⟩

set_option maxRecDepth 100000 in
set_option maxHeartbeats 8000000 in
theorem rbin_6 {w : World} {va vb : Value} {n A B : Nat} (hA : LN w va n A) (hB : LN w vb n B) (h1 : 1 ≤ n) (hn : n ≤ 128) : Calls Try.prog 28 #[.int .i64 6, va, vb] w (RetNE w n (sremZ n A B) 0) := by
  have hni : (n : Int) ≤ 128 := by omega
  have hn0 : ((n : Int) == 0) = false := by simp; omega
  have HN := Lib.hid (And.intro h1 hn)
  obtain ⟨pa, ca, rfl⟩ := hA.form
  obtain ⟨pb, cb, rfl⟩ := hB.form
  have hmk := fun w => mk_bools n (by omega) w
  have hbl : Below w.heap.size w (w.alloc (.cells (bools (List.replicate n false)).toArray 4)) := Below.new _ _
  have HA := Lib.hid (hA.below hbl)
  have HB := Lib.hid (hB.below hbl)
  have HW := Lib.hid hbl
  obtain ⟨S, hS⟩ : ∃ S, min B n = S := ⟨_, rfl⟩
  have HNum := Lib.hid (nnum (n := n) (hB.below hbl) hn hn)
  rw [hS] at HNum
  have HS := Lib.hid hS
  have hSi : (S : Int) ≤ 128 := by omega
  have hSn : IntKind.i64.wrap (-(S : Int)) = -(S : Int) := IntWalk.i64_in _ (by omega)
  clear hA hB h1 hn hbl hS
  go_enter Try.func28, Try.ntmps28
  go_wp2_with fail
  generalize w.alloc (.cells (bools (List.replicate n false)).toArray 4) = W at *
  refine HNum.out.mono ?_; rintro e w' ⟨rfl, rfl⟩
  clear hmk
  go_wp2_with fail
  refine (nsigned HA.out HB.out HN.out.1 HN.out.2).mono ?_; rintro e w3 ⟨v3, u3, rfl, h3, k3, hb3⟩
  obtain ⟨p3, c3, rfl⟩ := h3.form
  obtain ⟨p4, c4, rfl⟩ := k3.form
  have HF := Lib.hid (And.intro k3 (HW.out.trans (hb3.mono HW.out.size)))
  have HS0 := Lib.hid (own_bools0 w3)
  have HR3 := Lib.hid (k3.bits.below (Below.new w3 (.cells #[] 4)))
  clear h3 k3 hb3
  go_wp2_with (at_builtin; go_must (refine wpList_appR rfl _ _ 35 rfl Try.T35 w3.heap.size (.slice (some ⟨w3.heap.size, 0, none⟩) 0 0) 0 (bools []) rfl HS0.out _ n _ rfl HR3.out (bools_one _) (by have := HN.out; omega) (by have := HN.out; omega) (by simp) ?_); intro v4 w4 happ; have HP := Lib.hid happ; clear happ)
  go_ret2
  have hb4 := HP.out.below (Below.new w3 _) (by simp) (fun k hk => by have := own_bk hk; omega)
  refine ⟨_, rfl, ?_, HF.out.2.trans (hb4.mono HF.out.2.size)⟩
  have h := RO.own HP.out.own
  rw [Nat.zero_add, bools_append, List.nil_append] at h
  exact ⟨_, h, by rw [ofB_mod', Nat.mod_eq_of_lt HF.out.1.lt]⟩

set_option maxRecDepth 100000 in
set_option maxHeartbeats 8000000 in
theorem rbin_10 {w : World} {va vb : Value} {n A B : Nat} (hA : LN w va n A) (hB : LN w vb n B) (h1 : 1 ≤ n) (hn : n ≤ 128) : Calls Try.prog 28 #[.int .i64 10, va, vb] w (RetNE w n (shiftN 10 n A B) 0) := by
  have hni : (n : Int) ≤ 128 := by omega
  have hn0 : ((n : Int) == 0) = false := by simp; omega
  have HN := Lib.hid (And.intro h1 hn)
  obtain ⟨pa, ca, rfl⟩ := hA.form
  obtain ⟨pb, cb, rfl⟩ := hB.form
  have hmk := fun w => mk_bools n (by omega) w
  have hbl : Below w.heap.size w (w.alloc (.cells (bools (List.replicate n false)).toArray 4)) := Below.new _ _
  have HA := Lib.hid (hA.below hbl)
  have HB := Lib.hid (hB.below hbl)
  have HW := Lib.hid hbl
  obtain ⟨S, hS⟩ : ∃ S, min B n = S := ⟨_, rfl⟩
  have HNum := Lib.hid (nnum (n := n) (hB.below hbl) hn hn)
  rw [hS] at HNum
  have HS := Lib.hid hS
  have hSi : (S : Int) ≤ 128 := by omega
  have hSn : IntKind.i64.wrap (-(S : Int)) = -(S : Int) := IntWalk.i64_in _ (by omega)
  have HSh : Hid (shiftN 10 n A B = ofB (upF A S) n) := Lib.hid (by unfold shiftN; rw [hS]; rfl)
  rw [HSh.out]
  clear hA hB h1 hn hbl hS HSh
  go_enter Try.func28, Try.ntmps28
  go_wp2_with fail
  generalize w.alloc (.cells (bools (List.replicate n false)).toArray 4) = W at *
  refine HNum.out.mono ?_; rintro e w' ⟨rfl, rfl⟩
  clear hmk
  go_wp2_with fail
  refine (nmove (S : Int) false (by omega) (by omega) HA.out (by have := HN.out; omega)).mono ?_; rintro e w9 ⟨v9, rfl, h9, hb9⟩
  rw [move_up10 (by have := HS.out; omega)] at h9
  have HF := Lib.hid (And.intro h9 (HW.out.trans (hb9.mono HW.out.size)))
  clear h9 hb9
  go_wp2_with fail
  go_ret2
  exact ⟨_, rfl, HF.out.1, HF.out.2⟩

set_option maxRecDepth 100000 in
set_option maxHeartbeats 8000000 in
theorem rbin_11 {w : World} {va vb : Value} {n A B : Nat} (hA : LN w va n A) (hB : LN w vb n B) (h1 : 1 ≤ n) (hn : n ≤ 128) : Calls Try.prog 28 #[.int .i64 11, va, vb] w (RetNE w n (shiftN 11 n A B) 0) := by
  have hni : (n : Int) ≤ 128 := by omega
  have hn0 : ((n : Int) == 0) = false := by simp; omega
  have HN := Lib.hid (And.intro h1 hn)
  obtain ⟨pa, ca, rfl⟩ := hA.form
  obtain ⟨pb, cb, rfl⟩ := hB.form
  have hmk := fun w => mk_bools n (by omega) w
  have hbl : Below w.heap.size w (w.alloc (.cells (bools (List.replicate n false)).toArray 4)) := Below.new _ _
  have HA := Lib.hid (hA.below hbl)
  have HB := Lib.hid (hB.below hbl)
  have HW := Lib.hid hbl
  obtain ⟨S, hS⟩ : ∃ S, min B n = S := ⟨_, rfl⟩
  have HNum := Lib.hid (nnum (n := n) (hB.below hbl) hn hn)
  rw [hS] at HNum
  have HS := Lib.hid hS
  have hSi : (S : Int) ≤ 128 := by omega
  have hSn : IntKind.i64.wrap (-(S : Int)) = -(S : Int) := IntWalk.i64_in _ (by omega)
  have HSh : Hid (shiftN 11 n A B = ofB (downF A n S false) n) := Lib.hid (by unfold shiftN; rw [hS]; rfl)
  rw [HSh.out]
  clear hA hB h1 hn hbl hS HSh
  go_enter Try.func28, Try.ntmps28
  go_wp2_with fail
  generalize w.alloc (.cells (bools (List.replicate n false)).toArray 4) = W at *
  refine HNum.out.mono ?_; rintro e w' ⟨rfl, rfl⟩
  clear hmk
  go_wp2_with fail
  refine (nmove (-(S : Int)) false (by omega) (by omega) HA.out (by have := HN.out; omega)).mono ?_; rintro e w9 ⟨v9, rfl, h9, hb9⟩
  rw [move_down _ (by have := HS.out; omega)] at h9
  have HF := Lib.hid (And.intro h9 (HW.out.trans (hb9.mono HW.out.size)))
  clear h9 hb9
  go_wp2_with fail
  go_ret2
  exact ⟨_, rfl, HF.out.1, HF.out.2⟩

set_option maxRecDepth 100000 in
set_option maxHeartbeats 8000000 in
theorem rbin_12 {w : World} {va vb : Value} {n A B : Nat} (hA : LN w va n A) (hB : LN w vb n B) (h1 : 1 ≤ n) (hn : n ≤ 128) : Calls Try.prog 28 #[.int .i64 12, va, vb] w (RetNE w n (shiftN 12 n A B) 0) := by
  have hni : (n : Int) ≤ 128 := by omega
  have hn0 : ((n : Int) == 0) = false := by simp; omega
  have HN := Lib.hid (And.intro h1 hn)
  obtain ⟨pa, ca, rfl⟩ := hA.form
  obtain ⟨pb, cb, rfl⟩ := hB.form
  have hmk := fun w => mk_bools n (by omega) w
  have hbl : Below w.heap.size w (w.alloc (.cells (bools (List.replicate n false)).toArray 4)) := Below.new _ _
  have HA := Lib.hid (hA.below hbl)
  have HB := Lib.hid (hB.below hbl)
  have HW := Lib.hid hbl
  obtain ⟨S, hS⟩ : ∃ S, min B n = S := ⟨_, rfl⟩
  have HNum := Lib.hid (nnum (n := n) (hB.below hbl) hn hn)
  rw [hS] at HNum
  have HS := Lib.hid hS
  have hSi : (S : Int) ≤ 128 := by omega
  have hSn : IntKind.i64.wrap (-(S : Int)) = -(S : Int) := IntWalk.i64_in _ (by omega)
  have HSh : Hid (shiftN 12 n A B = ofB (downF A n S (topB n A)) n) := Lib.hid (by unfold shiftN; rw [hS]; rfl)
  rw [HSh.out]
  clear hA hB h1 hn hbl hS HSh
  go_enter Try.func28, Try.ntmps28
  go_wp2_with fail
  generalize w.alloc (.cells (bools (List.replicate n false)).toArray 4) = W at *
  refine HNum.out.mono ?_; rintro e w' ⟨rfl, rfl⟩
  clear hmk
  go_wp2_with fail
  refine (ntop HA.out HN.out.2 HN.out.1).mono ?_; rintro e w2 ⟨rfl, rfl⟩
  go_wp2_with fail
  refine (nmove (-(S : Int)) (topB n A) (by omega) (by omega) HA.out (by have := HN.out; omega)).mono ?_; rintro e w9 ⟨v9, rfl, h9, hb9⟩
  rw [move_down _ (by have := HS.out; omega)] at h9
  have HF := Lib.hid (And.intro h9 (HW.out.trans (hb9.mono HW.out.size)))
  clear h9 hb9
  go_wp2_with fail
  go_ret2
  exact ⟨_, rfl, HF.out.1, HF.out.2⟩

set_option maxRecDepth 100000 in
set_option maxHeartbeats 8000000 in
theorem rbin_13 {w : World} {va vb : Value} {n A B : Nat} (hA : LN w va n A) (hB : LN w vb n B) (h1 : 1 ≤ n) (hn : n ≤ 128) : Calls Try.prog 28 #[.int .i64 13, va, vb] w (RetNE w 1 (b2n (cmpB 13 n A B)) 0) := by
  have hni : (n : Int) ≤ 128 := by omega
  have hn0 : ((n : Int) == 0) = false := by simp; omega
  have HN := Lib.hid (And.intro h1 hn)
  obtain ⟨pa, ca, rfl⟩ := hA.form
  obtain ⟨pb, cb, rfl⟩ := hB.form
  have hmk := fun w => mk_bools n (by omega) w
  have hbl : Below w.heap.size w (w.alloc (.cells (bools (List.replicate n false)).toArray 4)) := Below.new _ _
  have HA := Lib.hid (hA.below hbl)
  have HB := Lib.hid (hB.below hbl)
  have HW := Lib.hid hbl
  obtain ⟨S, hS⟩ : ∃ S, min B n = S := ⟨_, rfl⟩
  have HNum := Lib.hid (nnum (n := n) (hB.below hbl) hn hn)
  rw [hS] at HNum
  have HS := Lib.hid hS
  have hSi : (S : Int) ≤ 128 := by omega
  have hSn : IntKind.i64.wrap (-(S : Int)) = -(S : Int) := IntWalk.i64_in _ (by omega)
  obtain ⟨q, hq⟩ : ∃ q, decide (A = B) = q := ⟨_, rfl⟩
  have HQ := Lib.hid hq
  have HC : Hid (cmpB 13 n A B = q) := Lib.hid (by rw [← hq]; rfl)
  rw [HC.out]
  clear hA hB h1 hn hbl hS hq HC
  go_enter Try.func28, Try.ntmps28
  go_wp2_with fail
  generalize w.alloc (.cells (bools (List.replicate n false)).toArray 4) = W at *
  refine HNum.out.mono ?_; rintro e w' ⟨rfl, rfl⟩
  clear hmk
  go_wp2_with fail
  have hc := nequal HA.out HB.out HN.out.2
  rw [HQ.out] at hc
  refine hc.mono ?_; rintro e w3 ⟨rfl, hb3⟩
  have HW3 := Lib.hid (HW.out.trans (hb3.mono HW.out.size))
  clear hb3 hc
  go_wp2_with fail
  refine (none_one _ _).mono ?_; rintro e w9 ⟨v9, rfl, h9, hb9⟩
  have HF := Lib.hid (And.intro h9 (HW3.out.trans (hb9.mono HW3.out.size)))
  clear h9 hb9
  go_wp2_with fail
  go_ret2
  exact ⟨_, rfl, HF.out.1, HF.out.2⟩

set_option maxRecDepth 100000 in
set_option maxHeartbeats 8000000 in
theorem rbin_14 {w : World} {va vb : Value} {n A B : Nat} (hA : LN w va n A) (hB : LN w vb n B) (h1 : 1 ≤ n) (hn : n ≤ 128) : Calls Try.prog 28 #[.int .i64 14, va, vb] w (RetNE w 1 (b2n (cmpB 14 n A B)) 0) := by
  have hni : (n : Int) ≤ 128 := by omega
  have hn0 : ((n : Int) == 0) = false := by simp; omega
  have HN := Lib.hid (And.intro h1 hn)
  obtain ⟨pa, ca, rfl⟩ := hA.form
  obtain ⟨pb, cb, rfl⟩ := hB.form
  have hmk := fun w => mk_bools n (by omega) w
  have hbl : Below w.heap.size w (w.alloc (.cells (bools (List.replicate n false)).toArray 4)) := Below.new _ _
  have HA := Lib.hid (hA.below hbl)
  have HB := Lib.hid (hB.below hbl)
  have HW := Lib.hid hbl
  obtain ⟨S, hS⟩ : ∃ S, min B n = S := ⟨_, rfl⟩
  have HNum := Lib.hid (nnum (n := n) (hB.below hbl) hn hn)
  rw [hS] at HNum
  have HS := Lib.hid hS
  have hSi : (S : Int) ≤ 128 := by omega
  have hSn : IntKind.i64.wrap (-(S : Int)) = -(S : Int) := IntWalk.i64_in _ (by omega)
  obtain ⟨q, hq⟩ : ∃ q, decide (A = B) = q := ⟨_, rfl⟩
  have HQ := Lib.hid hq
  have HC : Hid (cmpB 14 n A B = !q) := Lib.hid (by rw [← hq]; rfl)
  rw [HC.out]
  clear hA hB h1 hn hbl hS hq HC
  go_enter Try.func28, Try.ntmps28
  go_wp2_with fail
  generalize w.alloc (.cells (bools (List.replicate n false)).toArray 4) = W at *
  refine HNum.out.mono ?_; rintro e w' ⟨rfl, rfl⟩
  clear hmk
  go_wp2_with fail
  have hc := nequal HA.out HB.out HN.out.2
  rw [HQ.out] at hc
  refine hc.mono ?_; rintro e w3 ⟨rfl, hb3⟩
  have HW3 := Lib.hid (HW.out.trans (hb3.mono HW.out.size))
  clear hb3 hc
  go_wp2_with fail
  refine (none_one _ _).mono ?_; rintro e w9 ⟨v9, rfl, h9, hb9⟩
  have HF := Lib.hid (And.intro h9 (HW3.out.trans (hb9.mono HW3.out.size)))
  clear h9 hb9
  go_wp2_with fail
  go_ret2
  exact ⟨_, rfl, HF.out.1, HF.out.2⟩

set_option maxRecDepth 100000 in
set_option maxHeartbeats 8000000 in
theorem rbin_15 {w : World} {va vb : Value} {n A B : Nat} (hA : LN w va n A) (hB : LN w vb n B) (h1 : 1 ≤ n) (hn : n ≤ 128) : Calls Try.prog 28 #[.int .i64 15, va, vb] w (RetNE w 1 (b2n (cmpB 15 n A B)) 0) := by
  have hni : (n : Int) ≤ 128 := by omega
  have hn0 : ((n : Int) == 0) = false := by simp; omega
  have HN := Lib.hid (And.intro h1 hn)
  obtain ⟨pa, ca, rfl⟩ := hA.form
  obtain ⟨pb, cb, rfl⟩ := hB.form
  have hmk := fun w => mk_bools n (by omega) w
  have hbl : Below w.heap.size w (w.alloc (.cells (bools (List.replicate n false)).toArray 4)) := Below.new _ _
  have HA := Lib.hid (hA.below hbl)
  have HB := Lib.hid (hB.below hbl)
  have HW := Lib.hid hbl
  obtain ⟨S, hS⟩ : ∃ S, min B n = S := ⟨_, rfl⟩
  have HNum := Lib.hid (nnum (n := n) (hB.below hbl) hn hn)
  rw [hS] at HNum
  have HS := Lib.hid hS
  have hSi : (S : Int) ≤ 128 := by omega
  have hSn : IntKind.i64.wrap (-(S : Int)) = -(S : Int) := IntWalk.i64_in _ (by omega)
  obtain ⟨q, hq⟩ : ∃ q, decide (A < B) = q := ⟨_, rfl⟩
  have HQ := Lib.hid hq
  have HC : Hid (cmpB 15 n A B = q) := Lib.hid (by rw [← hq]; rfl)
  rw [HC.out]
  clear hA hB h1 hn hbl hS hq HC
  go_enter Try.func28, Try.ntmps28
  go_wp2_with fail
  generalize w.alloc (.cells (bools (List.replicate n false)).toArray 4) = W at *
  refine HNum.out.mono ?_; rintro e w' ⟨rfl, rfl⟩
  clear hmk
  go_wp2_with fail
  have hc := nless HA.out HB.out (by have := HN.out; omega)
  rw [HQ.out] at hc
  refine hc.mono ?_; rintro e w3 ⟨rfl, hb3⟩
  have HW3 := Lib.hid (HW.out.trans (hb3.mono HW.out.size))
  clear hb3 hc
  go_wp2_with fail
  refine (none_one _ _).mono ?_; rintro e w9 ⟨v9, rfl, h9, hb9⟩
  have HF := Lib.hid (And.intro h9 (HW3.out.trans (hb9.mono HW3.out.size)))
  clear h9 hb9
  go_wp2_with fail
  go_ret2
  exact ⟨_, rfl, HF.out.1, HF.out.2⟩

set_option maxRecDepth 100000 in
set_option maxHeartbeats 8000000 in
theorem rbin_16 {w : World} {va vb : Value} {n A B : Nat} (hA : LN w va n A) (hB : LN w vb n B) (h1 : 1 ≤ n) (hn : n ≤ 128) : Calls Try.prog 28 #[.int .i64 16, va, vb] w (RetNE w 1 (b2n (cmpB 16 n A B)) 0) := by
  have hni : (n : Int) ≤ 128 := by omega
  have hn0 : ((n : Int) == 0) = false := by simp; omega
  have HN := Lib.hid (And.intro h1 hn)
  obtain ⟨pa, ca, rfl⟩ := hA.form
  obtain ⟨pb, cb, rfl⟩ := hB.form
  have hmk := fun w => mk_bools n (by omega) w
  have hbl : Below w.heap.size w (w.alloc (.cells (bools (List.replicate n false)).toArray 4)) := Below.new _ _
  have HA := Lib.hid (hA.below hbl)
  have HB := Lib.hid (hB.below hbl)
  have HW := Lib.hid hbl
  obtain ⟨S, hS⟩ : ∃ S, min B n = S := ⟨_, rfl⟩
  have HNum := Lib.hid (nnum (n := n) (hB.below hbl) hn hn)
  rw [hS] at HNum
  have HS := Lib.hid hS
  have hSi : (S : Int) ≤ 128 := by omega
  have hSn : IntKind.i64.wrap (-(S : Int)) = -(S : Int) := IntWalk.i64_in _ (by omega)
  obtain ⟨q, hq⟩ : ∃ q, decide (B < A) = q := ⟨_, rfl⟩
  have HQ := Lib.hid hq
  have HC : Hid (cmpB 16 n A B = !q) := Lib.hid (by rw [← hq]; rfl)
  rw [HC.out]
  clear hA hB h1 hn hbl hS hq HC
  go_enter Try.func28, Try.ntmps28
  go_wp2_with fail
  generalize w.alloc (.cells (bools (List.replicate n false)).toArray 4) = W at *
  refine HNum.out.mono ?_; rintro e w' ⟨rfl, rfl⟩
  clear hmk
  go_wp2_with fail
  have hc := nless HB.out HA.out (by have := HN.out; omega)
  rw [HQ.out] at hc
  refine hc.mono ?_; rintro e w3 ⟨rfl, hb3⟩
  have HW3 := Lib.hid (HW.out.trans (hb3.mono HW.out.size))
  clear hb3 hc
  go_wp2_with fail
  refine (none_one _ _).mono ?_; rintro e w9 ⟨v9, rfl, h9, hb9⟩
  have HF := Lib.hid (And.intro h9 (HW3.out.trans (hb9.mono HW3.out.size)))
  clear h9 hb9
  go_wp2_with fail
  go_ret2
  exact ⟨_, rfl, HF.out.1, HF.out.2⟩
end Go.Proofs.Ytmimafbedbohiaa
