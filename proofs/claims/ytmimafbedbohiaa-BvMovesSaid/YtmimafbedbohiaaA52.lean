import Derived.Test.YtmimafbedbohiaaA48
import Derived.Test.YtmimafbedbohiaaA45
import Derived.Test.YtmimafbedbohiaaA51
import Derived.Test.YtmimafbedbohiaaP7
import Derived.Test.YtmimafbedbohiaaA49
import Derived.Deep.CutRange
namespace Go.Proofs.Ytmimafbedbohiaa
set_option linter.unusedVariables false
open Go.RowKit

set_option maxRecDepth 100000 in
set_option maxHeartbeats 16000000 in
theorem moves_law {w : World} {p : Option Addr} {n0 c : Nat} {f : Nat → Bool} (hA : RO w (.slice p n0 c) 1 n0 (bools (rl n0 f))) (hc : n0 ≤ c) (hn0 : n0 ≤ 1000000000000000000) (s : Int) (hs : -9223372036854775808 ≤ s ∧ s ≤ 9223372036854775807) :
    Calls Try.prog 12 #[.slice p n0 c, .int .i64 s] w fun e w' => e = .returned (.bool true) ∧ Below w.heap.size w w' := by
  have HAw := Lib.hid (awake_any w)
  have HSh := Lib.hid (fun w' (hb : Below w.heap.size w w') => short_any (hA.below hb) hc hn0)
  obtain ⟨n, hn⟩ : ∃ n, min n0 140 = n := ⟨_, rfl⟩
  have HA0 : Hid (RO w (.slice p n c) 1 n (bools (rl n f))) := Lib.hid (hA.short (by omega))
  rw [hn] at HSh
  have hn1 : n ≤ 140 := by omega
  have hni : (n : Int) ≤ 140 := by omega
  clear hA hc hn0 hn
  go_enter Try.func12, Try.ntmps12
  go_wp2_with fail
  refine HAw.out.mono ?_; rintro e w1 ⟨rfl, hb1⟩
  have HB1 := Lib.hid hb1
  clear hb1
  go_wp2_with fail
  refine (HSh.out _ HB1.out).mono ?_; rintro e w1' ⟨rfl, rfl⟩
  by_cases h0 : n = 0
  · subst h0
    go_wp2_with fail
    go_ret
    exact ⟨rfl, HB1.out⟩
  by_cases h1 : 128 < n
  · have hd : ((n : Int) == 0) = false := by simp; omega
    have hi : (128 : Int) < n := by omega
    clear h0 h1
    go_wp2_with fail
    go_ret
    exact ⟨rfl, HB1.out⟩
  have hd : ((n : Int) == 0) = false := by simp; omega
  have hi : (n : Int) ≤ 128 := by omega
  have HN := Lib.hid (And.intro (show 1 ≤ n by omega) (show n ≤ 128 by omega))
  have HA : Hid (RO w1 (.slice p n c) 1 n (bools (rl n f))) := Lib.hid (HA0.out.below HB1.out)
  clear h0 h1 hn1 hni
  go_wp2_with fail
  refine (own_good HA.out HN.out.1 HN.out.2).mono ?_; rintro e w2 ⟨vx, rfl, hvx, hb2, _⟩
  obtain ⟨px, cx, rfl, _⟩ := hvx.ex
  have HT2 := Lib.hid ((((Tr.nil w).below HB1.out).below hb2).lay 26 [.int .i64 n, .slice px (wcount n) cx])
  have VX := Lib.hid (hvx.below (Below.new w2 (.cells #[.int .i64 n, .slice px (wcount n) cx] 26)))
  clear hvx hb2
  go_upto_region 8 with fail
  go_cut [7] from 26 (fun v7 wx => ∃ k : Nat, v7 = .int .i64 k ∧ k ≤ n ∧ wx = w2.alloc (.cells #[.int .i64 n, .slice px (wcount n) cx] 26))
  case first =>
    have HNI := Lib.hid (show (1 : Int) ≤ n by have := HN.out.1; omega)
    by_cases hs0 : s ≤ 0
    · have hm : (if (n : Int) < s then (n : Int) else s) ≤ 0 := by have := HNI.out; split <;> omega
      go_wp2_with fail
      all_goals first
        | (go_meet; exact ⟨0, rfl, Nat.zero_le _, rfl⟩)
        | (exfalso; omega)
    · by_cases hs1 : s ≤ n
      · have hm : 0 < (if (n : Int) < s then (n : Int) else s) := by split <;> omega
        obtain ⟨k, rfl⟩ : ∃ k : Nat, s = k := ⟨s.toNat, by omega⟩
        go_wp2_with fail
        all_goals first
          | (go_meet; exact ⟨k, rfl, by omega, rfl⟩)
          | (exfalso; omega)
      · have hm : 0 < (if (n : Int) < s then (n : Int) else s) := by have := HNI.out; split <;> omega
        have hs2 : (n : Int) < s := by omega
        go_wp2_with fail
        all_goals first
          | (go_meet; exact ⟨n, rfl, Nat.le_refl _, rfl⟩)
          | (exfalso; omega)
  case rest =>
    obtain ⟨k, rfl, hkn, rfl⟩ := hcut
    go_upto_if 47 with fail
    go_cut [7] from 26 (fun v7 wx => ∃ k : Nat, v7 = .int .i64 k ∧ k ≤ n ∧ k < 2 ^ n ∧ wx = w2.alloc (.cells #[.int .i64 n, .slice px (wcount n) cx] 26))
    case first =>
      by_cases h8 : n < 8
      · have h8i : (n : Int) < 8 := by omega
        have hn0i : (0 : Int) ≤ n := by omega
        obtain ⟨Q, hQ⟩ : ∃ Q, 2 ^ n = Q := ⟨_, rfl⟩
        have hQ128 : Q ≤ 128 := by rw [← hQ]; exact (Nat.pow_le_pow_right (by decide) (by omega) : 2 ^ n ≤ 2 ^ 7)
        have hQ1 : n < Q := by rw [← hQ]; exact Nat.lt_two_pow_self
        have h2 : ((2 : Int) ^ n) = (Q : Int) := by rw [← hQ]; simp
        have w3 : IntKind.i64.wrap ((2 : Int) ^ n) = (Q : Int) := by rw [h2]; exact IntWalk.i64_in _ (by omega)
        have w4 : IntKind.i64.wrap ((Q : Int) - 1) = (Q : Int) - 1 := IntWalk.i64_in _ (by omega)
        by_cases hlt : (Q : Int) - 1 < k
        · clear h2
          go_wp2_with fail
          all_goals first
            | (go_meet; exact ⟨Q - 1, by congr 1; omega, by omega, by omega, rfl⟩)
            | (exfalso; omega)
        · have hle : (k : Int) ≤ (Q : Int) - 1 := by omega
          clear h2 hlt
          go_wp2_with fail
          all_goals first
            | (go_meet; exact ⟨k, rfl, by omega, by omega, rfl⟩)
            | (exfalso; omega)
      · have h8i : (8 : Int) ≤ n := by omega
        have hp : k < 2 ^ n := Nat.lt_of_le_of_lt hkn Nat.lt_two_pow_self
        go_wp2_with fail
        go_meet
        exact ⟨k, rfl, hkn, hp, rfl⟩
    case rest =>
      obtain ⟨k, rfl, hkn, hkp, rfl⟩ := hcut
      have hkw : IntKind.u64.wrap (k : Int) = (k : Int) := by rw [IntKind.wrap_u64]; have := HN.out.2; omega
      have HNew : Hid (∀ (w' : World) (q : Nat), w'.heap.size = q → Calls Try.prog 14 #[.int .i64 n, .slice (some ⟨q, 0, none⟩) 1 1] (w'.alloc (.cells #[.int .u64 k] 22)) (RetE (w'.alloc (.cells #[.int .u64 k] 22)) n k 0)) := Lib.hid fun w' q hq => by
        subst hq
        have := new_good (w := w'.alloc (.cells (natsV [k]).toArray 22)) (l := [k]) n HN.out.1 HN.out.2 _ (RO.lits (Blk.new 22 (natsV [k]))) (by have := HN.out.2; simp; omega)
        simp only [valW, Nat.mul_zero, Nat.add_zero] at this
        rwa [Nat.mod_eq_of_lt hkp] at this
      have HK := Lib.hid (And.intro hkn hkp)
      clear hkp hs
      go_wp2_with fail
      refine (HNew.out _ _ (by simp)).mono ?_; rintro e w3 ⟨vk, rfl, hvk, hb3, _⟩
      obtain ⟨pk, ck, rfl, _⟩ := hvk.ex
      have HB3 := Lib.hid (Below.then (Below.new _ _) hb3 (Nat.le_refl _))
      have HBn := Lib.hid (Below.new w3 (.cells #[.int .i64 n, .slice pk (wcount n) ck] 26))
      have HT3 := Lib.hid ((HT2.out.below HB3.out).lay 26 [.int .i64 n, .slice pk (wcount n) ck])
      have VX3 := Lib.hid ((VX.out.below HB3.out).below HBn.out)
      have VK3 := Lib.hid (hvk.below HBn.out)
      have t0 := (HT3.out.pr 1 rfl).1
      have t1 := (HT3.out.pr 1 rfl).2
      clear hvk hb3
      go_wp2_with fail
      generalize w3.alloc (.cells #[Value.int .i64 n, .slice pk (wcount n) ck] 26) = W3 at *
      refine (bin_10 VX3.out VK3.out HN.out.1).mono ?_; rintro e w4 ⟨vu, rfl, hvu, hb4, _⟩
      obtain ⟨pu, cu, rfl, _⟩ := hvu.ex
      have HBn := Lib.hid (Below.new w4 (.cells #[.int .i64 n, .slice pu (wcount n) cu] 26))
      have HT4 := Lib.hid ((HT3.out.below hb4).lay 26 [.int .i64 n, .slice pu (wcount n) cu])
      have VX4 := Lib.hid ((VX3.out.below hb4).below HBn.out)
      have VK4 := Lib.hid ((VK3.out.below hb4).below HBn.out)
      have VU4 := Lib.hid (hvu.below HBn.out)
      have t0 := (HT4.out.pr 1 rfl).1
      have t1 := (HT4.out.pr 1 rfl).2
      clear hvu hb4
      go_wp2_with fail
      generalize w4.alloc (.cells #[Value.int .i64 n, .slice pu (wcount n) cu] 26) = W4 at *
      refine (bin_11 VU4.out VK4.out HN.out.1).mono ?_; rintro e w5 ⟨vb, rfl, hvb, hb5, _⟩
      obtain ⟨pb, cb, rfl, _⟩ := hvb.ex
      have HBn := Lib.hid (Below.new w5 (.cells #[.int .i64 n, .slice pb (wcount n) cb] 26))
      have HT5 := Lib.hid ((HT4.out.below hb5).lay 26 [.int .i64 n, .slice pb (wcount n) cb])
      have VX5 := Lib.hid ((VX4.out.below hb5).below HBn.out)
      have VK5 := Lib.hid ((VK4.out.below hb5).below HBn.out)
      have VB5 := Lib.hid (hvb.below HBn.out)
      have t0 := (HT5.out.pr 3 rfl).1
      have t1 := (HT5.out.pr 3 rfl).2
      have hwk : IntKind.i64.wrap ((n : Int) - (k : Int)) = (n : Int) - (k : Int) := IntWalk.i64_in _ (by have := HN.out; omega)
      clear hvb hb5 VU4 VX4 VK4 VX3 VK3 HT3 HT4 HNew
      go_upto_region 14 with fail
      generalize w5.alloc (.cells #[Value.int .i64 n, .slice pb (wcount n) cb] 26) = W5 at *
      go_cut [14, 15] from 26 (fun v14 v15 wx => ∃ M pl cl L, v14 = .pointer (some ⟨L, 0, none⟩) ∧ v15 = .int .i64 0 ∧ Below W5.heap.size W5 wx ∧ Blk wx L 26 [.int .i64 ((M : Nat) : Int), .slice pl (wcount M) cl] ∧ W5.heap.size ≤ L ∧ VR wx (.agg #[.int .i64 ((M : Nat) : Int), .slice pl (wcount M) cl]) M (ofB (sliceF (ofB f n) 0) M) ∧ 1 ≤ M ∧ M ≤ n ∧ (k < n → M = n - k))
      case first =>
        have hkn2 := HK.out.1
        by_cases hm : (n : Int) - (k : Int) ≤ 1
        · have HSl := Lib.hid (slice_good VX5.out 0 1 (by decide) (by have := HN.out.1; omega))
          go_wp2_with fail
          all_goals first
            | (refine HSl.out.mono ?_; rintro e w6 ⟨vl, rfl, hvl, hb6, _⟩)
            | (exfalso; omega)
          obtain ⟨pl, cl, rfl, _⟩ := hvl.ex
          have HL := Lib.hid (And.intro hvl hb6)
          clear hvl hb6
          go_wp2_with fail
          go_meet
          exact ⟨1, pl, cl, _, rfl, rfl, HL.out.2.alloc HL.out.2.size _, Blk.new 26 [.int .i64 1, .slice pl (wcount 1) cl], HL.out.2.size, HL.out.1.below (Below.new _ _), Nat.le_refl _, HN.out.1, by omega⟩
        · have hm2 : (1 : Int) < (n : Int) - (k : Int) := by omega
          have HSl := slice_good VX5.out 0 (n - k) (by omega) (by omega)
          rw [show (((n - k : Nat) : Nat) : Int) = (n : Int) - (k : Int) by omega] at HSl
          have HSl := Lib.hid HSl
          go_wp2_with fail
          all_goals first
            | (refine HSl.out.mono ?_; rintro e w6 ⟨vl, rfl, hvl, hb6, _⟩)
            | (exfalso; omega)
          obtain ⟨pl, cl, rfl, _⟩ := hvl.ex
          have HL := Lib.hid (And.intro hvl hb6)
          clear hvl hb6
          go_wp2_with fail
          go_meet
          exact ⟨n - k, pl, cl, _, rfl, rfl, HL.out.2.alloc HL.out.2.size _, Blk.new 26 [.int .i64 ((n - k : Nat) : Int), .slice pl (wcount (n - k)) cl], HL.out.2.size, HL.out.1.below (Below.new _ _), by omega, by omega, fun _ => rfl⟩
      case rest =>
        obtain ⟨M, pl, cl, L, rfl, rfl, hbl, hkl, hgl, hvl, hM1, hM2, hMk⟩ := hcut
        have HT6 := Lib.hid (HT5.out.cons hbl hkl hgl)
        have VX6 := Lib.hid (VX5.out.below hbl)
        have VK6 := Lib.hid (VK5.out.below hbl)
        have VB6 := Lib.hid (VB5.out.below hbl)
        have HExt := Lib.hid (ext_good hvl n false HN.out.1 HN.out.2 hM1)
        have HMk := Lib.hid (And.intro hM2 hMk)
        have t0 := (HT6.out.pr 0 rfl).1
        have t1 := (HT6.out.pr 0 rfl).2
        clear hbl hkl hgl hvl hM1 hM2 hMk
        go_wp2_with fail
        refine HExt.out.mono ?_; rintro e w7 ⟨vw, rfl, hvw, hb7, _⟩
        obtain ⟨pw, cw, rfl, _⟩ := hvw.ex
        have HBn := Lib.hid (Below.new w7 (.cells #[.int .i64 n, .slice pw (wcount n) cw] 26))
        have HT7 := Lib.hid ((HT6.out.below hb7).lay 26 [.int .i64 n, .slice pw (wcount n) cw])
        have NX := Lib.hid (VR.new_ne (VX6.out.below hb7) HN.out.1)
        have NK := Lib.hid (VR.new_ne (VK6.out.below hb7) HN.out.1)
        have NB := Lib.hid (VR.new_ne (VB6.out.below hb7) HN.out.1)
        have VX7 := Lib.hid ((VX6.out.below hb7).below HBn.out)
        have VK7 := Lib.hid ((VK6.out.below hb7).below HBn.out)
        have VB7 := Lib.hid ((VB6.out.below hb7).below HBn.out)
        have VW7 := Lib.hid (hvw.below HBn.out)
        clear hvw hb7 t0 t1
        go_upto_if 90 with fail
        generalize w7.alloc (.cells #[Value.int .i64 n, .slice pw (wcount n) cw] 26) = W7 at *
        generalize w7.heap.size = L16 at *
        go_cut [17] from 26 (fun v17 wx => v17 = .int .i64 0 ∧ ∃ pw cw, Tr w [(L16, 26, [.int .i64 n, .slice pw (wcount n) cw]), (L, 26, [.int .i64 ((M : Nat) : Int), .slice pl (wcount M) cl]), (w5.heap.size, 26, [.int .i64 n, .slice pb (wcount n) cb]), (w4.heap.size, 26, [.int .i64 n, .slice pu (wcount n) cu]), (w3.heap.size, 26, [.int .i64 n, .slice pk (wcount n) ck]), (w2.heap.size, 26, [.int .i64 n, .slice px (wcount n) cx])] wx ∧ VR wx (.agg #[.int .i64 n, .slice pw (wcount n) cw]) n (shiftN 11 n (shiftN 10 n (ofB f n) k) k) ∧ VR wx (.agg #[.int .i64 n, .slice px (wcount n) cx]) n (ofB f n) ∧ VR wx (.agg #[.int .i64 n, .slice pk (wcount n) ck]) n k ∧ VR wx (.agg #[.int .i64 n, .slice pb (wcount n) cb]) n (shiftN 11 n (shiftN 10 n (ofB f n) k) k))
        case first =>
          by_cases hkn2 : k = n
          · have hd1 : ((k : Int) == (n : Int)) = true := by simp [hkn2]
            have HNil := Lib.hid (new_good (w := W7) (l := []) n HN.out.1 HN.out.2 (.slice none 0 0) ⟨rfl, _, _, rfl, fun j u hj => by simp [natsV] at hj⟩ (by simp))
            have hL16 := (HT7.out.at 0 rfl).lt
            have HKN := Lib.hid hkn2
            clear hkn2
            have HL16 := Lib.hid hL16
            clear hL16
            go_wp2_with fail
            refine HNil.out.mono ?_; rintro e w8 ⟨vz, rfl, hvz, hb8, hfz⟩
            obtain ⟨pz, cz, rfl, _⟩ := hvz.ex
            have NZ := Lib.hid (Far.ne hfz HL16.out)
            have HT8 := Lib.hid (HT7.out.below hb8)
            have V8 := Lib.hid (And.intro hvz (And.intro (VX7.out.below hb8) (And.intro (VK7.out.below hb8) (VB7.out.below hb8))))
            have r0 := (HT8.out.pr 0 rfl).1
            have r1 := (HT8.out.pr 0 rfl).2
            have f0 := (HT8.out.at 0 rfl).frz 0
            have f1 := (HT8.out.at 0 rfl).frz 1
            clear hvz hb8 hfz
            go_wp2_with fail
            go_meet
            have hz := V8.out.1.set2 (x1 := .int .i64 n) (y1 := .slice pz (wcount n) cz) NZ.out
            rw [show valW [] % 2 ^ n = (shiftN 11 n (shiftN 10 n (ofB f n) k) k) by rw [HKN.out, moves_all]; exact Nat.zero_mod _] at hz
            exact ⟨rfl, pz, cz, HT8.out.two 0 (x := .int .i64 n) (y := .slice pz (wcount n) cz) rfl, hz, V8.out.2.1.set2 NX.out, V8.out.2.2.1.set2 NK.out, V8.out.2.2.2.set2 NB.out⟩
          · have hd1 : ((k : Int) == (n : Int)) = false := by simp; omega
            go_wp2_with fail
            go_meet
            have hlt : k < n := by have := HK.out.1; omega
            have hw := VW7.out
            rw [HMk.out.2 hlt, ← moves_back hlt] at hw
            exact ⟨rfl, pw, cw, HT7.out, hw, VX7.out, VK7.out, VB7.out⟩
        case rest =>
          obtain ⟨rfl, pw, cw, hT, hvw, hvx, hvk, hvb⟩ := hcut
          have HT9 := Lib.hid hT
          have V9 := Lib.hid (And.intro hvx (And.intro hvk (And.intro hvb hvw)))
          have t0 := (hT.pr 5 rfl).1
          have t1 := (hT.pr 5 rfl).2
          have u0 := (hT.pr 4 rfl).1
          have u1 := (hT.pr 4 rfl).2
          clear hT hvw hvx hvk hvb HT2 VX HT5 VX5 VK5 VB5 HT6 VX6 VK6 VB6 HExt HT7 NX NK NB VX7 VK7 VB7 VW7
          go_wp2_with fail
          refine (bin_12 V9.out.1 V9.out.2.1 HN.out.1).mono ?_; rintro e w10 ⟨vd, rfl, hvd, hb10, _⟩
          obtain ⟨pd, cd, rfl, _⟩ := hvd.ex
          have HBn := Lib.hid (Below.new w10 (.cells #[.int .i64 n, .slice pd (wcount n) cd] 26))
          have HT10 := Lib.hid ((HT9.out.below hb10).lay 26 [.int .i64 n, .slice pd (wcount n) cd])
          have V10 := Lib.hid (And.intro ((V9.out.1.below hb10).below HBn.out) (And.intro ((V9.out.2.1.below hb10).below HBn.out) (And.intro ((V9.out.2.2.1.below hb10).below HBn.out) (And.intro ((V9.out.2.2.2.below hb10).below HBn.out) (hvd.below HBn.out)))))
          have t0 := (HT10.out.pr 6 rfl).1
          have t1 := (HT10.out.pr 6 rfl).2
          clear hvd hb10 u0 u1
          go_wp2_with fail
          generalize w10.alloc (.cells #[Value.int .i64 n, .slice pd (wcount n) cd] 26) = W10 at *
          refine (un_0 V10.out.1 HN.out.1).mono ?_; rintro e w11 ⟨vt, rfl, hvt, hb11, _⟩
          obtain ⟨pt, ct, rfl, _⟩ := hvt.ex
          have HBn := Lib.hid (Below.new w11 (.cells #[.int .i64 n, .slice pt (wcount n) ct] 26))
          have HT11 := Lib.hid ((HT10.out.below hb11).lay 26 [.int .i64 n, .slice pt (wcount n) ct])
          have V11 := Lib.hid (And.intro (hvt.below HBn.out) (And.intro ((V10.out.2.1.below hb11).below HBn.out) (And.intro ((V10.out.2.2.1.below hb11).below HBn.out) (And.intro ((V10.out.2.2.2.1.below hb11).below HBn.out) ((V10.out.2.2.2.2.below hb11).below HBn.out)))))
          have t0 := (HT11.out.pr 6 rfl).1
          have t1 := (HT11.out.pr 6 rfl).2
          clear hvt hb11
          go_wp2_with fail
          generalize w11.alloc (.cells #[Value.int .i64 n, .slice pt (wcount n) ct] 26) = W11 at *
          refine (bin_12 V11.out.1 V11.out.2.1 HN.out.1).mono ?_; rintro e w12 ⟨vo, rfl, hvo, hb12, _⟩
          obtain ⟨po, co, rfl, _⟩ := hvo.ex
          have HBn := Lib.hid (Below.new w12 (.cells #[.int .i64 n, .slice po (wcount n) co] 26))
          have HT12 := Lib.hid ((HT11.out.below hb12).lay 26 [.int .i64 n, .slice po (wcount n) co])
          have V12 := Lib.hid (And.intro (hvo.below HBn.out) (And.intro ((V11.out.2.2.1.below hb12).below HBn.out) (And.intro ((V11.out.2.2.2.1.below hb12).below HBn.out) ((V11.out.2.2.2.2.below hb12).below HBn.out))))
          clear hvo hb12 t0 t1
          go_wp2_with fail
          generalize w12.alloc (.cells #[Value.int .i64 n, .slice po (wcount n) co] 26) = W12 at *
          refine (un_0 V12.out.1 HN.out.1).mono ?_; rintro e w13 ⟨vs, rfl, hvs, hb13, _⟩
          obtain ⟨ps, cs, rfl, _⟩ := hvs.ex
          have HBn := Lib.hid (Below.new w13 (.cells #[.int .i64 n, .slice ps (wcount n) cs] 26))
          have HT13 := Lib.hid ((HT12.out.below hb13).lay 26 [.int .i64 n, .slice ps (wcount n) cs])
          have V13 := Lib.hid (And.intro (hvs.below HBn.out) (And.intro ((V12.out.2.1.below hb13).below HBn.out) (And.intro ((V12.out.2.2.1.below hb13).below HBn.out) ((V12.out.2.2.2.below hb13).below HBn.out))))
          have t0 := (HT13.out.pr 6 rfl).1
          have t1 := (HT13.out.pr 6 rfl).2
          have u0 := (HT13.out.pr 4 rfl).1
          have u1 := (HT13.out.pr 4 rfl).2
          clear hvs hb13
          go_wp2_with fail
          generalize w13.alloc (.cells #[Value.int .i64 n, .slice ps (wcount n) cs] 26) = W13 at *
          have HE1 := equal_any V13.out.2.1 V13.out.2.2.1
          rw [show decide (n = n ∧ shiftN 11 n (shiftN 10 n (ofB f n) k) k = shiftN 11 n (shiftN 10 n (ofB f n) k) k) = true by simp] at HE1
          refine HE1.mono ?_; rintro e w14 ⟨rfl, hb14⟩
          have HT14 := Lib.hid (HT13.out.below hb14)
          have HE2 := equal_any (V13.out.2.2.2.below hb14) (V13.out.1.below hb14)
          rw [show decide (n = n ∧ shiftN 12 n (ofB f n) k = notN n (shiftN 12 n (notN n (ofB f n)) k)) = true by rw [moves_sar HN.out.1 (ofB_lt f n)]; simp] at HE2
          have HE2 := Lib.hid HE2
          have t0 := (HT14.out.pr 3 rfl).1
          have t1 := (HT14.out.pr 3 rfl).2
          have u0 := (HT14.out.pr 0 rfl).1
          have u1 := (HT14.out.pr 0 rfl).2
          clear HE1 hb14
          go_wp2_with fail
          refine HE2.out.mono ?_; rintro e w15 ⟨rfl, hb15⟩
          have HT15 := Lib.hid (HT14.out.below hb15)
          clear hb15
          go_wp2_with fail
          go_ret
          exact ⟨rfl, HT15.out.bel⟩
end Go.Proofs.Ytmimafbedbohiaa
