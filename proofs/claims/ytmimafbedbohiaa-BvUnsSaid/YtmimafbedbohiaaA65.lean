import Derived.Test.YtmimafbedbohiaaA64
import Derived.Test.YtmimafbedbohiaaA57
import Derived.Test.YtmimafbedbohiaaA60
import Derived.Test.YtmimafbedbohiaaB9
import Derived.Test.YtmimafbedbohiaaB11
import Derived.Deep.CutRange
namespace Go.Proofs.Ytmimafbedbohiaa
set_option linter.unusedVariables false
open Go.RowKit

theorem is_n {w : World} {v vl : Value} {n x : Nat} (hV : VR w v n x) (hL : LN w vl n x) : Calls Try.prog 20 #[v, vl] w fun e w' => e = .returned (.bool true) ∧ Below w.heap.size w w' := by
  obtain ⟨f, hL, e⟩ := hL
  exact is_law hV hL e.symm
theorem own_list {w : World} {vl : Value} {n : Nat} {f : Nat → Bool} (hl : RO w vl 1 n (bools (rl n f))) (hn : n ≤ 140) : ∃ N A, N ≤ 128 ∧ Calls Try.prog 27 #[vl] w (RetV w N A) ∧ (n ≤ 128 → N = n ∧ A = ofB f n) ∧ (128 < n → N = 0 ∧ A = 0) := by
  by_cases h : 1 ≤ n ∧ n ≤ 128
  · exact ⟨n, ofB f n, h.2, own_good hl h.1 h.2, fun _ => ⟨rfl, rfl⟩, fun h' => by omega⟩
  · refine ⟨0, 0, by omega, own_bad hl (by omega) (by omega), fun h' => ?_, fun _ => ⟨rfl, rfl⟩⟩
    obtain rfl : n = 0 := by omega
    exact ⟨rfl, rfl⟩
theorem LN.nil (w : World) : LN w (.slice none 0 0) 0 0 := ⟨fun _ => false, ⟨rfl, _, _, rfl, fun j u hj => by simp [rl, bools] at hj⟩, rfl⟩

set_option maxRecDepth 100000 in
set_option maxHeartbeats 16000000 in
theorem uns_law {w : World} {p : Option Addr} {n0 c : Nat} {f : Nat → Bool} (hA : RO w (.slice p n0 c) 1 n0 (bools (rl n0 f))) (hc : n0 ≤ c) (hn0 : n0 ≤ 1000000000000000000) :
    Calls Try.prog 11 #[.slice p n0 c] w fun e w' => e = .returned (.bool true) ∧ Below w.heap.size w w' := by
  have HAw := Lib.hid (awake_any w)
  have HSh := Lib.hid (fun w' (hb : Below w.heap.size w w') => short_any (hA.below hb) hc hn0)
  obtain ⟨n, hn⟩ : ∃ n, min n0 140 = n := ⟨_, rfl⟩
  have HA0 : Hid (RO w (.slice p n c) 1 n (bools (rl n f))) := Lib.hid (hA.short (by omega))
  rw [hn] at HSh
  have hn1 : n ≤ 140 := by omega
  have hni : (n : Int) ≤ 140 := by omega
  have HNM := Lib.hid hn1
  clear hA hc hn0 hn hn1
  go_enter Try.func11, Try.ntmps11
  go_wp2_with fail
  refine HAw.out.mono ?_; rintro e w1 ⟨rfl, hb1⟩
  have HB1 := Lib.hid hb1
  clear hb1
  go_wp2_with fail
  refine (HSh.out _ HB1.out).mono ?_; rintro e w1' ⟨rfl, rfl⟩
  obtain ⟨N, A, hN, hOA, hA1, hA2⟩ := own_list (HA0.out.below HB1.out) HNM.out
  have HOA := Lib.hid (And.intro hN (And.intro hA1 hA2))
  have HOAc := Lib.hid hOA
  clear hN hOA hA1 hA2
  go_wp2_with fail
  refine HOAc.out.mono ?_; rintro e w2 ⟨vx, rfl, hvx, hb2, _⟩
  obtain ⟨px, cx, rfl, _⟩ := hvx.ex
  have HB2 := Lib.hid (HB1.out.trans (hb2.mono HB1.out.size))
  have HBn := Lib.hid (Below.new w2 (.cells #[.int .i64 N, .slice px (wcount N) cx] 26))
  have HT3 := Lib.hid (((Tr.nil w).below HB2.out).lay 26 [.int .i64 N, .slice px (wcount N) cx])
  have HV3 := Lib.hid (hvx.below HBn.out)
  have HL3 := Lib.hid ((HA0.out.below HB2.out).below HBn.out)
  clear hvx hb2 HOAc HA0 HSh HAw HBn
  go_upto_if 17 with fail
  generalize w2.alloc (.cells #[Value.int .i64 N, .slice px (wcount N) cx] 26) = W3 at *
  go_cut [0] from 9 (fun v0 wx => wx = W3 ∧ ∃ pa ca, v0 = .slice pa N ca ∧ LN W3 (.slice pa N ca) N A)
  case first =>
    by_cases h : 128 < n
    · have hi : (128 : Int) < n := by omega
      go_wp2_with fail
      go_meet
      obtain ⟨rfl, rfl⟩ := HOA.out.2.2 h
      exact ⟨rfl, _, _, rfl, LN.nil _⟩
    · have hi : (n : Int) ≤ 128 := by omega
      go_wp2_with fail
      go_meet
      obtain ⟨rfl, rfl⟩ := HOA.out.2.1 (by omega)
      exact ⟨rfl, _, _, rfl, LN.of HL3.out⟩
  case rest =>
    obtain ⟨rfl, pa, ca, rfl, hLA⟩ := hcut
    have HLA := Lib.hid hLA
    have HNN := Lib.hid HOA.out.1
    clear hLA HL3 HOA HNM
    go_wp2_with fail
    go_loopw [4] (fun iv wr => ∃ k : Int, -1 ≤ k ∧ k ≤ 7 ∧ iv = .int .i64 k ∧ Tr w [(w2.heap.size, 26, [.int .i64 N, .slice px (wcount N) cx])] wr ∧ VR wr (.agg #[.int .i64 N, .slice px (wcount N) cx]) N A ∧ LN wr (.slice pa N ca) N A) (fun iv _ => (7 - intOf iv).toNat)
    case atStart => exact ⟨-1, by omega, by omega, rfl, HT3.out, HV3.out, HLA.out⟩
    case round =>
      obtain ⟨k, hk0, hk1, rfl, hT, hx, ha⟩ := hrel
      have HTz0 := Lib.hid hT
      have Vzx0 := Lib.hid hx
      have Vza0 := Lib.hid ha
      clear hT hx ha HT3 HV3 HLA
      by_cases hlt : k ≤ 6
      · obtain ⟨Q, X, err, hC1, hC2⟩ := un_both (A := A) HNN.out k
        have HC := Lib.hid (And.intro hC1 hC2)
        have HK := Lib.hid (And.intro hk0 hlt)
        have hwk : IntKind.i64.wrap (k + 1) = k + 1 := IntWalk.i64_in _ (by omega)
        clear hC1 hC2
        have q0a := (HTz0.out.pr 0 rfl).1
        have q0b := (HTz0.out.pr 0 rfl).2
        go_wp2_with fail
        refine (HC.out.1 _ _ Vzx0.out).mono ?_; rintro e wz1 ⟨vz1, rfl, hvz1, hbz1, _⟩
        obtain ⟨pz1, cz1, rfl, _⟩ := hvz1.ex
        have HBnz1 := Lib.hid (Below.new wz1 (.cells #[.int .i64 Q, .slice pz1 (wcount Q) cz1] 26))
        have Vzx1 := Lib.hid ((Vzx0.out.below hbz1).below HBnz1.out)
        have Vza1 := Lib.hid ((Vza0.out.below hbz1).below HBnz1.out)
        have HTz1 := Lib.hid ((HTz0.out.below hbz1).lay 26 [.int .i64 Q, .slice pz1 (wcount Q) cz1])
        have Vzv1 := Lib.hid (hvz1.below HBnz1.out)
        clear hvz1 hbz1 HTz0 Vzx0 Vza0
        clear q0a q0b
        go_wp2_with fail
        generalize wz1.alloc (.cells #[Value.int .i64 Q, .slice pz1 (wcount Q) cz1] 26) = Wz1 at *
        refine (HC.out.2 _ _ Vza1.out).mono ?_; rintro e wz2 ⟨vz2, rfl, hvz2, hbz2⟩
        obtain ⟨pz2, cz2, rfl⟩ := hvz2.form
        have Vzx2 := Lib.hid (Vzx1.out.below hbz2)
        have Vza2 := Lib.hid (Vza1.out.below hbz2)
        have Vzv2 := Lib.hid (Vzv1.out.below hbz2)
        have HTz2 := Lib.hid (HTz1.out.below hbz2)
        have Vzl2 := Lib.hid hvz2
        clear hvz2 hbz2 HTz1 Vzx1 Vza1 Vzv1
        have q0a := (HTz2.out.pr 0 rfl).1
        have q0b := (HTz2.out.pr 0 rfl).2
        go_wp2_with fail
        refine (is_n Vzv2.out Vzl2.out).mono ?_; rintro e wz3 ⟨rfl, hbz3⟩
        have Vzx3 := Lib.hid (Vzx2.out.below hbz3)
        have Vza3 := Lib.hid (Vza2.out.below hbz3)
        have Vzv3 := Lib.hid (Vzv2.out.below hbz3)
        have Vzl3 := Lib.hid (Vzl2.out.below hbz3)
        have HTz3 := Lib.hid (HTz2.out.below hbz3)
        clear hbz3 HTz2 Vzx2 Vza2 Vzv2 Vzl2
        clear q0a q0b
        have q0a := (HTz3.out.pr 1 rfl).1
        have q0b := (HTz3.out.pr 1 rfl).2
        go_wp2_with fail
        refine (is_n Vzx3.out Vza3.out).mono ?_; rintro e wz4 ⟨rfl, hbz4⟩
        have Vzx4 := Lib.hid (Vzx3.out.below hbz4)
        have Vza4 := Lib.hid (Vza3.out.below hbz4)
        have Vzv4 := Lib.hid (Vzv3.out.below hbz4)
        have Vzl4 := Lib.hid (Vzl3.out.below hbz4)
        have HTz4 := Lib.hid (HTz3.out.below hbz4)
        clear hbz4 HTz3 Vzx3 Vza3 Vzv3 Vzl3
        clear q0a q0b
        go_wp2_with fail
        go_roundw
        case rel => exact ⟨k + 1, by have := HK.out; omega, by have := HK.out; omega, by first | rfl | go_num | (rw [hwk]), HTz4.out.subs (by simp) (by simp), Vzx4.out, Vza4.out⟩
        case measure => have := HK.out; simp [intOf]; omega
      · have hgt : (6 : Int) < k := by omega
        clear hlt
        go_wp2_with fail
        go_ret
        exact ⟨rfl, HTz0.out.bel⟩
end Go.Proofs.Ytmimafbedbohiaa
