import Derived.Test.YtmimafbedbohiaaR8
import Derived.Test.YtmimafbedbohiaaA57
import Derived.Test.YtmimafbedbohiaaA60
import Derived.Test.YtmimafbedbohiaaB9
import Derived.Test.YtmimafbedbohiaaB10
import Derived.Test.YtmimafbedbohiaaB11
import Derived.Deep.CutRange
namespace Go.Proofs.Ytmimafbedbohiaa
set_option linter.unusedVariables false
open Go.RowKit

theorem is_n {w : World} {v vl : Value} {n x : Nat} (hV : VR w v n x) (hL : LN w vl n x) : Calls Try.prog 20 #[v, vl] w fun e w' => e = .returned (.bool true) ∧ Below w.heap.size w w' := by
  obtain ⟨f, hL, e⟩ := hL
  exact is_law hV hL e.symm
theorem own_list {w : World} {vl : Value} {n : Nat} {f : Nat → Bool} (hl : RO w vl 1 n (bools (rl n f))) (hn : n ≤ 140) : ∃ N A, N ≤ 128 ∧ Calls Try.prog 27 #[vl] w (RetV w N A) ∧ (n ≤ 128 → N = n ∧ A = ofB f n) ∧ (128 < n → N = 0 ∧ A = 0) := by
  by_cases h : 1 ≤ n ∧ n ≤ 128
  · exact ⟨n, ofB f n, h.2, own_good hl h.1 h.2, fun _ => ⟨rfl, rfl⟩, fun h' => by omega⟩
  · refine ⟨0, 0, by omega, own_bad hl (by omega) (by omega), fun h' => ?_, fun _ => ⟨rfl, rfl⟩⟩
    obtain rfl : n = 0 := by omega
    exact ⟨rfl, rfl⟩
theorem LN.nil (w : World) : LN w (.slice none 0 0) 0 0 := ⟨fun _ => false, ⟨rfl, _, _, rfl, fun j u hj => by simp [rl, bools] at hj⟩, rfl⟩
theorem bin_both {n m A B : Nat} (hn : n ≤ 128) (hm : m ≤ 128) (k : Int) : ∃ (N X : Nat) (err : Int),
    (∀ W va vb, VR W va n A → VR W vb m B → Calls Try.prog 15 #[.int .i64 k, va, vb] W (RetX W N X err)) ∧ (∀ W va vb, LN W va n A → LN W vb m B → Calls Try.prog 28 #[.int .i64 k, va, vb] W (RetNE W N X err)) := by
  by_cases h1 : k < 0 ∨ 18 < k
  · exact ⟨0, 0, 1, fun W va vb ha hb => (bin_inval ha hb k h1).mono fun _ _ h => h.x, fun W va vb ha hb => rbin_inval ha hb k h1⟩
  by_cases h2 : n ≠ m ∨ n = 0
  · exact ⟨0, 0, 2, fun W va vb ha hb => (bin_width ha hb k (by omega) h2).mono fun _ _ h => h.x, fun W va vb ha hb => rbin_width ha hb k (by omega) h2⟩
  obtain rfl : n = m := by omega
  have h0 : 1 ≤ n := by omega
  have hk : k = 0 ∨ k = 1 ∨ k = 2 ∨ k = 3 ∨ k = 4 ∨ k = 5 ∨ k = 6 ∨ k = 7 ∨ k = 8 ∨ k = 9 ∨ k = 10 ∨ k = 11 ∨ k = 12 ∨ k = 13 ∨ k = 14 ∨ k = 15 ∨ k = 16 ∨ k = 17 ∨ k = 18 := by omega
  rcases hk with rfl | rfl | rfl | rfl | rfl | rfl | rfl | rfl | rfl | rfl | rfl | rfl | rfl | rfl | rfl | rfl | rfl | rfl | rfl
  · exact ⟨_, _, 0, fun W va vb ha hb => (bin_0 ha hb h0).mono fun _ _ h => h.x, fun W va vb ha hb => rbin_0 ha hb h0 hn⟩
  · exact ⟨_, _, 0, fun W va vb ha hb => (bin_1 ha hb h0).mono fun _ _ h => h.x, fun W va vb ha hb => rbin_1 ha hb h0 hn⟩
  · exact ⟨_, _, 0, fun W va vb ha hb => (bin_2 ha hb h0).mono fun _ _ h => h.x, fun W va vb ha hb => rbin_2 ha hb h0 hn⟩
  · exact ⟨_, _, 0, fun W va vb ha hb => by have h := bin_3 ha hb h0; exact h, fun W va vb ha hb => rbin_3 ha hb h0 hn⟩
  · exact ⟨_, _, 0, fun W va vb ha hb => by have h := bin_4 ha hb h0; exact h, fun W va vb ha hb => rbin_4 ha hb h0 hn⟩
  · exact ⟨_, _, 0, fun W va vb ha hb => by have h := bin_5 ha hb h0; exact h, fun W va vb ha hb => rbin_5 ha hb h0 hn⟩
  · exact ⟨_, _, 0, fun W va vb ha hb => by have h := bin_6 ha hb h0; exact h, fun W va vb ha hb => rbin_6 ha hb h0 hn⟩
  · exact ⟨_, _, 0, fun W va vb ha hb => (bin_7 ha hb h0).mono fun _ _ h => h.x, fun W va vb ha hb => rbin_7 ha hb h0 hn⟩
  · exact ⟨_, _, 0, fun W va vb ha hb => (bin_8 ha hb h0).mono fun _ _ h => h.x, fun W va vb ha hb => rbin_8 ha hb h0 hn⟩
  · exact ⟨_, _, 0, fun W va vb ha hb => (bin_9 ha hb h0).mono fun _ _ h => h.x, fun W va vb ha hb => rbin_9 ha hb h0 hn⟩
  · exact ⟨_, _, 0, fun W va vb ha hb => (bin_10 ha hb h0).mono fun _ _ h => h.x, fun W va vb ha hb => rbin_10 ha hb h0 hn⟩
  · exact ⟨_, _, 0, fun W va vb ha hb => (bin_11 ha hb h0).mono fun _ _ h => h.x, fun W va vb ha hb => rbin_11 ha hb h0 hn⟩
  · exact ⟨_, _, 0, fun W va vb ha hb => (bin_12 ha hb h0).mono fun _ _ h => h.x, fun W va vb ha hb => rbin_12 ha hb h0 hn⟩
  · exact ⟨_, _, 0, fun W va vb ha hb => (bin_13 ha hb h0).mono fun _ _ h => h.x, fun W va vb ha hb => rbin_13 ha hb h0 hn⟩
  · exact ⟨_, _, 0, fun W va vb ha hb => (bin_14 ha hb h0).mono fun _ _ h => h.x, fun W va vb ha hb => rbin_14 ha hb h0 hn⟩
  · exact ⟨_, _, 0, fun W va vb ha hb => (bin_15 ha hb h0).mono fun _ _ h => h.x, fun W va vb ha hb => rbin_15 ha hb h0 hn⟩
  · exact ⟨_, _, 0, fun W va vb ha hb => (bin_16 ha hb h0).mono fun _ _ h => h.x, fun W va vb ha hb => rbin_16 ha hb h0 hn⟩
  · exact ⟨_, _, 0, fun W va vb ha hb => (bin_17 ha hb h0).mono fun _ _ h => h.x, fun W va vb ha hb => rbin_17 ha hb h0 hn⟩
  · exact ⟨_, _, 0, fun W va vb ha hb => (bin_18 ha hb h0).mono fun _ _ h => h.x, fun W va vb ha hb => rbin_18 ha hb h0 hn⟩

set_option maxRecDepth 100000 in
set_option maxHeartbeats 16000000 in
theorem bins_law {w : World} {p p2 : Option Addr} {n0 c m0 c2 : Nat} {f g : Nat → Bool} (hA : RO w (.slice p n0 c) 1 n0 (bools (rl n0 f))) (hc : n0 ≤ c) (hn0 : n0 ≤ 1000000000000000000) (hB : RO w (.slice p2 m0 c2) 1 m0 (bools (rl m0 g))) (hc2 : m0 ≤ c2) (hm0 : m0 ≤ 1000000000000000000) :
    Calls Try.prog 5 #[.slice p n0 c, .slice p2 m0 c2] w fun e w' => e = .returned (.bool true) ∧ Below w.heap.size w w' := by
  have HAw := Lib.hid (awake_any w)
  have HSh := Lib.hid (fun w' (hb : Below w.heap.size w w') => short_any (hA.below hb) hc hn0)
  have HSh2 := Lib.hid (fun w' (hb : Below w.heap.size w w') => short_any (hB.below hb) hc2 hm0)
  obtain ⟨n, hn⟩ : ∃ n, min n0 140 = n := ⟨_, rfl⟩
  obtain ⟨m, hm⟩ : ∃ m, min m0 140 = m := ⟨_, rfl⟩
  have HA0 : Hid (RO w (.slice p n c) 1 n (bools (rl n f))) := Lib.hid (hA.short (by omega))
  have HB0 : Hid (RO w (.slice p2 m c2) 1 m (bools (rl m g))) := Lib.hid (hB.short (by omega))
  rw [hn] at HSh
  rw [hm] at HSh2
  have hn1 : n ≤ 140 := by omega
  have hm1 : m ≤ 140 := by omega
  have hni : (n : Int) ≤ 140 := by omega
  have hmi : (m : Int) ≤ 140 := by omega
  have HNM := Lib.hid (And.intro hn1 hm1)
  clear hA hB hc hc2 hn0 hm0 hn hm hn1 hm1
  go_enter Try.func5, Try.ntmps5
  go_wp2_with fail
  refine HAw.out.mono ?_; rintro e w1 ⟨rfl, hb1⟩
  have HB1 := Lib.hid hb1
  clear hb1
  go_wp2_with fail
  refine (HSh.out _ HB1.out).mono ?_; rintro e w1' ⟨rfl, rfl⟩
  go_wp2_with fail
  refine (HSh2.out _ HB1.out).mono ?_; rintro e w1' ⟨rfl, rfl⟩
  obtain ⟨N, A, hN, hOA, hA1, hA2⟩ := own_list (HA0.out.below HB1.out) HNM.out.1
  have HOA := Lib.hid (And.intro hN (And.intro hA1 hA2))
  have HOAc := Lib.hid hOA
  clear hN hOA hA1 hA2
  go_wp2_with fail
  refine HOAc.out.mono ?_; rintro e w2 ⟨vx, rfl, hvx, hb2, _⟩
  obtain ⟨px, cx, rfl, _⟩ := hvx.ex
  have HB2 := Lib.hid (HB1.out.trans (hb2.mono HB1.out.size))
  have HX2 := Lib.hid hvx
  obtain ⟨M, B, hM, hOB, hB1, hB2⟩ := own_list (HB0.out.below HB2.out) HNM.out.2
  have HOB := Lib.hid (And.intro hM (And.intro hB1 hB2))
  have HOBc := Lib.hid hOB
  clear hvx hb2 hM hOB hB1 hB2 HOAc
  go_wp2_with fail
  refine HOBc.out.mono ?_; rintro e w3 ⟨vy, rfl, hvy, hb3, _⟩
  obtain ⟨py, cy, rfl, _⟩ := hvy.ex
  have HB3 := Lib.hid (HB2.out.trans (hb3.mono HB2.out.size))
  have HT3 := Lib.hid ((((Tr.nil w).below HB3.out).lay 26 [.int .i64 N, .slice px (wcount N) cx]).lay 26 [.int .i64 M, .slice py (wcount M) cy])
  have hbl : Below w3.heap.size w3 ((w3.alloc (.cells [Value.int .i64 N, .slice px (wcount N) cx].toArray 26)).alloc (.cells [Value.int .i64 M, .slice py (wcount M) cy].toArray 26)) := (Below.new _ _).alloc (by simp) _
  have HV3 := Lib.hid (And.intro ((HX2.out.below hb3).below hbl) (hvy.below hbl))
  have HL3 := Lib.hid (And.intro ((HA0.out.below HB3.out).below hbl) ((HB0.out.below HB3.out).below hbl))
  simp only [World.size_alloc] at HT3
  clear hvy hb3 hbl HX2 HOBc HA0 HB0 HSh HSh2 HAw
  go_upto_if 24 with fail
  generalize (w3.alloc (.cells #[Value.int .i64 N, .slice px (wcount N) cx] 26)).alloc (.cells #[Value.int .i64 M, .slice py (wcount M) cy] 26) = W3 at *
  go_cut [0] from 12 (fun v0 wx => wx = W3 ∧ ∃ pa ca, v0 = .slice pa N ca ∧ LN W3 (.slice pa N ca) N A)
  case first =>
    by_cases h : 128 < n
    · have hi : (128 : Int) < n := by omega
      go_wp2_with fail
      go_meet
      obtain ⟨rfl, rfl⟩ := HOA.out.2.2 h
      exact ⟨rfl, _, _, rfl, LN.nil _⟩
    · have hi : (n : Int) ≤ 128 := by omega
      go_wp2_with fail
      go_meet
      obtain ⟨rfl, rfl⟩ := HOA.out.2.1 (by omega)
      exact ⟨rfl, _, _, rfl, LN.of HL3.out.1⟩
  case rest =>
    obtain ⟨rfl, pa, ca, rfl, hLA⟩ := hcut
    have HLA := Lib.hid hLA
    clear hLA
    go_upto_if 27 with fail
    go_cut [1] from 12 (fun v1 wx => wx = wc ∧ ∃ pb cb, v1 = .slice pb M cb ∧ LN wc (.slice pb M cb) M B)
    case first =>
      by_cases h : 128 < m
      · have hi : (128 : Int) < m := by omega
        go_wp2_with fail
        go_meet
        obtain ⟨rfl, rfl⟩ := HOB.out.2.2 h
        exact ⟨rfl, _, _, rfl, LN.nil _⟩
      · have hi : (m : Int) ≤ 128 := by omega
        go_wp2_with fail
        go_meet
        obtain ⟨rfl, rfl⟩ := HOB.out.2.1 (by omega)
        exact ⟨rfl, _, _, rfl, LN.of HL3.out.2⟩
    case rest =>
      obtain ⟨rfl, pb, cb, rfl, hLB⟩ := hcut
      have HLB := Lib.hid hLB
      have HNN := Lib.hid (And.intro HOA.out.1 HOB.out.1)
      clear hLB HL3 HOA HOB HNM
      go_wp2_with fail
      go_loopw [7] (fun iv wr => ∃ k : Int, -1 ≤ k ∧ k ≤ 20 ∧ iv = .int .i64 k ∧ Tr w [(w3.heap.size + 1, 26, [.int .i64 M, .slice py (wcount M) cy]), (w3.heap.size, 26, [.int .i64 N, .slice px (wcount N) cx])] wr ∧ VR wr (.agg #[.int .i64 N, .slice px (wcount N) cx]) N A ∧ VR wr (.agg #[.int .i64 M, .slice py (wcount M) cy]) M B ∧ LN wr (.slice pa N ca) N A ∧ LN wr (.slice pb M cb) M B) (fun iv _ => (20 - intOf iv).toNat)
      case atStart => exact ⟨-1, by omega, by omega, rfl, HT3.out, HV3.out.1, HV3.out.2, HLA.out, HLB.out⟩
      case round =>
        obtain ⟨k, hk0, hk1, rfl, hT, hx, hy, ha, hb⟩ := hrel
        have HTz0 := Lib.hid hT
        have Vzx0 := Lib.hid hx
        have Vzy0 := Lib.hid hy
        have Vza0 := Lib.hid ha
        have Vzb0 := Lib.hid hb
        clear hT hx hy ha hb HT3 HV3 HLA HLB
        by_cases hlt : k ≤ 19
        · obtain ⟨Q, X, err, hC1, hC2⟩ := bin_both (A := A) (B := B) HNN.out.1 HNN.out.2 k
          have HC := Lib.hid (And.intro hC1 hC2)
          have HK := Lib.hid (And.intro hk0 hlt)
          have hwk : IntKind.i64.wrap (k + 1) = k + 1 := IntWalk.i64_in _ (by omega)
          clear hC1 hC2
          have q0a := (HTz0.out.pr 1 rfl).1
          have q0b := (HTz0.out.pr 1 rfl).2
          have q1a := (HTz0.out.pr 0 rfl).1
          have q1b := (HTz0.out.pr 0 rfl).2
          go_wp2_with fail
          refine (HC.out.1 _ _ _ Vzx0.out Vzy0.out).mono ?_; rintro e wz1 ⟨vz1, rfl, hvz1, hbz1⟩
          obtain ⟨pz1, cz1, rfl, _⟩ := hvz1.ex
          have HBnz1 := Lib.hid (Below.new wz1 (.cells #[.int .i64 Q, .slice pz1 (wcount Q) cz1] 26))
          have Vzx1 := Lib.hid ((Vzx0.out.below hbz1).below HBnz1.out)
          have Vzy1 := Lib.hid ((Vzy0.out.below hbz1).below HBnz1.out)
          have Vza1 := Lib.hid ((Vza0.out.below hbz1).below HBnz1.out)
          have Vzb1 := Lib.hid ((Vzb0.out.below hbz1).below HBnz1.out)
          have HTz1 := Lib.hid ((HTz0.out.below hbz1).lay 26 [.int .i64 Q, .slice pz1 (wcount Q) cz1])
          have Vzv1 := Lib.hid (hvz1.below HBnz1.out)
          clear hvz1 hbz1 HTz0 Vzx0 Vzy0 Vza0 Vzb0
          clear q0a q0b q1a q1b
          go_wp2_with fail
          generalize wz1.alloc (.cells #[Value.int .i64 Q, .slice pz1 (wcount Q) cz1] 26) = Wz1 at *
          refine (HC.out.2 _ _ _ Vza1.out Vzb1.out).mono ?_; rintro e wz2 ⟨vz2, rfl, hvz2, hbz2⟩
          obtain ⟨pz2, cz2, rfl⟩ := hvz2.form
          have Vzx2 := Lib.hid (Vzx1.out.below hbz2)
          have Vzy2 := Lib.hid (Vzy1.out.below hbz2)
          have Vza2 := Lib.hid (Vza1.out.below hbz2)
          have Vzb2 := Lib.hid (Vzb1.out.below hbz2)
          have Vzv2 := Lib.hid (Vzv1.out.below hbz2)
          have HTz2 := Lib.hid (HTz1.out.below hbz2)
          have Vzl2 := Lib.hid hvz2
          clear hvz2 hbz2 HTz1 Vzx1 Vzy1 Vza1 Vzb1 Vzv1
          have q0a := (HTz2.out.pr 0 rfl).1
          have q0b := (HTz2.out.pr 0 rfl).2
          go_wp2_with fail
          refine (is_n Vzv2.out Vzl2.out).mono ?_; rintro e wz3 ⟨rfl, hbz3⟩
          have Vzx3 := Lib.hid (Vzx2.out.below hbz3)
          have Vzy3 := Lib.hid (Vzy2.out.below hbz3)
          have Vza3 := Lib.hid (Vza2.out.below hbz3)
          have Vzb3 := Lib.hid (Vzb2.out.below hbz3)
          have Vzv3 := Lib.hid (Vzv2.out.below hbz3)
          have Vzl3 := Lib.hid (Vzl2.out.below hbz3)
          have HTz3 := Lib.hid (HTz2.out.below hbz3)
          clear hbz3 HTz2 Vzx2 Vzy2 Vza2 Vzb2 Vzv2 Vzl2
          clear q0a q0b
          have q0a := (HTz3.out.pr 2 rfl).1
          have q0b := (HTz3.out.pr 2 rfl).2
          go_wp2_with fail
          refine (is_n Vzx3.out Vza3.out).mono ?_; rintro e wz4 ⟨rfl, hbz4⟩
          have Vzx4 := Lib.hid (Vzx3.out.below hbz4)
          have Vzy4 := Lib.hid (Vzy3.out.below hbz4)
          have Vza4 := Lib.hid (Vza3.out.below hbz4)
          have Vzb4 := Lib.hid (Vzb3.out.below hbz4)
          have Vzv4 := Lib.hid (Vzv3.out.below hbz4)
          have Vzl4 := Lib.hid (Vzl3.out.below hbz4)
          have HTz4 := Lib.hid (HTz3.out.below hbz4)
          clear hbz4 HTz3 Vzx3 Vzy3 Vza3 Vzb3 Vzv3 Vzl3
          clear q0a q0b
          have q0a := (HTz4.out.pr 1 rfl).1
          have q0b := (HTz4.out.pr 1 rfl).2
          go_wp2_with fail
          refine (is_n Vzy4.out Vzb4.out).mono ?_; rintro e wz5 ⟨rfl, hbz5⟩
          have Vzx5 := Lib.hid (Vzx4.out.below hbz5)
          have Vzy5 := Lib.hid (Vzy4.out.below hbz5)
          have Vza5 := Lib.hid (Vza4.out.below hbz5)
          have Vzb5 := Lib.hid (Vzb4.out.below hbz5)
          have Vzv5 := Lib.hid (Vzv4.out.below hbz5)
          have Vzl5 := Lib.hid (Vzl4.out.below hbz5)
          have HTz5 := Lib.hid (HTz4.out.below hbz5)
          clear hbz5 HTz4 Vzx4 Vzy4 Vza4 Vzb4 Vzv4 Vzl4
          clear q0a q0b
          go_wp2_with fail
          go_roundw
          case rel => exact ⟨k + 1, by have := HK.out; omega, by have := HK.out; omega, by first | rfl | go_num | (rw [hwk]), HTz5.out.subs (by simp) (by have := HTz5.out.nd; simp at this ⊢ <;> omega), Vzx5.out, Vzy5.out, Vza5.out, Vzb5.out⟩
          case measure => have := HK.out; simp [intOf]; omega
        · have hgt : (19 : Int) < k := by omega
          clear hlt
          go_wp2_with fail
          go_ret
          exact ⟨rfl, HTz0.out.bel⟩
end Go.Proofs.Ytmimafbedbohiaa
