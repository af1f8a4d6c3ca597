import Derived.Test.YtmimafbedbohiaaA70
import Derived.Deep.CutRange
namespace Go.Proofs.Ytmimafbedbohiaa
set_option linter.unusedVariables false
open Go.RowKit

set_option maxRecDepth 100000 in
set_option maxHeartbeats 16000000 in
theorem parts_law {w : World} {p p2 : Option Addr} {n0 c m0 c2 : Nat} {f g : Nat → Bool} (hA : RO w (.slice p n0 c) 1 n0 (bools (rl n0 f))) (hc : n0 ≤ c) (hn0 : n0 ≤ 1000000000000000000) (hB : RO w (.slice p2 m0 c2) 1 m0 (bools (rl m0 g))) (hc2 : m0 ≤ c2) (hm0 : m0 ≤ 1000000000000000000) (a0 a1 a2 : Int) :
    Calls Try.prog 10 #[.slice p n0 c, .slice p2 m0 c2, .agg #[.int .i64 a0, .int .i64 a1, .int .i64 a2]] w fun e w' => e = .returned (.bool true) ∧ Below w.heap.size w w' := by
  have HAw := Lib.hid (fun w' => awake_any w')
  have HSh := Lib.hid (fun w' (hb : Below w.heap.size w w') => short_any (hA.below hb) hc hn0)
  have HSh2 := Lib.hid (fun w' (hb : Below w.heap.size w w') => short_any (hB.below hb) hc2 hm0)
  obtain ⟨n, hn⟩ : ∃ n, min n0 140 = n := ⟨_, rfl⟩
  obtain ⟨m, hm⟩ : ∃ m, min m0 140 = m := ⟨_, rfl⟩
  have HA0 : Hid (RO w (.slice p n c) 1 n (bools (rl n f))) := Lib.hid (hA.short (by omega))
  have HB0 : Hid (RO w (.slice p2 m c2) 1 m (bools (rl m g))) := Lib.hid (hB.short (by omega))
  rw [hn] at HSh
  rw [hm] at HSh2
  have hn1 : n ≤ 140 := by omega
  have hm1 : m ≤ 140 := by omega
  have hni : (n : Int) ≤ 140 := by omega
  have hmi : (m : Int) ≤ 140 := by omega
  have HNM := Lib.hid (And.intro hn1 (And.intro hm1 (And.intro (show n ≤ c by omega) (show m ≤ c2 by omega))))
  clear hA hB hc hc2 hn0 hm0 hn hm hn1 hm1
  go_enter Try.func10, Try.ntmps10
  go_wp2_with fail
  have HT0 := Lib.hid ((Tr.nil w).lay 63 [.int .i64 a0, .int .i64 a1, .int .i64 a2])
  refine (HAw.out _).mono ?_; rintro e w1 ⟨rfl, hb1⟩
  have HT1 := Lib.hid (HT0.out.below hb1)
  clear hb1 HT0
  go_wp2_with fail
  refine (HSh.out _ HT1.out.bel).mono ?_; rintro e w1' ⟨rfl, rfl⟩
  go_wp2_with fail
  refine (HSh2.out _ HT1.out.bel).mono ?_; rintro e w1' ⟨rfl, rfl⟩
  obtain ⟨N, A, hN, hOA, hA1, hA2⟩ := own_list (HA0.out.below HT1.out.bel) HNM.out.1
  have HOA := Lib.hid (And.intro hN (And.intro hA1 hA2))
  have HOAc := Lib.hid hOA
  clear hN hOA hA1 hA2
  go_wp2_with fail
  refine HOAc.out.mono ?_; rintro e w2 ⟨vx, rfl, hvx, hb2, _⟩
  obtain ⟨px, cx, rfl, _⟩ := hvx.ex
  have HT2 := Lib.hid (HT1.out.below hb2)
  have HX2 := Lib.hid hvx
  obtain ⟨M, B, hM, hOB, hB1, hB2⟩ := own_list (HB0.out.below HT2.out.bel) HNM.out.2.1
  have HOB := Lib.hid (And.intro hM (And.intro hB1 hB2))
  have HOBc := Lib.hid hOB
  clear hvx hb2 hM hOB hB1 hB2 HOAc HT1
  go_wp2_with fail
  refine HOBc.out.mono ?_; rintro e w3 ⟨vy, rfl, hvy, hb3, _⟩
  obtain ⟨py, cy, rfl, _⟩ := hvy.ex
  have HT3 := Lib.hid (((HT2.out.below hb3).lay 26 [.int .i64 N, .slice px (wcount N) cx]).lay 26 [.int .i64 M, .slice py (wcount M) cy])
  have hbl : Below w3.heap.size w3 ((w3.alloc (.cells [Value.int .i64 N, .slice px (wcount N) cx].toArray 26)).alloc (.cells [Value.int .i64 M, .slice py (wcount M) cy].toArray 26)) := (Below.new _ _).alloc (by simp) _
  have HV3 := Lib.hid (And.intro ((HX2.out.below hb3).below hbl) (hvy.below hbl))
  have HL3 := Lib.hid (And.intro ((HA0.out.below (HT2.out.below hb3).bel).below hbl) ((HB0.out.below (HT2.out.below hb3).bel).below hbl))
  simp only [World.size_alloc] at HT3
  clear hvy hb3 hbl HX2 HOBc HA0 HB0 HSh HSh2 HAw HT2
  go_upto_if 27 with fail
  generalize (w3.alloc (.cells #[Value.int .i64 N, .slice px (wcount N) cx] 26)).alloc (.cells #[Value.int .i64 M, .slice py (wcount M) cy] 26) = W3 at *
  go_cut [0] from 15 (fun v0 wx => wx = W3 ∧ ∃ pa ca, v0 = .slice pa N ca ∧ LN W3 (.slice pa N ca) N A ∧ N ≤ ca)
  case first =>
    by_cases h : 128 < n
    · have hi : (128 : Int) < n := by omega
      go_wp2_with fail
      go_meet
      obtain ⟨rfl, rfl⟩ := HOA.out.2.2 h
      exact ⟨rfl, _, _, rfl, LN.nil _, Nat.le_refl _⟩
    · have hi : (n : Int) ≤ 128 := by omega
      go_wp2_with fail
      go_meet
      obtain ⟨rfl, rfl⟩ := HOA.out.2.1 (by omega)
      exact ⟨rfl, _, _, rfl, LN.of HL3.out.1, HNM.out.2.2.1⟩
  case rest =>
    obtain ⟨rfl, pa, ca, rfl, hLA, hca⟩ := hcut
    have HLA := Lib.hid (And.intro hLA hca)
    clear hLA hca
    go_upto_if 30 with fail
    go_cut [1] from 15 (fun v1 wx => wx = wc ∧ ∃ pb cb, v1 = .slice pb M cb ∧ LN wc (.slice pb M cb) M B)
    case first =>
      by_cases h : 128 < m
      · have hi : (128 : Int) < m := by omega
        go_wp2_with fail
        go_meet
        obtain ⟨rfl, rfl⟩ := HOB.out.2.2 h
        exact ⟨rfl, _, _, rfl, LN.nil _⟩
      · have hi : (m : Int) ≤ 128 := by omega
        go_wp2_with fail
        go_meet
        obtain ⟨rfl, rfl⟩ := HOB.out.2.1 (by omega)
        exact ⟨rfl, _, _, rfl, LN.of HL3.out.2⟩
    case rest =>
      obtain ⟨rfl, pb, cb, rfl, hLB⟩ := hcut
      have HNN := Lib.hid (And.intro HOA.out.1 (And.intro HOB.out.1 HLA.out.2))
      have Vzx0 := Lib.hid HV3.out.1
      have Vzy0 := Lib.hid HV3.out.2
      have Vza0 := Lib.hid HLA.out.1
      have Vzb0 := Lib.hid hLB
      clear hLB HL3 HOA HOB HNM HLA HV3
      obtain ⟨Q1, X1, er1, hC1, hD1⟩ := slice_both (A := A) HNN.out.1 a0 a1
      obtain ⟨Q2, X2, er2, hC2, hD2⟩ := put_both (A := A) (B := B) HNN.out.1 HNN.out.2.1 a0
      obtain ⟨Q3, X3, er3, hC3, hD3⟩ := cat_three N M A B HNN.out.1 HNN.out.2.1
      have HC1 := Lib.hid (And.intro hC1 hD1)
      have HC2 := Lib.hid (And.intro hC2 hD2)
      have HC3 := Lib.hid (And.intro hC3 hD3)
      have HC4 := Lib.hid (fun s => ext_both (A := A) HNN.out.1 a2 s)
      clear hC1 hD1 hC2 hD2 hC3 hD3
      have g0 := (HT3.out.at 2 rfl).cell (i := 0) rfl
      have g1 := (HT3.out.at 2 rfl).cell (i := 1) rfl
      have q0a := (HT3.out.pr 1 rfl).1
      have q0b := (HT3.out.pr 1 rfl).2
      go_wp2_with fail
      refine (HC1.out.1 _ _ Vzx0.out).mono ?_; rintro e wz1 ⟨vz1, rfl, hvz1, hbz1⟩
      obtain ⟨pz1, cz1, rfl, _⟩ := hvz1.ex
      have HBnz1 := Lib.hid (Below.new wz1 (.cells #[.int .i64 Q1, .slice pz1 (wcount Q1) cz1] 26))
      have Vzx1 := Lib.hid ((Vzx0.out.below hbz1).below HBnz1.out)
      have Vzy1 := Lib.hid ((Vzy0.out.below hbz1).below HBnz1.out)
      have Vza1 := Lib.hid ((Vza0.out.below hbz1).below HBnz1.out)
      have Vzb1 := Lib.hid ((Vzb0.out.below hbz1).below HBnz1.out)
      have HTz1 := Lib.hid ((HT3.out.below hbz1).lay 26 [.int .i64 Q1, .slice pz1 (wcount Q1) cz1])
      have Vzv1 := Lib.hid (hvz1.below HBnz1.out)
      clear hvz1 hbz1 HT3 Vzx0 Vzy0 Vza0 Vzb0
      clear q0a q0b
      clear g0 g1
      have g0 := (HTz1.out.at 3 rfl).cell (i := 0) rfl
      have g1 := (HTz1.out.at 3 rfl).cell (i := 1) rfl
      go_wp2_with fail
      generalize wz1.alloc (.cells #[Value.int .i64 Q1, .slice pz1 (wcount Q1) cz1] 26) = Wz1 at *
      refine (HC1.out.2 _ _ _ HNN.out.2.2 Vza1.out).mono ?_; rintro e wz2 ⟨vz2, rfl, hvz2, hbz2⟩
      obtain ⟨pz2, cz2, rfl⟩ := hvz2.form
      have Vzx2 := Lib.hid (Vzx1.out.below hbz2)
      have Vzy2 := Lib.hid (Vzy1.out.below hbz2)
      have Vza2 := Lib.hid (Vza1.out.below hbz2)
      have Vzb2 := Lib.hid (Vzb1.out.below hbz2)
      have Vzv2 := Lib.hid (Vzv1.out.below hbz2)
      have HTz2 := Lib.hid (HTz1.out.below hbz2)
      have Vzl2 := Lib.hid hvz2
      clear hvz2 hbz2 HTz1 Vzx1 Vzy1 Vza1 Vzb1 Vzv1
      clear g0 g1
      have q0a := (HTz2.out.pr 0 rfl).1
      have q0b := (HTz2.out.pr 0 rfl).2
      go_wp2_with fail
      refine (is_n Vzv2.out Vzl2.out).mono ?_; rintro e wz3 ⟨rfl, hbz3⟩
      have Vzx3 := Lib.hid (Vzx2.out.below hbz3)
      have Vzy3 := Lib.hid (Vzy2.out.below hbz3)
      have Vza3 := Lib.hid (Vza2.out.below hbz3)
      have Vzb3 := Lib.hid (Vzb2.out.below hbz3)
      have Vzv3 := Lib.hid (Vzv2.out.below hbz3)
      have Vzl3 := Lib.hid (Vzl2.out.below hbz3)
      have HTz3 := Lib.hid (HTz2.out.below hbz3)
      clear hbz3 HTz2 Vzx2 Vzy2 Vza2 Vzb2 Vzv2 Vzl2
      clear q0a q0b
      have g0 := (HTz3.out.at 3 rfl).cell (i := 0) rfl
      have q0a := (HTz3.out.pr 2 rfl).1
      have q0b := (HTz3.out.pr 2 rfl).2
      have q1a := (HTz3.out.pr 1 rfl).1
      have q1b := (HTz3.out.pr 1 rfl).2
      go_wp2_with fail
      refine (HC2.out.1 _ _ _ Vzx3.out Vzy3.out).mono ?_; rintro e wz4 ⟨vz4, rfl, hvz4, hbz4⟩
      obtain ⟨pz4, cz4, rfl, _⟩ := hvz4.ex
      have Vzx4 := Lib.hid (Vzx3.out.below hbz4)
      have Vzy4 := Lib.hid (Vzy3.out.below hbz4)
      have Vza4 := Lib.hid (Vza3.out.below hbz4)
      have Vzb4 := Lib.hid (Vzb3.out.below hbz4)
      have HTz4 := Lib.hid (HTz3.out.below hbz4)
      have r0 := (HTz4.out.pr 0 rfl).1
      have r1 := (HTz4.out.pr 0 rfl).2
      have f0 := (HTz4.out.at 0 rfl).frz 0
      have f1 := (HTz4.out.at 0 rfl).frz 1
      have Vv := Lib.hid (hvz4.keep2 (HTz4.out.at 0 rfl) (x1 := .int .i64 Q2) (y1 := .slice pz4 (wcount Q2) cz4))
      have Vzx5 := Lib.hid (Vzx4.out.keep2 (HTz4.out.at 0 rfl) (x1 := .int .i64 Q2) (y1 := .slice pz4 (wcount Q2) cz4))
      have Vzy5 := Lib.hid (Vzy4.out.keep2 (HTz4.out.at 0 rfl) (x1 := .int .i64 Q2) (y1 := .slice pz4 (wcount Q2) cz4))
      have Vza5 := Lib.hid (Vza4.out.keep2 (HTz4.out.at 0 rfl) (x1 := .int .i64 Q2) (y1 := .slice pz4 (wcount Q2) cz4))
      have Vzb5 := Lib.hid (Vzb4.out.keep2 (HTz4.out.at 0 rfl) (x1 := .int .i64 Q2) (y1 := .slice pz4 (wcount Q2) cz4))
      have HTz5 := Lib.hid (HTz4.out.two 0 (x := .int .i64 Q2) (y := .slice pz4 (wcount Q2) cz4) rfl)
      simp only [List.set_cons_zero] at HTz5
      have Vzv5 := Lib.hid Vv.out
      clear hvz4 hbz4 Vv HTz3 Vzx3 Vzy3 Vza3 Vzb3 HTz4 Vzx4 Vzy4 Vza4 Vzb4
      clear q0a q0b q1a q1b
      clear g0
      have g0 := (HTz5.out.at 3 rfl).cell (i := 0) rfl
      go_wp2_with fail
      generalize (wz4.setCell ⟨wz1.heap.size, 0, none⟩ (.int .i64 Q2)).setCell ⟨wz1.heap.size, 1, none⟩ (.slice pz4 (wcount Q2) cz4) = Wz4 at *
      clear r0 r1 f0 f1
      refine (HC2.out.2 _ _ _ _ HNN.out.2.2 Vza5.out Vzb5.out).mono ?_; rintro e wz6 ⟨vz6, rfl, hvz6, hbz6⟩
      obtain ⟨pz6, cz6, rfl⟩ := hvz6.form
      have Vzx6 := Lib.hid (Vzx5.out.below hbz6)
      have Vzy6 := Lib.hid (Vzy5.out.below hbz6)
      have Vza6 := Lib.hid (Vza5.out.below hbz6)
      have Vzb6 := Lib.hid (Vzb5.out.below hbz6)
      have Vzv6 := Lib.hid (Vzv5.out.below hbz6)
      have HTz6 := Lib.hid (HTz5.out.below hbz6)
      have Vzl6 := Lib.hid hvz6
      clear hvz6 hbz6 HTz5 Vzx5 Vzy5 Vza5 Vzb5 Vzv5
      clear g0
      have q0a := (HTz6.out.pr 0 rfl).1
      have q0b := (HTz6.out.pr 0 rfl).2
      go_wp2_with fail
      refine (is_n Vzv6.out Vzl6.out).mono ?_; rintro e wz7 ⟨rfl, hbz7⟩
      have Vzx7 := Lib.hid (Vzx6.out.below hbz7)
      have Vzy7 := Lib.hid (Vzy6.out.below hbz7)
      have Vza7 := Lib.hid (Vza6.out.below hbz7)
      have Vzb7 := Lib.hid (Vzb6.out.below hbz7)
      have Vzv7 := Lib.hid (Vzv6.out.below hbz7)
      have Vzl7 := Lib.hid (Vzl6.out.below hbz7)
      have HTz7 := Lib.hid (HTz6.out.below hbz7)
      clear hbz7 HTz6 Vzx6 Vzy6 Vza6 Vzb6 Vzv6 Vzl6
      clear q0a q0b
      have q0a := (HTz7.out.pr 2 rfl).1
      have q0b := (HTz7.out.pr 2 rfl).2
      have q1a := (HTz7.out.pr 1 rfl).1
      have q1b := (HTz7.out.pr 1 rfl).2
      go_wp2_with fail
      refine (HC3.out.1 _ _ _ _ _ _ (by simp) Vzx7.out Vzy7.out).mono ?_; rintro e wz8 ⟨vz8, rfl, hvz8, hbz8⟩
      replace hbz8 := Below.then (Below.new _ _) hbz8 (Nat.le_refl _)
      obtain ⟨pz8, cz8, rfl, _⟩ := hvz8.ex
      have Vzx8 := Lib.hid (Vzx7.out.below hbz8)
      have Vzy8 := Lib.hid (Vzy7.out.below hbz8)
      have Vza8 := Lib.hid (Vza7.out.below hbz8)
      have Vzb8 := Lib.hid (Vzb7.out.below hbz8)
      have HTz8 := Lib.hid (HTz7.out.below hbz8)
      have r0 := (HTz8.out.pr 0 rfl).1
      have r1 := (HTz8.out.pr 0 rfl).2
      have f0 := (HTz8.out.at 0 rfl).frz 0
      have f1 := (HTz8.out.at 0 rfl).frz 1
      have Vv := Lib.hid (hvz8.keep2 (HTz8.out.at 0 rfl) (x1 := .int .i64 Q3) (y1 := .slice pz8 (wcount Q3) cz8))
      have Vzx9 := Lib.hid (Vzx8.out.keep2 (HTz8.out.at 0 rfl) (x1 := .int .i64 Q3) (y1 := .slice pz8 (wcount Q3) cz8))
      have Vzy9 := Lib.hid (Vzy8.out.keep2 (HTz8.out.at 0 rfl) (x1 := .int .i64 Q3) (y1 := .slice pz8 (wcount Q3) cz8))
      have Vza9 := Lib.hid (Vza8.out.keep2 (HTz8.out.at 0 rfl) (x1 := .int .i64 Q3) (y1 := .slice pz8 (wcount Q3) cz8))
      have Vzb9 := Lib.hid (Vzb8.out.keep2 (HTz8.out.at 0 rfl) (x1 := .int .i64 Q3) (y1 := .slice pz8 (wcount Q3) cz8))
      have HTz9 := Lib.hid (HTz8.out.two 0 (x := .int .i64 Q3) (y := .slice pz8 (wcount Q3) cz8) rfl)
      simp only [List.set_cons_zero] at HTz9
      have Vzv9 := Lib.hid Vv.out
      clear hvz8 hbz8 Vv HTz7 Vzx7 Vzy7 Vza7 Vzb7 HTz8 Vzx8 Vzy8 Vza8 Vzb8
      clear q0a q0b q1a q1b
      go_wp2_with fail
      clear r0 r1 f0 f1
      refine (HC3.out.2 _ _ _ _ _ _ (by simp) Vza9.out Vzb9.out).mono ?_; rintro e wz10 ⟨vz10, rfl, hvz10, hbz10⟩
      replace hbz10 := Below.then (Below.new _ _) hbz10 (Nat.le_refl _)
      obtain ⟨pz10, cz10, rfl⟩ := hvz10.form
      have Vzx10 := Lib.hid (Vzx9.out.below hbz10)
      have Vzy10 := Lib.hid (Vzy9.out.below hbz10)
      have Vza10 := Lib.hid (Vza9.out.below hbz10)
      have Vzb10 := Lib.hid (Vzb9.out.below hbz10)
      have Vzv10 := Lib.hid (Vzv9.out.below hbz10)
      have HTz10 := Lib.hid (HTz9.out.below hbz10)
      have Vzl10 := Lib.hid hvz10
      clear hvz10 hbz10 HTz9 Vzx9 Vzy9 Vza9 Vzb9 Vzv9
      have q0a := (HTz10.out.pr 0 rfl).1
      have q0b := (HTz10.out.pr 0 rfl).2
      go_wp2_with fail
      refine (is_n Vzv10.out Vzl10.out).mono ?_; rintro e wz11 ⟨rfl, hbz11⟩
      have Vzx11 := Lib.hid (Vzx10.out.below hbz11)
      have Vzy11 := Lib.hid (Vzy10.out.below hbz11)
      have Vza11 := Lib.hid (Vza10.out.below hbz11)
      have Vzb11 := Lib.hid (Vzb10.out.below hbz11)
      have Vzv11 := Lib.hid (Vzv10.out.below hbz11)
      have Vzl11 := Lib.hid (Vzl10.out.below hbz11)
      have HTz11 := Lib.hid (HTz10.out.below hbz11)
      clear hbz11 HTz10 Vzx10 Vzy10 Vza10 Vzb10 Vzv10 Vzl10
      clear q0a q0b
      obtain ⟨Q4, X4, er4, hC4, hD4⟩ := HC4.out false
      obtain ⟨Q5, X5, er5, hC5, hD5⟩ := HC4.out true
      have HC40 := Lib.hid (And.intro hC4 hD4)
      have HC41 := Lib.hid (And.intro hC5 hD5)
      clear hC4 hD4 hC5 hD5 HC1 HC2 HC3
      go_wp2_with fail
      have HTL := Lib.hid (HTz11.out.lay 4 [.bool false, .bool true])
      have HBL := Lib.hid (Below.new wz11 (.cells [.bool false, .bool true].toArray 4))
      generalize wz11.alloc (.cells #[Value.bool false, .bool true] 4) = WL at *
      go_loopw [110] (fun iv wr => ∃ (k q : Nat) (pq : Option Addr) (cq : Nat), k ≤ 2 ∧ iv = .int .i64 k ∧ Tr w [(wz11.heap.size, 4, [.bool false, .bool true]), (wz1.heap.size, 26, [.int .i64 ((q : Nat) : Int), .slice pq (wcount q) cq]), (w3.heap.size + 1, 26, [.int .i64 M, .slice py (wcount M) cy]), (w3.heap.size, 26, [.int .i64 N, .slice px (wcount N) cx]), (w.heap.size, 63, [.int .i64 a0, .int .i64 a1, .int .i64 a2])] wr ∧ VR wr (.agg #[.int .i64 N, .slice px (wcount N) cx]) N A ∧ VR wr (.agg #[.int .i64 M, .slice py (wcount M) cy]) M B ∧ LN wr (.slice pa N ca) N A ∧ LN wr (.slice pb M cb) M B) (fun iv _ => 2 - (intOf iv).toNat)
      case atStart => exact ⟨0, _, _, _, by omega, rfl, HTL.out, Vzx11.out.below HBL.out, Vzy11.out.below HBL.out, Vza11.out.below HBL.out, Vzb11.out.below HBL.out⟩
      case round =>
        obtain ⟨k, q, pq, cq, hk, rfl, hT, hx, hy, ha, hb⟩ := hrel
        have HTr0 := Lib.hid hT
        have Vrx0 := Lib.hid hx
        have Vry0 := Lib.hid hy
        have Vra0 := Lib.hid ha
        have Vrb0 := Lib.hid hb
        clear hT hx hy ha hb HTL HBL HTz11 Vzx11 Vzy11 Vza11 Vzb11 Vzv11 Vzl11
        match k, hk with
        | 0, _ =>
          have s0 := (HTr0.out.at 0 rfl).cell (i := 0) rfl
          have g2 := (HTr0.out.at 4 rfl).cell (i := 2) rfl
          have q0a := (HTr0.out.pr 3 rfl).1
          have q0b := (HTr0.out.pr 3 rfl).2
          go_wp2_with fail
          refine (HC40.out.1 _ _ Vrx0.out).mono ?_; rintro e wz1 ⟨vz1, rfl, hvz1, hbz1⟩
          obtain ⟨pz1, cz1, rfl, _⟩ := hvz1.ex
          have Vrx1 := Lib.hid (Vrx0.out.below hbz1)
          have Vry1 := Lib.hid (Vry0.out.below hbz1)
          have Vra1 := Lib.hid (Vra0.out.below hbz1)
          have Vrb1 := Lib.hid (Vrb0.out.below hbz1)
          have HTr1 := Lib.hid (HTr0.out.below hbz1)
          have r0 := (HTr1.out.pr 1 rfl).1
          have r1 := (HTr1.out.pr 1 rfl).2
          have f0 := (HTr1.out.at 1 rfl).frz 0
          have f1 := (HTr1.out.at 1 rfl).frz 1
          have Vv := Lib.hid (hvz1.keep2 (HTr1.out.at 1 rfl) (x1 := .int .i64 Q4) (y1 := .slice pz1 (wcount Q4) cz1))
          have Vrx2 := Lib.hid (Vrx1.out.keep2 (HTr1.out.at 1 rfl) (x1 := .int .i64 Q4) (y1 := .slice pz1 (wcount Q4) cz1))
          have Vry2 := Lib.hid (Vry1.out.keep2 (HTr1.out.at 1 rfl) (x1 := .int .i64 Q4) (y1 := .slice pz1 (wcount Q4) cz1))
          have Vra2 := Lib.hid (Vra1.out.keep2 (HTr1.out.at 1 rfl) (x1 := .int .i64 Q4) (y1 := .slice pz1 (wcount Q4) cz1))
          have Vrb2 := Lib.hid (Vrb1.out.keep2 (HTr1.out.at 1 rfl) (x1 := .int .i64 Q4) (y1 := .slice pz1 (wcount Q4) cz1))
          have HTr2 := Lib.hid (HTr1.out.two 1 (x := .int .i64 Q4) (y := .slice pz1 (wcount Q4) cz1) rfl)
          simp only [List.set_cons_zero, List.set_cons_succ] at HTr2
          have Vzv2 := Lib.hid Vv.out
          clear hvz1 hbz1 Vv HTr0 Vrx0 Vry0 Vra0 Vrb0 HTr1 Vrx1 Vry1 Vra1 Vrb1
          clear q0a q0b
          clear g2
          clear s0
          have g2 := (HTr2.out.at 4 rfl).cell (i := 2) rfl
          go_wp2_with fail
          generalize (wz1.setCell ⟨wz1.heap.size, 0, none⟩ (.int .i64 Q4)).setCell ⟨wz1.heap.size, 1, none⟩ (.slice pz1 (wcount Q4) cz1) = Wz1 at *
          clear r0 r1 f0 f1
          refine (HC40.out.2 _ _ Vra2.out).mono ?_; rintro e wz3 ⟨vz3, rfl, hvz3, hbz3⟩
          obtain ⟨pz3, cz3, rfl⟩ := hvz3.form
          have Vrx3 := Lib.hid (Vrx2.out.below hbz3)
          have Vry3 := Lib.hid (Vry2.out.below hbz3)
          have Vra3 := Lib.hid (Vra2.out.below hbz3)
          have Vrb3 := Lib.hid (Vrb2.out.below hbz3)
          have Vrv3 := Lib.hid (Vzv2.out.below hbz3)
          have HTr3 := Lib.hid (HTr2.out.below hbz3)
          have Vzl3 := Lib.hid hvz3
          clear hvz3 hbz3 HTr2 Vrx2 Vry2 Vra2 Vrb2 Vzv2
          clear g2
          have q0a := (HTr3.out.pr 1 rfl).1
          have q0b := (HTr3.out.pr 1 rfl).2
          go_wp2_with fail
          refine (is_n Vrv3.out Vzl3.out).mono ?_; rintro e wr4 ⟨rfl, hbr4⟩
          have Vrx4 := Lib.hid (Vrx3.out.below hbr4)
          have Vry4 := Lib.hid (Vry3.out.below hbr4)
          have Vra4 := Lib.hid (Vra3.out.below hbr4)
          have Vrb4 := Lib.hid (Vrb3.out.below hbr4)
          have Vrv4 := Lib.hid (Vrv3.out.below hbr4)
          have Vrl4 := Lib.hid (Vzl3.out.below hbr4)
          have HTr4 := Lib.hid (HTr3.out.below hbr4)
          clear hbr4 HTr3 Vrx3 Vry3 Vra3 Vrb3 Vrv3 Vzl3
          clear q0a q0b
          go_wp2_with fail
          go_roundw
          case rel => exact ⟨1, _, _, _, by omega, by first | rfl | go_num, HTr4.out, Vrx4.out, Vry4.out, Vra4.out, Vrb4.out⟩
          case measure => simp [intOf]
        | 1, _ =>
          have s0 := (HTr0.out.at 0 rfl).cell (i := 1) rfl
          have g2 := (HTr0.out.at 4 rfl).cell (i := 2) rfl
          have q0a := (HTr0.out.pr 3 rfl).1
          have q0b := (HTr0.out.pr 3 rfl).2
          go_wp2_with fail
          refine (HC41.out.1 _ _ Vrx0.out).mono ?_; rintro e wz1 ⟨vz1, rfl, hvz1, hbz1⟩
          obtain ⟨pz1, cz1, rfl, _⟩ := hvz1.ex
          have Vrx1 := Lib.hid (Vrx0.out.below hbz1)
          have Vry1 := Lib.hid (Vry0.out.below hbz1)
          have Vra1 := Lib.hid (Vra0.out.below hbz1)
          have Vrb1 := Lib.hid (Vrb0.out.below hbz1)
          have HTr1 := Lib.hid (HTr0.out.below hbz1)
          have r0 := (HTr1.out.pr 1 rfl).1
          have r1 := (HTr1.out.pr 1 rfl).2
          have f0 := (HTr1.out.at 1 rfl).frz 0
          have f1 := (HTr1.out.at 1 rfl).frz 1
          have Vv := Lib.hid (hvz1.keep2 (HTr1.out.at 1 rfl) (x1 := .int .i64 Q5) (y1 := .slice pz1 (wcount Q5) cz1))
          have Vrx2 := Lib.hid (Vrx1.out.keep2 (HTr1.out.at 1 rfl) (x1 := .int .i64 Q5) (y1 := .slice pz1 (wcount Q5) cz1))
          have Vry2 := Lib.hid (Vry1.out.keep2 (HTr1.out.at 1 rfl) (x1 := .int .i64 Q5) (y1 := .slice pz1 (wcount Q5) cz1))
          have Vra2 := Lib.hid (Vra1.out.keep2 (HTr1.out.at 1 rfl) (x1 := .int .i64 Q5) (y1 := .slice pz1 (wcount Q5) cz1))
          have Vrb2 := Lib.hid (Vrb1.out.keep2 (HTr1.out.at 1 rfl) (x1 := .int .i64 Q5) (y1 := .slice pz1 (wcount Q5) cz1))
          have HTr2 := Lib.hid (HTr1.out.two 1 (x := .int .i64 Q5) (y := .slice pz1 (wcount Q5) cz1) rfl)
          simp only [List.set_cons_zero, List.set_cons_succ] at HTr2
          have Vzv2 := Lib.hid Vv.out
          clear hvz1 hbz1 Vv HTr0 Vrx0 Vry0 Vra0 Vrb0 HTr1 Vrx1 Vry1 Vra1 Vrb1
          clear q0a q0b
          clear g2
          clear s0
          have g2 := (HTr2.out.at 4 rfl).cell (i := 2) rfl
          go_wp2_with fail
          generalize (wz1.setCell ⟨wz1.heap.size, 0, none⟩ (.int .i64 Q5)).setCell ⟨wz1.heap.size, 1, none⟩ (.slice pz1 (wcount Q5) cz1) = Wz1 at *
          clear r0 r1 f0 f1
          refine (HC41.out.2 _ _ Vra2.out).mono ?_; rintro e wz3 ⟨vz3, rfl, hvz3, hbz3⟩
          obtain ⟨pz3, cz3, rfl⟩ := hvz3.form
          have Vrx3 := Lib.hid (Vrx2.out.below hbz3)
          have Vry3 := Lib.hid (Vry2.out.below hbz3)
          have Vra3 := Lib.hid (Vra2.out.below hbz3)
          have Vrb3 := Lib.hid (Vrb2.out.below hbz3)
          have Vrv3 := Lib.hid (Vzv2.out.below hbz3)
          have HTr3 := Lib.hid (HTr2.out.below hbz3)
          have Vzl3 := Lib.hid hvz3
          clear hvz3 hbz3 HTr2 Vrx2 Vry2 Vra2 Vrb2 Vzv2
          clear g2
          have q0a := (HTr3.out.pr 1 rfl).1
          have q0b := (HTr3.out.pr 1 rfl).2
          go_wp2_with fail
          refine (is_n Vrv3.out Vzl3.out).mono ?_; rintro e wr4 ⟨rfl, hbr4⟩
          have Vrx4 := Lib.hid (Vrx3.out.below hbr4)
          have Vry4 := Lib.hid (Vry3.out.below hbr4)
          have Vra4 := Lib.hid (Vra3.out.below hbr4)
          have Vrb4 := Lib.hid (Vrb3.out.below hbr4)
          have Vrv4 := Lib.hid (Vrv3.out.below hbr4)
          have Vrl4 := Lib.hid (Vzl3.out.below hbr4)
          have HTr4 := Lib.hid (HTr3.out.below hbr4)
          clear hbr4 HTr3 Vrx3 Vry3 Vra3 Vrb3 Vrv3 Vzl3
          clear q0a q0b
          go_wp2_with fail
          go_roundw
          case rel => exact ⟨2, _, _, _, by omega, by first | rfl | go_num, HTr4.out, Vrx4.out, Vry4.out, Vra4.out, Vrb4.out⟩
          case measure => simp [intOf]
        | 2, _ =>
          go_wp2_with fail
          refine (cat_none _).mono ?_; rintro e wz1 ⟨vz1, rfl, hvz1, hbz1⟩
          obtain ⟨pz1, cz1, rfl, _⟩ := hvz1.ex
          have Vrx1 := Lib.hid (Vrx0.out.below hbz1)
          have Vry1 := Lib.hid (Vry0.out.below hbz1)
          have Vra1 := Lib.hid (Vra0.out.below hbz1)
          have Vrb1 := Lib.hid (Vrb0.out.below hbz1)
          have HTr1 := Lib.hid (HTr0.out.below hbz1)
          have r0 := (HTr1.out.pr 1 rfl).1
          have r1 := (HTr1.out.pr 1 rfl).2
          have f0 := (HTr1.out.at 1 rfl).frz 0
          have f1 := (HTr1.out.at 1 rfl).frz 1
          have Vv := Lib.hid (hvz1.keep2 (HTr1.out.at 1 rfl) (x1 := .int .i64 0) (y1 := .slice pz1 (wcount 0) cz1))
          have Vrx2 := Lib.hid (Vrx1.out.keep2 (HTr1.out.at 1 rfl) (x1 := .int .i64 0) (y1 := .slice pz1 (wcount 0) cz1))
          have Vry2 := Lib.hid (Vry1.out.keep2 (HTr1.out.at 1 rfl) (x1 := .int .i64 0) (y1 := .slice pz1 (wcount 0) cz1))
          have Vra2 := Lib.hid (Vra1.out.keep2 (HTr1.out.at 1 rfl) (x1 := .int .i64 0) (y1 := .slice pz1 (wcount 0) cz1))
          have Vrb2 := Lib.hid (Vrb1.out.keep2 (HTr1.out.at 1 rfl) (x1 := .int .i64 0) (y1 := .slice pz1 (wcount 0) cz1))
          have HTr2 := Lib.hid (HTr1.out.two 1 (x := .int .i64 0) (y := .slice pz1 (wcount 0) cz1) rfl)
          simp only [List.set_cons_zero, List.set_cons_succ] at HTr2
          have Vzv2 := Lib.hid Vv.out
          clear hvz1 hbz1 Vv HTr0 Vrx0 Vry0 Vra0 Vrb0 HTr1 Vrx1 Vry1 Vra1 Vrb1
          go_wp2_with fail
          generalize (wz1.setCell ⟨wz1.heap.size, 0, none⟩ (.int .i64 0)).setCell ⟨wz1.heap.size, 1, none⟩ (.slice pz1 (wcount 0) cz1) = Wz1 at *
          clear r0 r1 f0 f1
          obtain ⟨qe, hqe⟩ : ∃ q, decide (N = M ∧ A = B) = q := ⟨_, rfl⟩
          have HQE := Lib.hid hqe
          clear hqe
          refine (width_any Vzv2.out).mono ?_; rintro e wr3 ⟨rfl, hbr3⟩
          have Vrx3 := Lib.hid (Vrx2.out.below hbr3)
          have Vry3 := Lib.hid (Vry2.out.below hbr3)
          have Vra3 := Lib.hid (Vra2.out.below hbr3)
          have Vrb3 := Lib.hid (Vrb2.out.below hbr3)
          have Vrv3 := Lib.hid (Vzv2.out.below hbr3)
          have HTr3 := Lib.hid (HTr2.out.below hbr3)
          clear hbr3 HTr2 Vrx2 Vry2 Vra2 Vrb2 Vzv2
          have q0a := (HTr3.out.pr 3 rfl).1
          have q0b := (HTr3.out.pr 3 rfl).2
          go_wp2_with fail
          refine (is_n Vrx3.out Vra3.out).mono ?_; rintro e wr4 ⟨rfl, hbr4⟩
          have Vrx4 := Lib.hid (Vrx3.out.below hbr4)
          have Vry4 := Lib.hid (Vry3.out.below hbr4)
          have Vra4 := Lib.hid (Vra3.out.below hbr4)
          have Vrb4 := Lib.hid (Vrb3.out.below hbr4)
          have Vrv4 := Lib.hid (Vrv3.out.below hbr4)
          have HTr4 := Lib.hid (HTr3.out.below hbr4)
          clear hbr4 HTr3 Vrx3 Vry3 Vra3 Vrb3 Vrv3
          clear q0a q0b
          have q0a := (HTr4.out.pr 2 rfl).1
          have q0b := (HTr4.out.pr 2 rfl).2
          go_wp2_with fail
          refine (is_n Vry4.out Vrb4.out).mono ?_; rintro e wr5 ⟨rfl, hbr5⟩
          have Vrx5 := Lib.hid (Vrx4.out.below hbr5)
          have Vry5 := Lib.hid (Vry4.out.below hbr5)
          have Vra5 := Lib.hid (Vra4.out.below hbr5)
          have Vrb5 := Lib.hid (Vrb4.out.below hbr5)
          have Vrv5 := Lib.hid (Vrv4.out.below hbr5)
          have HTr5 := Lib.hid (HTr4.out.below hbr5)
          clear hbr5 HTr4 Vrx4 Vry4 Vra4 Vrb4 Vrv4
          clear q0a q0b
          have q0a := (HTr5.out.pr 3 rfl).1
          have q0b := (HTr5.out.pr 3 rfl).2
          have q1a := (HTr5.out.pr 2 rfl).1
          have q1b := (HTr5.out.pr 2 rfl).2
          go_wp2_with fail
          have hc := equal_any Vrx5.out Vry5.out
          rw [HQE.out] at hc
          replace hc := Lib.hid hc
          refine (hc.out).mono ?_; rintro e wr6 ⟨rfl, hbr6⟩
          have Vrx6 := Lib.hid (Vrx5.out.below hbr6)
          have Vry6 := Lib.hid (Vry5.out.below hbr6)
          have Vra6 := Lib.hid (Vra5.out.below hbr6)
          have Vrb6 := Lib.hid (Vrb5.out.below hbr6)
          have Vrv6 := Lib.hid (Vrv5.out.below hbr6)
          have HTr6 := Lib.hid (HTr5.out.below hbr6)
          clear hbr6 HTr5 Vrx5 Vry5 Vra5 Vrb5 Vrv5
          clear hc
          clear q0a q0b q1a q1b
          go_wp2_with fail
          have hc := equal_both HNN.out.1 HNN.out.2.1 Vra6.out Vrb6.out
          rw [HQE.out] at hc
          replace hc := Lib.hid hc
          refine (hc.out).mono ?_; rintro e wr7 ⟨rfl, hbr7⟩
          have Vrx7 := Lib.hid (Vrx6.out.below hbr7)
          have Vry7 := Lib.hid (Vry6.out.below hbr7)
          have Vra7 := Lib.hid (Vra6.out.below hbr7)
          have Vrb7 := Lib.hid (Vrb6.out.below hbr7)
          have Vrv7 := Lib.hid (Vrv6.out.below hbr7)
          have HTr7 := Lib.hid (HTr6.out.below hbr7)
          clear hbr7 HTr6 Vrx6 Vry6 Vra6 Vrb6 Vrv6
          clear hc
          go_wp2_with fail
          go_ret
          exact ⟨by simp, HTr7.out.bel⟩
end Go.Proofs.Ytmimafbedbohiaa
