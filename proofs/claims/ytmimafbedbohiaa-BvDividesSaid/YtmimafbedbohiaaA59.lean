import Derived.Test.YtmimafbedbohiaaP9
import Derived.Test.YtmimafbedbohiaaA57
import Derived.Test.YtmimafbedbohiaaB11
import Derived.Test.YtmimafbedbohiaaB10
import Derived.Deep.CutRange
import Derived.Deep.QuietTactic
import Derived.BigQuiet
namespace Go.Proofs.Ytmimafbedbohiaa
set_option linter.unusedVariables false
open Go.RowKit

theorem nz_all (n : Nat) : nz (notN n (notN n 0)) = false := by
  have h : 0 < 2 ^ n := Nat.pow_pos (by decide)
  have : notN n (notN n 0) = 0 := by unfold notN; omega
  rw [this]; rfl
theorem b2n_bit (q : Bool) : bitI (b2n q) 0 = q := by cases q <;> rfl

set_option maxRecDepth 100000 in
set_option maxHeartbeats 16000000 in
theorem divides_law {w : World} {p : Option Addr} {n0 c m1 : Nat} {f g : Nat → Bool} {vb : Value} (hA : RO w (.slice p n0 c) 1 n0 (bools (rl n0 f))) (hc : n0 ≤ c) (hn0 : n0 ≤ 1000000000000000000) (hB : RO w vb 1 m1 (bools (rl m1 g))) :
    Calls Try.prog 8 #[.slice p n0 c, vb] w fun e w' => e = .returned (.bool true) ∧ Below w.heap.size w w' := by
  obtain ⟨pb, cb, rfl⟩ := hB.form
  have HAw := Lib.hid (awake_any w)
  have HSh := Lib.hid (fun w' (hb : Below w.heap.size w w') => short_any (hA.below hb) hc hn0)
  have HB0 := Lib.hid hB
  obtain ⟨n, hn⟩ : ∃ n, min n0 140 = n := ⟨_, rfl⟩
  have HA0 : Hid (RO w (.slice p n c) 1 n (bools (rl n f))) := Lib.hid (hA.short (by omega))
  rw [hn] at HSh
  have hn1 : n ≤ 140 := by omega
  have hni : (n : Int) ≤ 140 := by omega
  clear hA hB hc hn0 hn
  go_enter Try.func8, Try.ntmps8
  go_wp2_with fail
  refine HAw.out.mono ?_; rintro e w1 ⟨rfl, hb1⟩
  have HB1 := Lib.hid hb1
  clear hb1
  go_wp2_with fail
  refine (HSh.out _ HB1.out).mono ?_; rintro e w1' ⟨rfl, rfl⟩
  by_cases h0 : n = 0
  · subst h0
    go_wp2_with fail
    go_ret
    exact ⟨rfl, HB1.out⟩
  by_cases h1 : 128 < n
  · have hd : ((n : Int) == 0) = false := by simp; omega
    have hi : (128 : Int) < n := by omega
    clear h0 h1
    go_wp2_with fail
    go_ret
    exact ⟨rfl, HB1.out⟩
  have hd : ((n : Int) == 0) = false := by simp; omega
  have hi : (n : Int) ≤ 128 := by omega
  have HN := Lib.hid (And.intro (show 1 ≤ n by omega) (show n ≤ 128 by omega))
  have HA : Hid (RO w1 (.slice p n c) 1 n (bools (rl n f))) := Lib.hid (HA0.out.below HB1.out)
  clear h0 h1 hn1 hni
  go_wp2_with fail
  refine (own_good HA.out HN.out.1 HN.out.2).mono ?_; rintro e w2 ⟨vx, rfl, hvx, hb2, _⟩
  obtain ⟨px, cx, rfl, _⟩ := hvx.ex
  have HX := Lib.hid (And.intro hvx (HB1.out.trans (hb2.mono HB1.out.size)))
  clear hvx hb2
  go_wp2_with fail
  refine (fit_any (HB0.out.below HX.out.2) (Nat.le_trans HN.out.2 (by decide))).mono ?_; rintro e w3 ⟨vf, rfl, hf, hb3⟩
  obtain ⟨pf, cf, rfl⟩ := hf.form
  have HF := Lib.hid (And.intro hf hb3)
  clear hf hb3
  go_wp2_with fail
  refine (own_good HF.out.1 HN.out.1 HN.out.2).mono ?_; rintro e w4 ⟨vy, rfl, hvy, hb4, _⟩
  obtain ⟨py, cy, rfl, _⟩ := hvy.ex
  have HB4 := Lib.hid ((HX.out.2.trans (HF.out.2.mono HX.out.2.size)))
  have HB5 := Lib.hid (HB4.out.trans (hb4.mono HB4.out.size))
  have HY := Lib.hid (And.intro ((HX.out.1.below HF.out.2).below hb4) hvy)
  clear hvy hb4
  have HT6 := Lib.hid ((((Tr.nil w).below HB5.out).lay 26 [.int .i64 n, .slice px (wcount n) cx]).lay 26 [.int .i64 n, .slice py (wcount n) cy])
  have hbl : Below w4.heap.size w4 ((w4.alloc (.cells [Value.int .i64 n, .slice px (wcount n) cx].toArray 26)).alloc (.cells [Value.int .i64 n, .slice py (wcount n) cy].toArray 26)) := (Below.new _ _).alloc (by simp) _
  have HV6 := Lib.hid (And.intro (HY.out.1.below hbl) (HY.out.2.below hbl))
  simp only [World.size_alloc] at HT6
  obtain ⟨X, hX⟩ : ∃ X, ofB f n = X := ⟨_, rfl⟩
  obtain ⟨Y, hY⟩ : ∃ Y, ofB (fitF g m1) n = Y := ⟨_, rfl⟩
  have HXY := Lib.hid (And.intro (show X < 2 ^ n by rw [← hX]; exact ofB_lt _ _) (show Y < 2 ^ n by rw [← hY]; exact ofB_lt _ _))
  rw [hX, hY] at HV6
  clear hbl hX hY HAw HSh HB0 HA0 HB1 HA HX HF HB4 HB5 HY
  go_upto_region 7 with fail
  generalize (w4.alloc (.cells #[Value.int .i64 n, .slice px (wcount n) cx] 26)).alloc (.cells #[Value.int .i64 n, .slice py (wcount n) cy] 26) = W6 at *
  go_wp2_with fail
  have HT7 := Lib.hid (HT6.out.lay 57 [.int .i64 3, .int .i64 4, .int .i64 5, .int .i64 6])
  have HV7 := Lib.hid (And.intro (HV6.out.1.below (Below.new W6 (.cells [.int .i64 3, .int .i64 4, .int .i64 5, .int .i64 6].toArray 57))) (HV6.out.2.below (Below.new W6 (.cells [.int .i64 3, .int .i64 4, .int .i64 5, .int .i64 6].toArray 57))))
  generalize W6.alloc (.cells #[.int .i64 3, .int .i64 4, .int .i64 5, .int .i64 6] 57) = W7 at *
  clear HT6 HV6
  go_loopw [48] (fun iv wr => ∃ k : Nat, k ≤ 2 ∧ iv = .int .i64 k ∧ Tr w [(W6.heap.size, 57, [.int .i64 3, .int .i64 4, .int .i64 5, .int .i64 6]), (w4.heap.size + 1, 26, [.int .i64 n, .slice py (wcount n) cy]), (w4.heap.size, 26, [.int .i64 n, .slice px (wcount n) cx])] wr ∧ VR wr (.agg #[.int .i64 n, .slice px (wcount n) cx]) n X ∧ VR wr (.agg #[.int .i64 n, .slice py (wcount n) cy]) n Y) (fun iv _ => 2 - (intOf iv).toNat)
  case atStart => exact ⟨0, by omega, rfl, HT7.out, HV7.out.1, HV7.out.2⟩
  case round =>
    obtain ⟨k, hk, rfl, hT, hx, hy⟩ := hrel
    have HTz0 := Lib.hid hT
    have Vzx0 := Lib.hid hx
    have Vzy0 := Lib.hid hy
    clear hT hx hy HT7 HV7
    match k, hk with
    | 0, _ =>
      have g0 := (HTz0.out.at 0 rfl).cell (i := 0) rfl
      have g1 := (HTz0.out.at 0 rfl).cell (i := 1) rfl
      have g2 := (HTz0.out.at 0 rfl).cell (i := 2) rfl
      have g3 := (HTz0.out.at 0 rfl).cell (i := 3) rfl
      clear hk
      go_upto_region 10 with fail
      clear g0 g1 g2 g3
      have Vzx1 := Lib.hid (Vzx0.out.below (Below.new wr (.cells [.int .i64 3, .int .i64 4].toArray 57)))
      have Vzy1 := Lib.hid (Vzy0.out.below (Below.new wr (.cells [.int .i64 3, .int .i64 4].toArray 57)))
      have HTz1 := Lib.hid (HTz0.out.lay 57 [.int .i64 3, .int .i64 4])
      generalize wr.alloc (.cells #[Value.int .i64 3, .int .i64 4] 57) = W9 at *
      generalize wr.heap.size = L8 at *
      obtain ⟨Q, hQ⟩ : ∃ Q, divOp 3 n X Y = Q := ⟨_, rfl⟩
      obtain ⟨M, hM⟩ : ∃ Q, divOp 4 n X Y = Q := ⟨_, rfl⟩
      have HQ := Lib.hid hQ
      have HM := Lib.hid hM
      clear hQ hM
      have q0a := (HTz1.out.pr 3 rfl).1
      have q0b := (HTz1.out.pr 3 rfl).2
      have q1a := (HTz1.out.pr 2 rfl).1
      have q1b := (HTz1.out.pr 2 rfl).2
      have q2a := (HTz1.out.pr 0 rfl).1
      have q2b := (HTz1.out.pr 0 rfl).2
      go_wp2_with fail
      have hc := bin_3 Vzx1.out Vzy1.out HN.out.1
      rw [HQ.out] at hc
      replace hc := Lib.hid hc
      refine (hc.out).mono ?_; rintro e wz2 ⟨vz2, rfl, hvz2, hbz2⟩
      obtain ⟨pz2, cz2, rfl, _⟩ := hvz2.ex
      have HBnz2 := Lib.hid (Below.new wz2 (.cells #[.int .i64 n, .slice pz2 (wcount n) cz2] 26))
      have Vzx2 := Lib.hid ((Vzx1.out.below hbz2).below HBnz2.out)
      have Vzy2 := Lib.hid ((Vzy1.out.below hbz2).below HBnz2.out)
      have HTz2 := Lib.hid ((HTz1.out.below hbz2).lay 26 [.int .i64 n, .slice pz2 (wcount n) cz2])
      have Vzq2 := Lib.hid (hvz2.below HBnz2.out)
      clear hvz2 hbz2 HTz1 Vzx1 Vzy1
      clear hc
      clear q0a q0b q1a q1b q2a q2b
      have q0a := (HTz2.out.pr 4 rfl).1
      have q0b := (HTz2.out.pr 4 rfl).2
      have q1a := (HTz2.out.pr 3 rfl).1
      have q1b := (HTz2.out.pr 3 rfl).2
      have q2a := (HTz2.out.pr 1 rfl).1
      have q2b := (HTz2.out.pr 1 rfl).2
      go_wp2_with fail
      generalize wz2.alloc (.cells #[Value.int .i64 n, .slice pz2 (wcount n) cz2] 26) = Wz2 at *
      have hc := bin_4 Vzx2.out Vzy2.out HN.out.1
      rw [HM.out] at hc
      replace hc := Lib.hid hc
      refine (hc.out).mono ?_; rintro e wz3 ⟨vz3, rfl, hvz3, hbz3⟩
      obtain ⟨pz3, cz3, rfl, _⟩ := hvz3.ex
      have HBnz3 := Lib.hid (Below.new wz3 (.cells #[.int .i64 n, .slice pz3 (wcount n) cz3] 26))
      have Vzx3 := Lib.hid ((Vzx2.out.below hbz3).below HBnz3.out)
      have Vzy3 := Lib.hid ((Vzy2.out.below hbz3).below HBnz3.out)
      have Vzq3 := Lib.hid ((Vzq2.out.below hbz3).below HBnz3.out)
      have HTz3 := Lib.hid ((HTz2.out.below hbz3).lay 26 [.int .i64 n, .slice pz3 (wcount n) cz3])
      have Vzm3 := Lib.hid (hvz3.below HBnz3.out)
      clear hvz3 hbz3 HTz2 Vzx2 Vzy2 Vzq2
      clear hc
      clear q0a q0b q1a q1b q2a q2b
      have q0a := (HTz3.out.pr 4 rfl).1
      have q0b := (HTz3.out.pr 4 rfl).2
      go_wp2_with fail
      generalize wz3.alloc (.cells #[Value.int .i64 n, .slice pz3 (wcount n) cz3] 26) = Wz3 at *
      refine (un_5 Vzy3.out HN.out.1).mono ?_; rintro e wz4 ⟨vz4, rfl, hvz4, hbz4, _⟩
      obtain ⟨pz4, cz4, rfl, _⟩ := hvz4.ex
      have HBnz4 := Lib.hid (Below.new wz4 (.cells #[.int .i64 1, .slice pz4 (wcount 1) cz4] 26))
      have Vzx4 := Lib.hid ((Vzx3.out.below hbz4).below HBnz4.out)
      have Vzy4 := Lib.hid ((Vzy3.out.below hbz4).below HBnz4.out)
      have Vzq4 := Lib.hid ((Vzq3.out.below hbz4).below HBnz4.out)
      have Vzm4 := Lib.hid ((Vzm3.out.below hbz4).below HBnz4.out)
      have HTz4 := Lib.hid ((HTz3.out.below hbz4).lay 26 [.int .i64 1, .slice pz4 (wcount 1) cz4])
      have Vzzr4 := Lib.hid (hvz4.below HBnz4.out)
      clear hvz4 hbz4 HTz3 Vzx3 Vzy3 Vzq3 Vzm3
      clear q0a q0b
      have q0a := (HTz4.out.pr 0 rfl).1
      have q0b := (HTz4.out.pr 0 rfl).2
      by_cases h0 : Y = 0
      · have hz : nz Y = false := by rw [h0]; rfl
        have hqq : Q = notN n 0 := by rw [← HQ.out, h0]; simp [divOp, divN]
        have hmm : M = X := by rw [← HM.out, h0]; simp [divOp]
        have HQM := Lib.hid (And.intro hqq hmm)
        clear hqq hmm h0
        go_wp2_with fail
        generalize wz4.alloc (.cells #[Value.int .i64 1, .slice pz4 (wcount 1) cz4] 26) = Wz4 at *
        have hc := bit_any Vzzr4.out 0
        rw [b2n_bit, hz] at hc
        replace hc := Lib.hid hc
        refine (hc.out).mono ?_; rintro e wz5 ⟨rfl, hbz5⟩
        have Vzx5 := Lib.hid (Vzx4.out.below hbz5)
        have Vzy5 := Lib.hid (Vzy4.out.below hbz5)
        have Vzq5 := Lib.hid (Vzq4.out.below hbz5)
        have Vzm5 := Lib.hid (Vzm4.out.below hbz5)
        have Vzzr5 := Lib.hid (Vzzr4.out.below hbz5)
        have HTz5 := Lib.hid (HTz4.out.below hbz5)
        clear hbz5 HTz4 Vzx4 Vzy4 Vzq4 Vzm4 Vzzr4
        clear hc
        clear q0a q0b
        have q0a := (HTz5.out.pr 2 rfl).1
        have q0b := (HTz5.out.pr 2 rfl).2
        go_wp2_with fail
        have hc := un_2 Vzq5.out HN.out.1
        rw [HQM.out.1, nz_all] at hc
        replace hc := Lib.hid hc
        refine (hc.out).mono ?_; rintro e wz6 ⟨vz6, rfl, hvz6, hbz6, _⟩
        obtain ⟨pz6, cz6, rfl, _⟩ := hvz6.ex
        have HBnz6 := Lib.hid (Below.new wz6 (.cells #[.int .i64 1, .slice pz6 (wcount 1) cz6] 26))
        have Vzx6 := Lib.hid ((Vzx5.out.below hbz6).below HBnz6.out)
        have Vzy6 := Lib.hid ((Vzy5.out.below hbz6).below HBnz6.out)
        have Vzq6 := Lib.hid ((Vzq5.out.below hbz6).below HBnz6.out)
        have Vzm6 := Lib.hid ((Vzm5.out.below hbz6).below HBnz6.out)
        have Vzzr6 := Lib.hid ((Vzzr5.out.below hbz6).below HBnz6.out)
        have HTz6 := Lib.hid ((HTz5.out.below hbz6).lay 26 [.int .i64 1, .slice pz6 (wcount 1) cz6])
        have Vzon6 := Lib.hid (hvz6.below HBnz6.out)
        clear hvz6 hbz6 HTz5 Vzx5 Vzy5 Vzq5 Vzm5 Vzzr5
        clear hc
        clear q0a q0b
        have q0a := (HTz6.out.pr 0 rfl).1
        have q0b := (HTz6.out.pr 0 rfl).2
        go_wp2_with fail
        generalize wz6.alloc (.cells #[Value.int .i64 1, .slice pz6 (wcount 1) cz6] 26) = Wz6 at *
        have hc := bit_any Vzon6.out 0
        rw [b2n_bit] at hc
        replace hc := Lib.hid hc
        refine (hc.out).mono ?_; rintro e wz7 ⟨rfl, hbz7⟩
        have Vzx7 := Lib.hid (Vzx6.out.below hbz7)
        have Vzy7 := Lib.hid (Vzy6.out.below hbz7)
        have Vzq7 := Lib.hid (Vzq6.out.below hbz7)
        have Vzm7 := Lib.hid (Vzm6.out.below hbz7)
        have Vzzr7 := Lib.hid (Vzzr6.out.below hbz7)
        have Vzon7 := Lib.hid (Vzon6.out.below hbz7)
        have HTz7 := Lib.hid (HTz6.out.below hbz7)
        clear hbz7 HTz6 Vzx6 Vzy6 Vzq6 Vzm6 Vzzr6 Vzon6
        clear hc
        clear q0a q0b
        have q0a := (HTz7.out.pr 2 rfl).1
        have q0b := (HTz7.out.pr 2 rfl).2
        have q1a := (HTz7.out.pr 7 rfl).1
        have q1b := (HTz7.out.pr 7 rfl).2
        go_wp2_with fail
        have hc := equal_any Vzm7.out Vzx7.out
        rw [show decide (n = n ∧ M = X) = true by rw [HQM.out.2]; simp] at hc
        replace hc := Lib.hid hc
        refine (hc.out).mono ?_; rintro e wz8 ⟨rfl, hbz8⟩
        have Vzx8 := Lib.hid (Vzx7.out.below hbz8)
        have Vzy8 := Lib.hid (Vzy7.out.below hbz8)
        have Vzq8 := Lib.hid (Vzq7.out.below hbz8)
        have Vzm8 := Lib.hid (Vzm7.out.below hbz8)
        have Vzzr8 := Lib.hid (Vzzr7.out.below hbz8)
        have Vzon8 := Lib.hid (Vzon7.out.below hbz8)
        have HTz8 := Lib.hid (HTz7.out.below hbz8)
        clear hbz8 HTz7 Vzx7 Vzy7 Vzq7 Vzm7 Vzzr7 Vzon7
        clear hc
        clear q0a q0b q1a q1b
        go_wp2_with fail
        go_roundw
        case rel => exact ⟨1, by omega, by go_num, HTz8.out.subs (by simp) (by have := HTz8.out.nd; simp at this ⊢; omega), Vzx8.out, Vzy8.out⟩
        case measure => simp [intOf]
      · have hz : nz Y = true := by simp [nz, h0]
        have HBack : Hid ((Q * Y % 2 ^ n + M + 0) % 2 ^ n = X) := Lib.hid (by rw [← HQ.out, ← HM.out]; exact udiv_back HXY.out.1 h0)
        have HLt : Hid (M < Y) := Lib.hid (by rw [← HM.out]; exact Nat.mod_lt _ (by omega))
        clear h0
        go_wp2_with fail
        generalize wz4.alloc (.cells #[Value.int .i64 1, .slice pz4 (wcount 1) cz4] 26) = Wz4 at *
        have hc := bit_any Vzzr4.out 0
        rw [b2n_bit, hz] at hc
        replace hc := Lib.hid hc
        refine (hc.out).mono ?_; rintro e wz5 ⟨rfl, hbz5⟩
        have Vzx5 := Lib.hid (Vzx4.out.below hbz5)
        have Vzy5 := Lib.hid (Vzy4.out.below hbz5)
        have Vzq5 := Lib.hid (Vzq4.out.below hbz5)
        have Vzm5 := Lib.hid (Vzm4.out.below hbz5)
        have Vzzr5 := Lib.hid (Vzzr4.out.below hbz5)
        have HTz5 := Lib.hid (HTz4.out.below hbz5)
        clear hbz5 HTz4 Vzx4 Vzy4 Vzq4 Vzm4 Vzzr4
        clear hc
        clear q0a q0b
        have q0a := (HTz5.out.pr 2 rfl).1
        have q0b := (HTz5.out.pr 2 rfl).2
        have q1a := (HTz5.out.pr 5 rfl).1
        have q1b := (HTz5.out.pr 5 rfl).2
        go_wp2_with fail
        refine (bin_2 Vzq5.out Vzy5.out HN.out.1).mono ?_; rintro e wz6 ⟨vz6, rfl, hvz6, hbz6, _⟩
        obtain ⟨pz6, cz6, rfl, _⟩ := hvz6.ex
        have HBnz6 := Lib.hid (Below.new wz6 (.cells #[.int .i64 n, .slice pz6 (wcount n) cz6] 26))
        have Vzx6 := Lib.hid ((Vzx5.out.below hbz6).below HBnz6.out)
        have Vzy6 := Lib.hid ((Vzy5.out.below hbz6).below HBnz6.out)
        have Vzq6 := Lib.hid ((Vzq5.out.below hbz6).below HBnz6.out)
        have Vzm6 := Lib.hid ((Vzm5.out.below hbz6).below HBnz6.out)
        have Vzzr6 := Lib.hid ((Vzzr5.out.below hbz6).below HBnz6.out)
        have HTz6 := Lib.hid ((HTz5.out.below hbz6).lay 26 [.int .i64 n, .slice pz6 (wcount n) cz6])
        have Vzp6 := Lib.hid (hvz6.below HBnz6.out)
        clear hvz6 hbz6 HTz5 Vzx5 Vzy5 Vzq5 Vzm5 Vzzr5
        clear q0a q0b q1a q1b
        have q0a := (HTz6.out.pr 0 rfl).1
        have q0b := (HTz6.out.pr 0 rfl).2
        have q1a := (HTz6.out.pr 2 rfl).1
        have q1b := (HTz6.out.pr 2 rfl).2
        go_wp2_with fail
        generalize wz6.alloc (.cells #[Value.int .i64 n, .slice pz6 (wcount n) cz6] 26) = Wz6 at *
        refine (bin_0 Vzp6.out Vzm6.out HN.out.1).mono ?_; rintro e wz7 ⟨vz7, rfl, hvz7, hbz7, _⟩
        obtain ⟨pz7, cz7, rfl, _⟩ := hvz7.ex
        have HBnz7 := Lib.hid (Below.new wz7 (.cells #[.int .i64 n, .slice pz7 (wcount n) cz7] 26))
        have Vzx7 := Lib.hid ((Vzx6.out.below hbz7).below HBnz7.out)
        have Vzy7 := Lib.hid ((Vzy6.out.below hbz7).below HBnz7.out)
        have Vzq7 := Lib.hid ((Vzq6.out.below hbz7).below HBnz7.out)
        have Vzm7 := Lib.hid ((Vzm6.out.below hbz7).below HBnz7.out)
        have Vzzr7 := Lib.hid ((Vzzr6.out.below hbz7).below HBnz7.out)
        have Vzp7 := Lib.hid ((Vzp6.out.below hbz7).below HBnz7.out)
        have HTz7 := Lib.hid ((HTz6.out.below hbz7).lay 26 [.int .i64 n, .slice pz7 (wcount n) cz7])
        have Vzs7 := Lib.hid (hvz7.below HBnz7.out)
        clear hvz7 hbz7 HTz6 Vzx6 Vzy6 Vzq6 Vzm6 Vzzr6 Vzp6
        clear q0a q0b q1a q1b
        have q0a := (HTz7.out.pr 0 rfl).1
        have q0b := (HTz7.out.pr 0 rfl).2
        have q1a := (HTz7.out.pr 8 rfl).1
        have q1b := (HTz7.out.pr 8 rfl).2
        go_wp2_with fail
        generalize wz7.alloc (.cells #[Value.int .i64 n, .slice pz7 (wcount n) cz7] 26) = Wz7 at *
        have hc := equal_any Vzs7.out Vzx7.out
        rw [HBack.out, show decide (n = n ∧ X = X) = true by simp] at hc
        replace hc := Lib.hid hc
        refine (hc.out).mono ?_; rintro e wz8 ⟨rfl, hbz8⟩
        have Vzx8 := Lib.hid (Vzx7.out.below hbz8)
        have Vzy8 := Lib.hid (Vzy7.out.below hbz8)
        have Vzq8 := Lib.hid (Vzq7.out.below hbz8)
        have Vzm8 := Lib.hid (Vzm7.out.below hbz8)
        have Vzzr8 := Lib.hid (Vzzr7.out.below hbz8)
        have Vzp8 := Lib.hid (Vzp7.out.below hbz8)
        have Vzs8 := Lib.hid (Vzs7.out.below hbz8)
        have HTz8 := Lib.hid (HTz7.out.below hbz8)
        clear hbz8 HTz7 Vzx7 Vzy7 Vzq7 Vzm7 Vzzr7 Vzp7 Vzs7
        clear hc
        clear q0a q0b q1a q1b
        have q0a := (HTz8.out.pr 3 rfl).1
        have q0b := (HTz8.out.pr 3 rfl).2
        have q1a := (HTz8.out.pr 7 rfl).1
        have q1b := (HTz8.out.pr 7 rfl).2
        go_wp2_with fail
        refine (bin_15 Vzm8.out Vzy8.out HN.out.1).mono ?_; rintro e wz9 ⟨vz9, rfl, hvz9, hbz9, _⟩
        obtain ⟨pz9, cz9, rfl, _⟩ := hvz9.ex
        have HBnz9 := Lib.hid (Below.new wz9 (.cells #[.int .i64 1, .slice pz9 (wcount 1) cz9] 26))
        have Vzx9 := Lib.hid ((Vzx8.out.below hbz9).below HBnz9.out)
        have Vzy9 := Lib.hid ((Vzy8.out.below hbz9).below HBnz9.out)
        have Vzq9 := Lib.hid ((Vzq8.out.below hbz9).below HBnz9.out)
        have Vzm9 := Lib.hid ((Vzm8.out.below hbz9).below HBnz9.out)
        have Vzzr9 := Lib.hid ((Vzzr8.out.below hbz9).below HBnz9.out)
        have Vzp9 := Lib.hid ((Vzp8.out.below hbz9).below HBnz9.out)
        have Vzs9 := Lib.hid ((Vzs8.out.below hbz9).below HBnz9.out)
        have HTz9 := Lib.hid ((HTz8.out.below hbz9).lay 26 [.int .i64 1, .slice pz9 (wcount 1) cz9])
        have Vzl9 := Lib.hid (hvz9.below HBnz9.out)
        clear hvz9 hbz9 HTz8 Vzx8 Vzy8 Vzq8 Vzm8 Vzzr8 Vzp8 Vzs8
        clear q0a q0b q1a q1b
        have q0a := (HTz9.out.pr 6 rfl).1
        have q0b := (HTz9.out.pr 6 rfl).2
        have q1a := (HTz9.out.pr 0 rfl).1
        have q1b := (HTz9.out.pr 0 rfl).2
        go_wp2_with fail
        generalize wz9.alloc (.cells #[Value.int .i64 1, .slice pz9 (wcount 1) cz9] 26) = Wz9 at *
        have hc := bit_any Vzl9.out 0
        rw [b2n_bit, show cmpB 15 n M Y = true from decide_eq_true HLt.out] at hc
        replace hc := Lib.hid hc
        refine (hc.out).mono ?_; rintro e wz10 ⟨rfl, hbz10⟩
        have Vzx10 := Lib.hid (Vzx9.out.below hbz10)
        have Vzy10 := Lib.hid (Vzy9.out.below hbz10)
        have Vzq10 := Lib.hid (Vzq9.out.below hbz10)
        have Vzm10 := Lib.hid (Vzm9.out.below hbz10)
        have Vzzr10 := Lib.hid (Vzzr9.out.below hbz10)
        have Vzp10 := Lib.hid (Vzp9.out.below hbz10)
        have Vzs10 := Lib.hid (Vzs9.out.below hbz10)
        have Vzl10 := Lib.hid (Vzl9.out.below hbz10)
        have HTz10 := Lib.hid (HTz9.out.below hbz10)
        clear hbz10 HTz9 Vzx9 Vzy9 Vzq9 Vzm9 Vzzr9 Vzp9 Vzs9 Vzl9
        clear hc
        clear q0a q0b q1a q1b
        have q0a := (HTz10.out.pr 4 rfl).1
        have q0b := (HTz10.out.pr 4 rfl).2
        go_wp2_with fail
        refine (un_5 Vzm10.out HN.out.1).mono ?_; rintro e wz11 ⟨vz11, rfl, hvz11, hbz11, _⟩
        obtain ⟨pz11, cz11, rfl, _⟩ := hvz11.ex
        have HBnz11 := Lib.hid (Below.new wz11 (.cells #[.int .i64 1, .slice pz11 (wcount 1) cz11] 26))
        have Vzx11 := Lib.hid ((Vzx10.out.below hbz11).below HBnz11.out)
        have Vzy11 := Lib.hid ((Vzy10.out.below hbz11).below HBnz11.out)
        have Vzq11 := Lib.hid ((Vzq10.out.below hbz11).below HBnz11.out)
        have Vzm11 := Lib.hid ((Vzm10.out.below hbz11).below HBnz11.out)
        have Vzzr11 := Lib.hid ((Vzzr10.out.below hbz11).below HBnz11.out)
        have Vzp11 := Lib.hid ((Vzp10.out.below hbz11).below HBnz11.out)
        have Vzs11 := Lib.hid ((Vzs10.out.below hbz11).below HBnz11.out)
        have Vzl11 := Lib.hid ((Vzl10.out.below hbz11).below HBnz11.out)
        have HTz11 := Lib.hid ((HTz10.out.below hbz11).lay 26 [.int .i64 1, .slice pz11 (wcount 1) cz11])
        have Vzr11 := Lib.hid (hvz11.below HBnz11.out)
        clear hvz11 hbz11 HTz10 Vzx10 Vzy10 Vzq10 Vzm10 Vzzr10 Vzp10 Vzs10 Vzl10
        clear q0a q0b
        have q0a := (HTz11.out.pr 7 rfl).1
        have q0b := (HTz11.out.pr 7 rfl).2
        go_upto_region 27 with fail
        generalize wz11.alloc (.cells #[Value.int .i64 1, .slice pz11 (wcount 1) cz11] 26) = Wz11 at *
        have al := After.cell (HTz11.out.pr 7 rfl).1
        refine wp_region_after (by kernel_rfl) (by kernel_rfl) ?_
        repeat (go_big_quiet_step (fail))
        refine wpQuiet_nil ?_
        rintro _ ⟨s, rfl⟩
        clear al
        have Vzx12 := Lib.hid (Vzx11.out.below s.below)
        have Vzy12 := Lib.hid (Vzy11.out.below s.below)
        have Vzq12 := Lib.hid (Vzq11.out.below s.below)
        have Vzm12 := Lib.hid (Vzm11.out.below s.below)
        have Vzzr12 := Lib.hid (Vzzr11.out.below s.below)
        have Vzp12 := Lib.hid (Vzp11.out.below s.below)
        have Vzs12 := Lib.hid (Vzs11.out.below s.below)
        have Vzl12 := Lib.hid (Vzl11.out.below s.below)
        have Vzr12 := Lib.hid (Vzr11.out.below s.below)
        have HTz12 := Lib.hid (HTz11.out.below s.below)
        generalize s.val = W99 at *
        clear q0a q0b
        go_wp2_with fail
        go_roundw
        case rel => exact ⟨1, by omega, by go_num, HTz12.out.subs (by simp) (by have := HTz12.out.nd; simp at this ⊢; omega), Vzx12.out, Vzy12.out⟩
        case measure => simp [intOf]
    | 1, _ =>
      have g0 := (HTz0.out.at 0 rfl).cell (i := 0) rfl
      have g1 := (HTz0.out.at 0 rfl).cell (i := 1) rfl
      have g2 := (HTz0.out.at 0 rfl).cell (i := 2) rfl
      have g3 := (HTz0.out.at 0 rfl).cell (i := 3) rfl
      clear hk
      go_upto_region 10 with fail
      clear g0 g1 g2 g3
      have Vzx1 := Lib.hid (Vzx0.out.below (Below.new wr (.cells [.int .i64 5, .int .i64 6].toArray 57)))
      have Vzy1 := Lib.hid (Vzy0.out.below (Below.new wr (.cells [.int .i64 5, .int .i64 6].toArray 57)))
      have HTz1 := Lib.hid (HTz0.out.lay 57 [.int .i64 5, .int .i64 6])
      generalize wr.alloc (.cells #[Value.int .i64 5, .int .i64 6] 57) = W9 at *
      generalize wr.heap.size = L8 at *
      obtain ⟨Q, hQ⟩ : ∃ Q, divOp 5 n X Y = Q := ⟨_, rfl⟩
      obtain ⟨M, hM⟩ : ∃ Q, divOp 6 n X Y = Q := ⟨_, rfl⟩
      have HQ := Lib.hid hQ
      have HM := Lib.hid hM
      clear hQ hM
      have q0a := (HTz1.out.pr 3 rfl).1
      have q0b := (HTz1.out.pr 3 rfl).2
      have q1a := (HTz1.out.pr 2 rfl).1
      have q1b := (HTz1.out.pr 2 rfl).2
      have q2a := (HTz1.out.pr 0 rfl).1
      have q2b := (HTz1.out.pr 0 rfl).2
      go_wp2_with fail
      have hc := bin_5 Vzx1.out Vzy1.out HN.out.1
      rw [HQ.out] at hc
      replace hc := Lib.hid hc
      refine (hc.out).mono ?_; rintro e wz2 ⟨vz2, rfl, hvz2, hbz2⟩
      obtain ⟨pz2, cz2, rfl, _⟩ := hvz2.ex
      have HBnz2 := Lib.hid (Below.new wz2 (.cells #[.int .i64 n, .slice pz2 (wcount n) cz2] 26))
      have Vzx2 := Lib.hid ((Vzx1.out.below hbz2).below HBnz2.out)
      have Vzy2 := Lib.hid ((Vzy1.out.below hbz2).below HBnz2.out)
      have HTz2 := Lib.hid ((HTz1.out.below hbz2).lay 26 [.int .i64 n, .slice pz2 (wcount n) cz2])
      have Vzq2 := Lib.hid (hvz2.below HBnz2.out)
      clear hvz2 hbz2 HTz1 Vzx1 Vzy1
      clear hc
      clear q0a q0b q1a q1b q2a q2b
      have q0a := (HTz2.out.pr 4 rfl).1
      have q0b := (HTz2.out.pr 4 rfl).2
      have q1a := (HTz2.out.pr 3 rfl).1
      have q1b := (HTz2.out.pr 3 rfl).2
      have q2a := (HTz2.out.pr 1 rfl).1
      have q2b := (HTz2.out.pr 1 rfl).2
      go_wp2_with fail
      generalize wz2.alloc (.cells #[Value.int .i64 n, .slice pz2 (wcount n) cz2] 26) = Wz2 at *
      have hc := bin_6 Vzx2.out Vzy2.out HN.out.1
      rw [HM.out] at hc
      replace hc := Lib.hid hc
      refine (hc.out).mono ?_; rintro e wz3 ⟨vz3, rfl, hvz3, hbz3⟩
      obtain ⟨pz3, cz3, rfl, _⟩ := hvz3.ex
      have HBnz3 := Lib.hid (Below.new wz3 (.cells #[.int .i64 n, .slice pz3 (wcount n) cz3] 26))
      have Vzx3 := Lib.hid ((Vzx2.out.below hbz3).below HBnz3.out)
      have Vzy3 := Lib.hid ((Vzy2.out.below hbz3).below HBnz3.out)
      have Vzq3 := Lib.hid ((Vzq2.out.below hbz3).below HBnz3.out)
      have HTz3 := Lib.hid ((HTz2.out.below hbz3).lay 26 [.int .i64 n, .slice pz3 (wcount n) cz3])
      have Vzm3 := Lib.hid (hvz3.below HBnz3.out)
      clear hvz3 hbz3 HTz2 Vzx2 Vzy2 Vzq2
      clear hc
      clear q0a q0b q1a q1b q2a q2b
      have q0a := (HTz3.out.pr 4 rfl).1
      have q0b := (HTz3.out.pr 4 rfl).2
      go_wp2_with fail
      generalize wz3.alloc (.cells #[Value.int .i64 n, .slice pz3 (wcount n) cz3] 26) = Wz3 at *
      refine (un_5 Vzy3.out HN.out.1).mono ?_; rintro e wz4 ⟨vz4, rfl, hvz4, hbz4, _⟩
      obtain ⟨pz4, cz4, rfl, _⟩ := hvz4.ex
      have HBnz4 := Lib.hid (Below.new wz4 (.cells #[.int .i64 1, .slice pz4 (wcount 1) cz4] 26))
      have Vzx4 := Lib.hid ((Vzx3.out.below hbz4).below HBnz4.out)
      have Vzy4 := Lib.hid ((Vzy3.out.below hbz4).below HBnz4.out)
      have Vzq4 := Lib.hid ((Vzq3.out.below hbz4).below HBnz4.out)
      have Vzm4 := Lib.hid ((Vzm3.out.below hbz4).below HBnz4.out)
      have HTz4 := Lib.hid ((HTz3.out.below hbz4).lay 26 [.int .i64 1, .slice pz4 (wcount 1) cz4])
      have Vzzr4 := Lib.hid (hvz4.below HBnz4.out)
      clear hvz4 hbz4 HTz3 Vzx3 Vzy3 Vzq3 Vzm3
      clear q0a q0b
      have q0a := (HTz4.out.pr 0 rfl).1
      have q0b := (HTz4.out.pr 0 rfl).2
      by_cases h0 : Y = 0
      · have hz : nz Y = false := by rw [h0]; rfl
        have hqq : Q = notN n 0 := by rw [← HQ.out, h0]; simp [divOp, sdivZ]
        have hmm : M = X := by rw [← HM.out, h0]; simp [divOp, sremZ]
        have HQM := Lib.hid (And.intro hqq hmm)
        clear hqq hmm h0
        go_wp2_with fail
        generalize wz4.alloc (.cells #[Value.int .i64 1, .slice pz4 (wcount 1) cz4] 26) = Wz4 at *
        have hc := bit_any Vzzr4.out 0
        rw [b2n_bit, hz] at hc
        replace hc := Lib.hid hc
        refine (hc.out).mono ?_; rintro e wz5 ⟨rfl, hbz5⟩
        have Vzx5 := Lib.hid (Vzx4.out.below hbz5)
        have Vzy5 := Lib.hid (Vzy4.out.below hbz5)
        have Vzq5 := Lib.hid (Vzq4.out.below hbz5)
        have Vzm5 := Lib.hid (Vzm4.out.below hbz5)
        have Vzzr5 := Lib.hid (Vzzr4.out.below hbz5)
        have HTz5 := Lib.hid (HTz4.out.below hbz5)
        clear hbz5 HTz4 Vzx4 Vzy4 Vzq4 Vzm4 Vzzr4
        clear hc
        clear q0a q0b
        have q0a := (HTz5.out.pr 2 rfl).1
        have q0b := (HTz5.out.pr 2 rfl).2
        go_wp2_with fail
        have hc := un_2 Vzq5.out HN.out.1
        rw [HQM.out.1, nz_all] at hc
        replace hc := Lib.hid hc
        refine (hc.out).mono ?_; rintro e wz6 ⟨vz6, rfl, hvz6, hbz6, _⟩
        obtain ⟨pz6, cz6, rfl, _⟩ := hvz6.ex
        have HBnz6 := Lib.hid (Below.new wz6 (.cells #[.int .i64 1, .slice pz6 (wcount 1) cz6] 26))
        have Vzx6 := Lib.hid ((Vzx5.out.below hbz6).below HBnz6.out)
        have Vzy6 := Lib.hid ((Vzy5.out.below hbz6).below HBnz6.out)
        have Vzq6 := Lib.hid ((Vzq5.out.below hbz6).below HBnz6.out)
        have Vzm6 := Lib.hid ((Vzm5.out.below hbz6).below HBnz6.out)
        have Vzzr6 := Lib.hid ((Vzzr5.out.below hbz6).below HBnz6.out)
        have HTz6 := Lib.hid ((HTz5.out.below hbz6).lay 26 [.int .i64 1, .slice pz6 (wcount 1) cz6])
        have Vzon6 := Lib.hid (hvz6.below HBnz6.out)
        clear hvz6 hbz6 HTz5 Vzx5 Vzy5 Vzq5 Vzm5 Vzzr5
        clear hc
        clear q0a q0b
        have q0a := (HTz6.out.pr 0 rfl).1
        have q0b := (HTz6.out.pr 0 rfl).2
        go_wp2_with fail
        generalize wz6.alloc (.cells #[Value.int .i64 1, .slice pz6 (wcount 1) cz6] 26) = Wz6 at *
        have hc := bit_any Vzon6.out 0
        rw [b2n_bit] at hc
        replace hc := Lib.hid hc
        refine (hc.out).mono ?_; rintro e wz7 ⟨rfl, hbz7⟩
        have Vzx7 := Lib.hid (Vzx6.out.below hbz7)
        have Vzy7 := Lib.hid (Vzy6.out.below hbz7)
        have Vzq7 := Lib.hid (Vzq6.out.below hbz7)
        have Vzm7 := Lib.hid (Vzm6.out.below hbz7)
        have Vzzr7 := Lib.hid (Vzzr6.out.below hbz7)
        have Vzon7 := Lib.hid (Vzon6.out.below hbz7)
        have HTz7 := Lib.hid (HTz6.out.below hbz7)
        clear hbz7 HTz6 Vzx6 Vzy6 Vzq6 Vzm6 Vzzr6 Vzon6
        clear hc
        clear q0a q0b
        have q0a := (HTz7.out.pr 2 rfl).1
        have q0b := (HTz7.out.pr 2 rfl).2
        have q1a := (HTz7.out.pr 7 rfl).1
        have q1b := (HTz7.out.pr 7 rfl).2
        go_wp2_with fail
        have hc := equal_any Vzm7.out Vzx7.out
        rw [show decide (n = n ∧ M = X) = true by rw [HQM.out.2]; simp] at hc
        replace hc := Lib.hid hc
        refine (hc.out).mono ?_; rintro e wz8 ⟨rfl, hbz8⟩
        have Vzx8 := Lib.hid (Vzx7.out.below hbz8)
        have Vzy8 := Lib.hid (Vzy7.out.below hbz8)
        have Vzq8 := Lib.hid (Vzq7.out.below hbz8)
        have Vzm8 := Lib.hid (Vzm7.out.below hbz8)
        have Vzzr8 := Lib.hid (Vzzr7.out.below hbz8)
        have Vzon8 := Lib.hid (Vzon7.out.below hbz8)
        have HTz8 := Lib.hid (HTz7.out.below hbz8)
        clear hbz8 HTz7 Vzx7 Vzy7 Vzq7 Vzm7 Vzzr7 Vzon7
        clear hc
        clear q0a q0b q1a q1b
        go_wp2_with fail
        go_roundw
        case rel => exact ⟨2, by omega, by go_num, HTz8.out.subs (by simp) (by have := HTz8.out.nd; simp at this ⊢; omega), Vzx8.out, Vzy8.out⟩
        case measure => simp [intOf]
      · have hz : nz Y = true := by simp [nz, h0]
        have HBack : Hid ((Q * Y % 2 ^ n + M + 0) % 2 ^ n = X) := Lib.hid (by rw [← HQ.out, ← HM.out]; simp only [divOp, sdivZ, sremZ, h0, if_false, if_true, Nat.reduceEqDiff]; exact sdiv_back HXY.out.1 HXY.out.2 h0)
        have HTop : Hid (M ≠ 0 → topB n M = topB n X) := Lib.hid (by rw [← HM.out]; simp only [divOp, sremZ, h0, if_false, Nat.reduceEqDiff]; exact srem_top HN.out.1 HXY.out.1 HXY.out.2 h0)
        clear h0
        go_wp2_with fail
        generalize wz4.alloc (.cells #[Value.int .i64 1, .slice pz4 (wcount 1) cz4] 26) = Wz4 at *
        have hc := bit_any Vzzr4.out 0
        rw [b2n_bit, hz] at hc
        replace hc := Lib.hid hc
        refine (hc.out).mono ?_; rintro e wz5 ⟨rfl, hbz5⟩
        have Vzx5 := Lib.hid (Vzx4.out.below hbz5)
        have Vzy5 := Lib.hid (Vzy4.out.below hbz5)
        have Vzq5 := Lib.hid (Vzq4.out.below hbz5)
        have Vzm5 := Lib.hid (Vzm4.out.below hbz5)
        have Vzzr5 := Lib.hid (Vzzr4.out.below hbz5)
        have HTz5 := Lib.hid (HTz4.out.below hbz5)
        clear hbz5 HTz4 Vzx4 Vzy4 Vzq4 Vzm4 Vzzr4
        clear hc
        clear q0a q0b
        have q0a := (HTz5.out.pr 2 rfl).1
        have q0b := (HTz5.out.pr 2 rfl).2
        have q1a := (HTz5.out.pr 5 rfl).1
        have q1b := (HTz5.out.pr 5 rfl).2
        go_wp2_with fail
        refine (bin_2 Vzq5.out Vzy5.out HN.out.1).mono ?_; rintro e wz6 ⟨vz6, rfl, hvz6, hbz6, _⟩
        obtain ⟨pz6, cz6, rfl, _⟩ := hvz6.ex
        have HBnz6 := Lib.hid (Below.new wz6 (.cells #[.int .i64 n, .slice pz6 (wcount n) cz6] 26))
        have Vzx6 := Lib.hid ((Vzx5.out.below hbz6).below HBnz6.out)
        have Vzy6 := Lib.hid ((Vzy5.out.below hbz6).below HBnz6.out)
        have Vzq6 := Lib.hid ((Vzq5.out.below hbz6).below HBnz6.out)
        have Vzm6 := Lib.hid ((Vzm5.out.below hbz6).below HBnz6.out)
        have Vzzr6 := Lib.hid ((Vzzr5.out.below hbz6).below HBnz6.out)
        have HTz6 := Lib.hid ((HTz5.out.below hbz6).lay 26 [.int .i64 n, .slice pz6 (wcount n) cz6])
        have Vzp6 := Lib.hid (hvz6.below HBnz6.out)
        clear hvz6 hbz6 HTz5 Vzx5 Vzy5 Vzq5 Vzm5 Vzzr5
        clear q0a q0b q1a q1b
        have q0a := (HTz6.out.pr 0 rfl).1
        have q0b := (HTz6.out.pr 0 rfl).2
        have q1a := (HTz6.out.pr 2 rfl).1
        have q1b := (HTz6.out.pr 2 rfl).2
        go_wp2_with fail
        generalize wz6.alloc (.cells #[Value.int .i64 n, .slice pz6 (wcount n) cz6] 26) = Wz6 at *
        refine (bin_0 Vzp6.out Vzm6.out HN.out.1).mono ?_; rintro e wz7 ⟨vz7, rfl, hvz7, hbz7, _⟩
        obtain ⟨pz7, cz7, rfl, _⟩ := hvz7.ex
        have HBnz7 := Lib.hid (Below.new wz7 (.cells #[.int .i64 n, .slice pz7 (wcount n) cz7] 26))
        have Vzx7 := Lib.hid ((Vzx6.out.below hbz7).below HBnz7.out)
        have Vzy7 := Lib.hid ((Vzy6.out.below hbz7).below HBnz7.out)
        have Vzq7 := Lib.hid ((Vzq6.out.below hbz7).below HBnz7.out)
        have Vzm7 := Lib.hid ((Vzm6.out.below hbz7).below HBnz7.out)
        have Vzzr7 := Lib.hid ((Vzzr6.out.below hbz7).below HBnz7.out)
        have Vzp7 := Lib.hid ((Vzp6.out.below hbz7).below HBnz7.out)
        have HTz7 := Lib.hid ((HTz6.out.below hbz7).lay 26 [.int .i64 n, .slice pz7 (wcount n) cz7])
        have Vzs7 := Lib.hid (hvz7.below HBnz7.out)
        clear hvz7 hbz7 HTz6 Vzx6 Vzy6 Vzq6 Vzm6 Vzzr6 Vzp6
        clear q0a q0b q1a q1b
        have q0a := (HTz7.out.pr 0 rfl).1
        have q0b := (HTz7.out.pr 0 rfl).2
        have q1a := (HTz7.out.pr 8 rfl).1
        have q1b := (HTz7.out.pr 8 rfl).2
        go_wp2_with fail
        generalize wz7.alloc (.cells #[Value.int .i64 n, .slice pz7 (wcount n) cz7] 26) = Wz7 at *
        have hc := equal_any Vzs7.out Vzx7.out
        rw [HBack.out, show decide (n = n ∧ X = X) = true by simp] at hc
        replace hc := Lib.hid hc
        refine (hc.out).mono ?_; rintro e wz8 ⟨rfl, hbz8⟩
        have Vzx8 := Lib.hid (Vzx7.out.below hbz8)
        have Vzy8 := Lib.hid (Vzy7.out.below hbz8)
        have Vzq8 := Lib.hid (Vzq7.out.below hbz8)
        have Vzm8 := Lib.hid (Vzm7.out.below hbz8)
        have Vzzr8 := Lib.hid (Vzzr7.out.below hbz8)
        have Vzp8 := Lib.hid (Vzp7.out.below hbz8)
        have Vzs8 := Lib.hid (Vzs7.out.below hbz8)
        have HTz8 := Lib.hid (HTz7.out.below hbz8)
        clear hbz8 HTz7 Vzx7 Vzy7 Vzq7 Vzm7 Vzzr7 Vzp7 Vzs7
        clear hc
        clear q0a q0b q1a q1b
        have q0a := (HTz8.out.pr 3 rfl).1
        have q0b := (HTz8.out.pr 3 rfl).2
        have q1a := (HTz8.out.pr 7 rfl).1
        have q1b := (HTz8.out.pr 7 rfl).2
        go_wp2_with fail
        refine (bin_15 Vzm8.out Vzy8.out HN.out.1).mono ?_; rintro e wz9 ⟨vz9, rfl, hvz9, hbz9, _⟩
        obtain ⟨pz9, cz9, rfl, _⟩ := hvz9.ex
        have HBnz9 := Lib.hid (Below.new wz9 (.cells #[.int .i64 1, .slice pz9 (wcount 1) cz9] 26))
        have Vzx9 := Lib.hid ((Vzx8.out.below hbz9).below HBnz9.out)
        have Vzy9 := Lib.hid ((Vzy8.out.below hbz9).below HBnz9.out)
        have Vzq9 := Lib.hid ((Vzq8.out.below hbz9).below HBnz9.out)
        have Vzm9 := Lib.hid ((Vzm8.out.below hbz9).below HBnz9.out)
        have Vzzr9 := Lib.hid ((Vzzr8.out.below hbz9).below HBnz9.out)
        have Vzp9 := Lib.hid ((Vzp8.out.below hbz9).below HBnz9.out)
        have Vzs9 := Lib.hid ((Vzs8.out.below hbz9).below HBnz9.out)
        have HTz9 := Lib.hid ((HTz8.out.below hbz9).lay 26 [.int .i64 1, .slice pz9 (wcount 1) cz9])
        have Vzl9 := Lib.hid (hvz9.below HBnz9.out)
        clear hvz9 hbz9 HTz8 Vzx8 Vzy8 Vzq8 Vzm8 Vzzr8 Vzp8 Vzs8
        clear q0a q0b q1a q1b
        have q0a := (HTz9.out.pr 6 rfl).1
        have q0b := (HTz9.out.pr 6 rfl).2
        have q1a := (HTz9.out.pr 0 rfl).1
        have q1b := (HTz9.out.pr 0 rfl).2
        have q2a := (HTz9.out.pr 4 rfl).1
        have q2b := (HTz9.out.pr 4 rfl).2
        go_wp2_with fail
        generalize wz9.alloc (.cells #[Value.int .i64 1, .slice pz9 (wcount 1) cz9] 26) = Wz9 at *
        refine (un_5 Vzm9.out HN.out.1).mono ?_; rintro e wz10 ⟨vz10, rfl, hvz10, hbz10, _⟩
        obtain ⟨pz10, cz10, rfl, _⟩ := hvz10.ex
        have HBnz10 := Lib.hid (Below.new wz10 (.cells #[.int .i64 1, .slice pz10 (wcount 1) cz10] 26))
        have Vzx10 := Lib.hid ((Vzx9.out.below hbz10).below HBnz10.out)
        have Vzy10 := Lib.hid ((Vzy9.out.below hbz10).below HBnz10.out)
        have Vzq10 := Lib.hid ((Vzq9.out.below hbz10).below HBnz10.out)
        have Vzm10 := Lib.hid ((Vzm9.out.below hbz10).below HBnz10.out)
        have Vzzr10 := Lib.hid ((Vzzr9.out.below hbz10).below HBnz10.out)
        have Vzp10 := Lib.hid ((Vzp9.out.below hbz10).below HBnz10.out)
        have Vzs10 := Lib.hid ((Vzs9.out.below hbz10).below HBnz10.out)
        have Vzl10 := Lib.hid ((Vzl9.out.below hbz10).below HBnz10.out)
        have HTz10 := Lib.hid ((HTz9.out.below hbz10).lay 26 [.int .i64 1, .slice pz10 (wcount 1) cz10])
        have Vzr10 := Lib.hid (hvz10.below HBnz10.out)
        clear hvz10 hbz10 HTz9 Vzx9 Vzy9 Vzq9 Vzm9 Vzzr9 Vzp9 Vzs9 Vzl9
        clear q0a q0b q1a q1b q2a q2b
        have q0a := (HTz10.out.pr 7 rfl).1
        have q0b := (HTz10.out.pr 7 rfl).2
        go_upto_region 27 with fail
        generalize wz10.alloc (.cells #[Value.int .i64 1, .slice pz10 (wcount 1) cz10] 26) = Wz10 at *
        have hwk : IntKind.i64.wrap ((n : Int) - 1) = (n : Int) - 1 := IntWalk.i64_in _ (by have := HN.out; omega)
        have K1 : Hid (∀ s : After Wz10, Calls Try.prog 17 #[.agg #[.int .i64 1, .slice pz10 (wcount 1) cz10], .int .i64 0] s.val fun e w' => e = .returned (.bool (!nz M)) ∧ Below s.val.heap.size s.val w') := Lib.hid fun s => by have h := bit_any (Vzr10.out.below s.below) 0; rw [b2n_bit] at h; exact h
        have K2 := Lib.hid (fun s : After Wz10 => bit_any (Vzm10.out.below s.below) ((n : Int) - 1))
        have K3 := Lib.hid (fun s : After Wz10 => bit_any (Vzx10.out.below s.below) ((n : Int) - 1))
        have HTop2 : Hid (nz M = true → bitI M ((n : Int) - 1) = bitI X ((n : Int) - 1)) := Lib.hid fun h => HTop.out (by intro e; rw [e] at h; cases h)
        have ar0 := After.cell (HTz10.out.pr 0 rfl).1
        have ar1 := After.cell (HTz10.out.pr 0 rfl).2
        have am0 := After.cell (HTz10.out.pr 5 rfl).1
        have am1 := After.cell (HTz10.out.pr 5 rfl).2
        have ax0 := After.cell (HTz10.out.pr 10 rfl).1
        have ax1 := After.cell (HTz10.out.pr 10 rfl).2
        have al := After.cell (HTz10.out.pr 7 rfl).1
        go_cut [150] from 130 (fun v150 wx => v150 = .bool false ∧ ∃ s : After Wz10, wx = s.val)
        case first =>
          cases hnz : nz M
          · rw [hnz] at K1 HTop2
            refine wp_region_after (by kernel_rfl) (by kernel_rfl) ?_
            repeat (go_big_quiet_step ((first | (with_reducible exact Calls.after_of (K1.out _)) | (with_reducible exact Calls.after_of (K2.out _)) | (with_reducible exact Calls.after_of (K3.out _)))))
            refine wpQuiet_nil ?_
            rintro _ ⟨s, rfl⟩
            go_wp2_with fail
            go_meet
            exact ⟨rfl, s, rfl⟩
          · rw [hnz] at K1 HTop2
            rw [HTop2.out rfl] at K2
            generalize bitI X ((n : Int) - 1) = tx at *
            refine wp_region_after (by kernel_rfl) (by kernel_rfl) ?_
            repeat (go_big_quiet_step ((first | (with_reducible exact Calls.after_of (K1.out _)) | (with_reducible exact Calls.after_of (K2.out _)) | (with_reducible exact Calls.after_of (K3.out _)))))
            refine wpQuiet_nil ?_
            rintro _ ⟨s, rfl⟩
            go_wp2_with fail
            go_meet
            exact ⟨rfl, s, rfl⟩
        case rest =>
          obtain ⟨rfl, s, rfl⟩ := hcut
          clear K1 K2 K3 HTop2 al ar0 ar1 am0 am1 ax0 ax1
          have Vzx11 := Lib.hid (Vzx10.out.below s.below)
          have Vzy11 := Lib.hid (Vzy10.out.below s.below)
          have Vzq11 := Lib.hid (Vzq10.out.below s.below)
          have Vzm11 := Lib.hid (Vzm10.out.below s.below)
          have Vzzr11 := Lib.hid (Vzzr10.out.below s.below)
          have Vzp11 := Lib.hid (Vzp10.out.below s.below)
          have Vzs11 := Lib.hid (Vzs10.out.below s.below)
          have Vzl11 := Lib.hid (Vzl10.out.below s.below)
          have Vzr11 := Lib.hid (Vzr10.out.below s.below)
          have HTz11 := Lib.hid (HTz10.out.below s.below)
          generalize s.val = W99 at *
          clear q0a q0b
          go_wp2_with fail
          go_roundw
          case rel => exact ⟨2, by omega, by go_num, HTz11.out.subs (by simp) (by have := HTz11.out.nd; simp at this ⊢; omega), Vzx11.out, Vzy11.out⟩
          case measure => simp [intOf]
    | 2, _ =>
      clear hk
      go_wp2_with fail
      go_ret
      exact ⟨rfl, HTz0.out.bel⟩
end Go.Proofs.Ytmimafbedbohiaa
