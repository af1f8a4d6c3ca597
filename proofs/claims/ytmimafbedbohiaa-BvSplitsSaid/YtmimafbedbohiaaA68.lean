import Derived.Test.YtmimafbedbohiaaP11
import Derived.Test.YtmimafbedbohiaaB11
import Derived.Test.YtmimafbedbohiaaB10
import Derived.Test.YtmimafbedbohiaaB9
import Derived.Deep.CutRange
namespace Go.Proofs.Ytmimafbedbohiaa
set_option linter.unusedVariables false
open Go.RowKit

theorem splits_at (n : Nat) (s : Int) (hn : 2 ≤ n) : ∃ k : Nat, (s.tmod ((n : Int) - 1) + n - 1).tmod ((n : Int) - 1) = ((k : Nat) : Int) - 1 ∧ 1 ≤ k ∧ k < n := by
  have h1 : 0 ≤ s.tmod ((n : Int) - 1) + n - 1 := by
    have := Int.lt_tmod_of_pos s (b := (n : Int) - 1) (by omega); omega
  have h2 := Int.tmod_lt_of_pos (s.tmod ((n : Int) - 1) + n - 1) (b := (n : Int) - 1) (by omega)
  have h3 := Int.tmod_nonneg ((n : Int) - 1) h1
  exact ⟨((s.tmod ((n : Int) - 1) + n - 1).tmod ((n : Int) - 1) + 1).toNat, by omega, by omega, by omega⟩

/-- Cat of two vectors, the upper one first -/
theorem cat_both {w : World} {p q : Option Addr} {c d m k a b n : Nat} (hH : VR w (.agg #[.int .i64 m, .slice p (wcount m) c]) m a) (hL : VR w (.agg #[.int .i64 k, .slice q (wcount k) d]) k b) (hm : 1 ≤ m) (hk : 1 ≤ k) (h : m + k ≤ 128) (hn : m + k = n) (L : Nat) (hL0 : w.heap.size = L) :
    Calls Try.prog 35 #[.slice (some ⟨L, 0, none⟩) 2 2] (w.alloc (.cells #[.int .i64 m, .slice p (wcount m) c, .int .i64 k, .slice q (wcount k) d] 26))
      (RetE (w.alloc (.cells #[.int .i64 m, .slice p (wcount m) c, .int .i64 k, .slice q (wcount k) d] 26)) n (valB (bitsOf k b ++ bitsOf m a)) 0) := by
  subst hL0
  have hb := Below.new w (.cells #[.int .i64 m, .slice p (wcount m) c, .int .i64 k, .slice q (wcount k) d] 26)
  have hB : Blk (w.alloc (.cells #[.int .i64 m, .slice p (wcount m) c, .int .i64 k, .slice q (wcount k) d] 26)) w.heap.size 26 [.int .i64 m, .slice p (wcount m) c, .int .i64 k, .slice q (wcount k) d] := Blk.new 26 _
  have hc := cat_two m a k b hm hk h
  have hl : (catL (two m k) (two a b) (downs 2 2)).length = n := by rw [hc.2, List.length_append, bitsOf_length, bitsOf_length]; omega
  refine (cat_any 2 (two m k) (two a b) (fun j => if j = 0 then (p, wcount m, c) else (q, wcount k, d)) (by decide) (.inr ⟨_, _, _, rfl, by simp, fun j hj => ?_⟩) (fun j hj => ?_)).mono fun e w' hR => ?_
  · match j, hj with
    | 0, _ => exact ⟨hB.cell (i := 0) rfl, hB.cell (i := 1) rfl⟩
    | 1, _ => exact ⟨hB.cell (i := 2) rfl, hB.cell (i := 3) rfl⟩
  · match j, hj with
    | 0, _ => exact hH.below hb
    | 1, _ => exact hL.below hb
  · unfold CatR at hR
    rw [if_pos ⟨hc.1, by rw [hl]; omega⟩, hl, hc.2] at hR
    exact hR

set_option maxRecDepth 100000 in
set_option maxHeartbeats 16000000 in
theorem splits_law {w : World} {p : Option Addr} {n0 c : Nat} {f : Nat → Bool} (hA : RO w (.slice p n0 c) 1 n0 (bools (rl n0 f))) (hc : n0 ≤ c) (hn0 : n0 ≤ 1000000000000000000) (s : Int) (hs : -9223372036854775808 ≤ s ∧ s ≤ 9223372036854775807) :
    Calls Try.prog 9 #[.slice p n0 c, .int .i64 s] w fun e w' => e = .returned (.bool true) ∧ Below w.heap.size w w' := by
  have HAw := Lib.hid (awake_any w)
  have HSh := Lib.hid (fun w' (hb : Below w.heap.size w w') => short_any (hA.below hb) hc hn0)
  obtain ⟨n, hn⟩ : ∃ n, min n0 140 = n := ⟨_, rfl⟩
  have HA0 : Hid (RO w (.slice p n c) 1 n (bools (rl n f))) := Lib.hid (hA.short (by omega))
  rw [hn] at HSh
  have hn1 : n ≤ 140 := by omega
  have hni : (n : Int) ≤ 140 := by omega
  clear hA hc hn0 hn
  go_enter Try.func9, Try.ntmps9
  go_wp2_with fail
  refine HAw.out.mono ?_; rintro e W1 ⟨rfl, hb1⟩
  have HB1 := Lib.hid hb1
  clear hb1
  go_wp2_with fail
  refine (HSh.out _ HB1.out).mono ?_; rintro e W1' ⟨rfl, rfl⟩
  by_cases h0 : n < 2
  · have hi : (n : Int) < 2 := by omega
    clear h0
    go_wp2_with fail
    go_ret
    exact ⟨rfl, HB1.out⟩
  have hi2 : (2 : Int) ≤ n := by omega
  by_cases h1 : 128 < n
  · have hi : (128 : Int) < n := by omega
    clear h0 h1
    go_wp2_with fail
    go_ret
    exact ⟨rfl, HB1.out⟩
  have hi : (n : Int) ≤ 128 := by omega
  have HN := Lib.hid (And.intro (show 1 ≤ n by omega) (show n ≤ 128 by omega))
  obtain ⟨k, hk, hk1, hkn⟩ := splits_at n s (by omega)
  have hr1 := Int.lt_tmod_of_pos s (b := (n : Int) - 1) (by omega)
  have hr2 := Int.tmod_lt_of_pos s (b := (n : Int) - 1) (by omega)
  obtain ⟨r, hr⟩ : ∃ r, s.tmod ((n : Int) - 1) = r := ⟨_, rfl⟩
  rw [hr] at hk hr1 hr2
  have w1 : IntKind.i64.wrap ((n : Int) - 1) = (n : Int) - 1 := IntWalk.i64_in _ (by omega)
  have w2 : IntKind.i64.wrap (r + (n : Int)) = r + n := IntWalk.i64_in _ (by omega)
  have w3 : IntKind.i64.wrap (r + (n : Int) - 1) = r + n - 1 := IntWalk.i64_in _ (by omega)
  have w4 : IntKind.i64.wrap r = r := IntWalk.i64_in _ (by omega)
  have w5 : IntKind.i64.wrap ((k : Int) - 1) = (k : Int) - 1 := IntWalk.i64_in _ (by omega)
  have w6 : IntKind.i64.wrap (1 + ((k : Int) - 1)) = (k : Int) := by rw [IntWalk.i64_in _ (by omega)]; omega
  have hnz : ¬ ((n : Int) - 1 = 0) := by omega
  have HK := Lib.hid (And.intro hk1 hkn)
  have HA : Hid (RO W1 (.slice p n c) 1 n (bools (rl n f))) := Lib.hid (HA0.out.below HB1.out)
  clear h0 h1 hn1 hk1 hkn
  go_wp2_with fail
  refine (own_good HA.out HN.out.1 HN.out.2).mono ?_; rintro e W2 ⟨vx, rfl, hvx, hb2, _⟩
  obtain ⟨px, cx, rfl, _⟩ := hvx.ex
  have hlt := hvx.lt
  have HTz0 := Lib.hid ((((Tr.nil w).below HB1.out).below hb2).lay 26 [.int .i64 n, .slice px (wcount n) cx])
  have Vzx0 := Lib.hid (hvx.below (Below.new W2 (.cells #[.int .i64 n, .slice px (wcount n) cx] 26)))
  obtain ⟨X, hX⟩ : ∃ X, ofB f n = X := ⟨_, rfl⟩
  rw [hX] at Vzx0 hlt
  have HX := Lib.hid hlt
  clear hvx hb2 hX hlt
  have t0 := (HTz0.out.pr 0 rfl).1
  have t1 := (HTz0.out.pr 0 rfl).2
  go_upto_region 8 with fail
  clear hk hr1 hr2 hr w2 w3 w4 w5 w6 hnz t0 t1 hs hi hi2 hni
  obtain ⟨m, hm⟩ : ∃ m, n - k = m := ⟨_, rfl⟩
  have w7 : IntKind.i64.wrap ((n : Int) - (k : Int)) = (m : Int) := by rw [IntWalk.i64_in _ (by have := HK.out; have := HN.out; omega)]; have := HK.out; omega
  have HM : Hid (1 ≤ m ∧ k + m ≤ n ∧ n - k = m ∧ m + k = n) := Lib.hid (by have := HK.out; omega)
  have hkw : IntKind.u64.wrap (k : Int) = (k : Int) := by rw [IntKind.wrap_u64]; have := HK.out; have := HN.out; omega
  have HNew : Hid (∀ (w' : World) (q : Nat), w'.heap.size = q → Calls Try.prog 14 #[.int .i64 n, .slice (some ⟨q, 0, none⟩) 1 1] (w'.alloc (.cells #[.int .u64 k] 22)) (RetE (w'.alloc (.cells #[.int .u64 k] 22)) n k 0)) := Lib.hid fun w' q hq => by
    subst hq
    have := new_good (w := w'.alloc (.cells (natsV [k]).toArray 22)) (l := [k]) n HN.out.1 HN.out.2 _ (RO.lits (Blk.new 22 (natsV [k]))) (by have := HN.out.2; have := HK.out; simp; omega)
    simp only [valW, Nat.mul_zero, Nat.add_zero] at this
    rwa [Nat.mod_eq_of_lt (Nat.lt_trans HK.out.2 Nat.lt_two_pow_self)] at this
  clear hm
  generalize W2.alloc (.cells #[Value.int .i64 n, .slice px (wcount n) cx] 26) = W3 at *
  have q0a := (HTz0.out.pr 0 rfl).1
  have q0b := (HTz0.out.pr 0 rfl).2
  go_wp2_with fail
  refine (slice_good Vzx0.out 0 k HK.out.1 (by have := HK.out; omega)).mono ?_; rintro e wz1 ⟨vz1, rfl, hvz1, hbz1, _⟩
  obtain ⟨pz1, cz1, rfl, _⟩ := hvz1.ex
  have HBnz1 := Lib.hid (Below.new wz1 (.cells #[.int .i64 k, .slice pz1 (wcount k) cz1] 26))
  have Vzx1 := Lib.hid ((Vzx0.out.below hbz1).below HBnz1.out)
  have HTz1 := Lib.hid ((HTz0.out.below hbz1).lay 26 [.int .i64 k, .slice pz1 (wcount k) cz1])
  have Vzl1 := Lib.hid (hvz1.below HBnz1.out)
  clear hvz1 hbz1 HTz0 Vzx0
  clear q0a q0b
  have q0a := (HTz1.out.pr 1 rfl).1
  have q0b := (HTz1.out.pr 1 rfl).2
  go_wp2_with fail
  generalize wz1.alloc (.cells #[Value.int .i64 k, .slice pz1 (wcount k) cz1] 26) = Wz1 at *
  refine (slice_good Vzx1.out k m HM.out.1 HM.out.2.1).mono ?_; rintro e wz2 ⟨vz2, rfl, hvz2, hbz2, _⟩
  obtain ⟨pz2, cz2, rfl, _⟩ := hvz2.ex
  have HBnz2 := Lib.hid (Below.new wz2 (.cells #[.int .i64 m, .slice pz2 (wcount m) cz2] 26))
  have Vzx2 := Lib.hid ((Vzx1.out.below hbz2).below HBnz2.out)
  have Vzl2 := Lib.hid ((Vzl1.out.below hbz2).below HBnz2.out)
  have HTz2 := Lib.hid ((HTz1.out.below hbz2).lay 26 [.int .i64 m, .slice pz2 (wcount m) cz2])
  have Vzh2 := Lib.hid (hvz2.below HBnz2.out)
  clear hvz2 hbz2 HTz1 Vzx1 Vzl1
  clear q0a q0b
  have q0a := (HTz2.out.pr 1 rfl).1
  have q0b := (HTz2.out.pr 1 rfl).2
  have q1a := (HTz2.out.pr 0 rfl).1
  have q1b := (HTz2.out.pr 0 rfl).2
  go_wp2_with fail
  refine (cat_both Vzh2.out Vzl2.out HM.out.1 HK.out.1 (by have := HM.out; have := HN.out; omega) HM.out.2.2.2 _ (by simp)).mono ?_; rintro e wz3 ⟨vz3, rfl, hvz3, hbz3, _⟩
  replace hbz3 := Below.then (Below.new _ _) hbz3 (Nat.le_refl _)
  obtain ⟨pz3, cz3, rfl, _⟩ := hvz3.ex
  have HBnz3 := Lib.hid (Below.new wz3 (.cells #[.int .i64 n, .slice pz3 (wcount n) cz3] 26))
  have Vzx3 := Lib.hid ((Vzx2.out.below hbz3).below HBnz3.out)
  have Vzl3 := Lib.hid ((Vzl2.out.below hbz3).below HBnz3.out)
  have Vzh3 := Lib.hid ((Vzh2.out.below hbz3).below HBnz3.out)
  have HTz3 := Lib.hid ((HTz2.out.below hbz3).lay 26 [.int .i64 n, .slice pz3 (wcount n) cz3])
  have Vzb3 := Lib.hid (hvz3.below HBnz3.out)
  clear hvz3 hbz3 HTz2 Vzx2 Vzl2 Vzh2
  clear q0a q0b q1a q1b
  have q0a := (HTz3.out.pr 3 rfl).1
  have q0b := (HTz3.out.pr 3 rfl).2
  have q1a := (HTz3.out.pr 1 rfl).1
  have q1b := (HTz3.out.pr 1 rfl).2
  go_wp2_with fail
  generalize wz3.alloc (.cells #[Value.int .i64 n, .slice pz3 (wcount n) cz3] 26) = Wz3 at *
  refine (put_good Vzx3.out Vzh3.out k HM.out.1 HM.out.2.1).mono ?_; rintro e wz4 ⟨vz4, rfl, hvz4, hbz4, _⟩
  obtain ⟨pz4, cz4, rfl, _⟩ := hvz4.ex
  have HBnz4 := Lib.hid (Below.new wz4 (.cells #[.int .i64 n, .slice pz4 (wcount n) cz4] 26))
  have Vzx4 := Lib.hid ((Vzx3.out.below hbz4).below HBnz4.out)
  have Vzl4 := Lib.hid ((Vzl3.out.below hbz4).below HBnz4.out)
  have Vzh4 := Lib.hid ((Vzh3.out.below hbz4).below HBnz4.out)
  have Vzb4 := Lib.hid ((Vzb3.out.below hbz4).below HBnz4.out)
  have HTz4 := Lib.hid ((HTz3.out.below hbz4).lay 26 [.int .i64 n, .slice pz4 (wcount n) cz4])
  have Vzp4 := Lib.hid (hvz4.below HBnz4.out)
  clear hvz4 hbz4 HTz3 Vzx3 Vzl3 Vzh3 Vzb3
  clear q0a q0b q1a q1b
  have q0a := (HTz4.out.pr 3 rfl).1
  have q0b := (HTz4.out.pr 3 rfl).2
  go_wp2_with fail
  generalize wz4.alloc (.cells #[Value.int .i64 n, .slice pz4 (wcount n) cz4] 26) = Wz4 at *
  refine (ext_good Vzl4.out n false HN.out.1 HN.out.2 HK.out.1).mono ?_; rintro e wz5 ⟨vz5, rfl, hvz5, hbz5, _⟩
  obtain ⟨pz5, cz5, rfl, _⟩ := hvz5.ex
  have HBnz5 := Lib.hid (Below.new wz5 (.cells #[.int .i64 n, .slice pz5 (wcount n) cz5] 26))
  have Vzx5 := Lib.hid ((Vzx4.out.below hbz5).below HBnz5.out)
  have Vzl5 := Lib.hid ((Vzl4.out.below hbz5).below HBnz5.out)
  have Vzh5 := Lib.hid ((Vzh4.out.below hbz5).below HBnz5.out)
  have Vzb5 := Lib.hid ((Vzb4.out.below hbz5).below HBnz5.out)
  have Vzp5 := Lib.hid ((Vzp4.out.below hbz5).below HBnz5.out)
  have HTz5 := Lib.hid ((HTz4.out.below hbz5).lay 26 [.int .i64 n, .slice pz5 (wcount n) cz5])
  have Vzwi5 := Lib.hid (hvz5.below HBnz5.out)
  clear hvz5 hbz5 HTz4 Vzx4 Vzl4 Vzh4 Vzb4 Vzp4
  clear q0a q0b
  have q0a := (HTz5.out.pr 3 rfl).1
  have q0b := (HTz5.out.pr 3 rfl).2
  go_wp2_with fail
  generalize wz5.alloc (.cells #[Value.int .i64 n, .slice pz5 (wcount n) cz5] 26) = Wz5 at *
  refine (ext_good Vzh5.out n false HN.out.1 HN.out.2 HM.out.1).mono ?_; rintro e wz6 ⟨vz6, rfl, hvz6, hbz6, _⟩
  obtain ⟨pz6, cz6, rfl, _⟩ := hvz6.ex
  have HBnz6 := Lib.hid (Below.new wz6 (.cells #[.int .i64 n, .slice pz6 (wcount n) cz6] 26))
  have Vzx6 := Lib.hid ((Vzx5.out.below hbz6).below HBnz6.out)
  have Vzl6 := Lib.hid ((Vzl5.out.below hbz6).below HBnz6.out)
  have Vzh6 := Lib.hid ((Vzh5.out.below hbz6).below HBnz6.out)
  have Vzb6 := Lib.hid ((Vzb5.out.below hbz6).below HBnz6.out)
  have Vzp6 := Lib.hid ((Vzp5.out.below hbz6).below HBnz6.out)
  have Vzwi6 := Lib.hid ((Vzwi5.out.below hbz6).below HBnz6.out)
  have HTz6 := Lib.hid ((HTz5.out.below hbz6).lay 26 [.int .i64 n, .slice pz6 (wcount n) cz6])
  have Vzu6 := Lib.hid (hvz6.below HBnz6.out)
  clear hvz6 hbz6 HTz5 Vzx5 Vzl5 Vzh5 Vzb5 Vzp5 Vzwi5
  clear q0a q0b
  go_wp2_with fail
  refine (HNew.out _ _ (by simp)).mono ?_; rintro e wz7 ⟨vz7, rfl, hvz7, hbz7, _⟩
  replace hbz7 := Below.then (Below.new _ _) hbz7 (Nat.le_refl _)
  obtain ⟨pz7, cz7, rfl, _⟩ := hvz7.ex
  have HBnz7 := Lib.hid (Below.new wz7 (.cells #[.int .i64 n, .slice pz7 (wcount n) cz7] 26))
  have Vzx7 := Lib.hid ((Vzx6.out.below hbz7).below HBnz7.out)
  have Vzl7 := Lib.hid ((Vzl6.out.below hbz7).below HBnz7.out)
  have Vzh7 := Lib.hid ((Vzh6.out.below hbz7).below HBnz7.out)
  have Vzb7 := Lib.hid ((Vzb6.out.below hbz7).below HBnz7.out)
  have Vzp7 := Lib.hid ((Vzp6.out.below hbz7).below HBnz7.out)
  have Vzwi7 := Lib.hid ((Vzwi6.out.below hbz7).below HBnz7.out)
  have Vzu7 := Lib.hid ((Vzu6.out.below hbz7).below HBnz7.out)
  have HTz7 := Lib.hid ((HTz6.out.below hbz7).lay 26 [.int .i64 n, .slice pz7 (wcount n) cz7])
  have Vzby7 := Lib.hid (hvz7.below HBnz7.out)
  clear hvz7 hbz7 HTz6 Vzx6 Vzl6 Vzh6 Vzb6 Vzp6 Vzwi6 Vzu6
  have q0a := (HTz7.out.pr 1 rfl).1
  have q0b := (HTz7.out.pr 1 rfl).2
  have q1a := (HTz7.out.pr 0 rfl).1
  have q1b := (HTz7.out.pr 0 rfl).2
  go_wp2_with fail
  generalize wz7.alloc (.cells #[Value.int .i64 n, .slice pz7 (wcount n) cz7] 26) = Wz7 at *
  refine (bin_10 Vzu7.out Vzby7.out HN.out.1).mono ?_; rintro e wz8 ⟨vz8, rfl, hvz8, hbz8, _⟩
  obtain ⟨pz8, cz8, rfl, _⟩ := hvz8.ex
  have HBnz8 := Lib.hid (Below.new wz8 (.cells #[.int .i64 n, .slice pz8 (wcount n) cz8] 26))
  have Vzx8 := Lib.hid ((Vzx7.out.below hbz8).below HBnz8.out)
  have Vzl8 := Lib.hid ((Vzl7.out.below hbz8).below HBnz8.out)
  have Vzh8 := Lib.hid ((Vzh7.out.below hbz8).below HBnz8.out)
  have Vzb8 := Lib.hid ((Vzb7.out.below hbz8).below HBnz8.out)
  have Vzp8 := Lib.hid ((Vzp7.out.below hbz8).below HBnz8.out)
  have Vzwi8 := Lib.hid ((Vzwi7.out.below hbz8).below HBnz8.out)
  have Vzu8 := Lib.hid ((Vzu7.out.below hbz8).below HBnz8.out)
  have Vzby8 := Lib.hid ((Vzby7.out.below hbz8).below HBnz8.out)
  have HTz8 := Lib.hid ((HTz7.out.below hbz8).lay 26 [.int .i64 n, .slice pz8 (wcount n) cz8])
  have Vzm8 := Lib.hid (hvz8.below HBnz8.out)
  clear hvz8 hbz8 HTz7 Vzx7 Vzl7 Vzh7 Vzb7 Vzp7 Vzwi7 Vzu7 Vzby7
  clear q0a q0b q1a q1b
  have q0a := (HTz8.out.pr 0 rfl).1
  have q0b := (HTz8.out.pr 0 rfl).2
  have q1a := (HTz8.out.pr 3 rfl).1
  have q1b := (HTz8.out.pr 3 rfl).2
  go_wp2_with fail
  generalize wz8.alloc (.cells #[Value.int .i64 n, .slice pz8 (wcount n) cz8] 26) = Wz8 at *
  refine (bin_8 Vzm8.out Vzwi8.out HN.out.1).mono ?_; rintro e wz9 ⟨vz9, rfl, hvz9, hbz9, _⟩
  obtain ⟨pz9, cz9, rfl, _⟩ := hvz9.ex
  have HBnz9 := Lib.hid (Below.new wz9 (.cells #[.int .i64 n, .slice pz9 (wcount n) cz9] 26))
  have Vzx9 := Lib.hid ((Vzx8.out.below hbz9).below HBnz9.out)
  have Vzl9 := Lib.hid ((Vzl8.out.below hbz9).below HBnz9.out)
  have Vzh9 := Lib.hid ((Vzh8.out.below hbz9).below HBnz9.out)
  have Vzb9 := Lib.hid ((Vzb8.out.below hbz9).below HBnz9.out)
  have Vzp9 := Lib.hid ((Vzp8.out.below hbz9).below HBnz9.out)
  have Vzwi9 := Lib.hid ((Vzwi8.out.below hbz9).below HBnz9.out)
  have Vzu9 := Lib.hid ((Vzu8.out.below hbz9).below HBnz9.out)
  have Vzby9 := Lib.hid ((Vzby8.out.below hbz9).below HBnz9.out)
  have Vzm9 := Lib.hid ((Vzm8.out.below hbz9).below HBnz9.out)
  have HTz9 := Lib.hid ((HTz8.out.below hbz9).lay 26 [.int .i64 n, .slice pz9 (wcount n) cz9])
  have Vzs9 := Lib.hid (hvz9.below HBnz9.out)
  clear hvz9 hbz9 HTz8 Vzx8 Vzl8 Vzh8 Vzb8 Vzp8 Vzwi8 Vzu8 Vzby8 Vzm8
  clear q0a q0b q1a q1b
  have q0a := (HTz9.out.pr 6 rfl).1
  have q0b := (HTz9.out.pr 6 rfl).2
  have q1a := (HTz9.out.pr 9 rfl).1
  have q1b := (HTz9.out.pr 9 rfl).2
  go_upto_region 17 with fail
  generalize wz9.alloc (.cells #[Value.int .i64 n, .slice pz9 (wcount n) cz9] 26) = Wz9 at *
  go_wp2_with fail
  have hc := equal_any Vzb9.out Vzx9.out
  rw [show valB (bitsOf k (ofB (sliceF X 0) k) ++ bitsOf m (ofB (sliceF X k) m)) = X from by rw [← HM.out.2.2.1]; exact splits_cat HX.out (by have := HK.out; omega), show decide (n = n ∧ X = X) = true by simp] at hc
  replace hc := Lib.hid hc
  refine (hc.out).mono ?_; rintro e wz10 ⟨rfl, hbz10⟩
  have Vzx10 := Lib.hid (Vzx9.out.below hbz10)
  have Vzl10 := Lib.hid (Vzl9.out.below hbz10)
  have Vzh10 := Lib.hid (Vzh9.out.below hbz10)
  have Vzb10 := Lib.hid (Vzb9.out.below hbz10)
  have Vzp10 := Lib.hid (Vzp9.out.below hbz10)
  have Vzwi10 := Lib.hid (Vzwi9.out.below hbz10)
  have Vzu10 := Lib.hid (Vzu9.out.below hbz10)
  have Vzby10 := Lib.hid (Vzby9.out.below hbz10)
  have Vzm10 := Lib.hid (Vzm9.out.below hbz10)
  have Vzs10 := Lib.hid (Vzs9.out.below hbz10)
  have HTz10 := Lib.hid (HTz9.out.below hbz10)
  clear hbz10 HTz9 Vzx9 Vzl9 Vzh9 Vzb9 Vzp9 Vzwi9 Vzu9 Vzby9 Vzm9 Vzs9
  clear hc
  clear q0a q0b q1a q1b
  have q0a := (HTz10.out.pr 5 rfl).1
  have q0b := (HTz10.out.pr 5 rfl).2
  have q1a := (HTz10.out.pr 9 rfl).1
  have q1b := (HTz10.out.pr 9 rfl).2
  go_wp2_with fail
  have hc := equal_any Vzp10.out Vzx10.out
  rw [show ofB (putF X (ofB (sliceF X k) m) k m) n = X from by rw [← HM.out.2.2.1]; exact splits_put HX.out, show decide (n = n ∧ X = X) = true by simp] at hc
  replace hc := Lib.hid hc
  refine (hc.out).mono ?_; rintro e wz11 ⟨rfl, hbz11⟩
  have Vzx11 := Lib.hid (Vzx10.out.below hbz11)
  have Vzl11 := Lib.hid (Vzl10.out.below hbz11)
  have Vzh11 := Lib.hid (Vzh10.out.below hbz11)
  have Vzb11 := Lib.hid (Vzb10.out.below hbz11)
  have Vzp11 := Lib.hid (Vzp10.out.below hbz11)
  have Vzwi11 := Lib.hid (Vzwi10.out.below hbz11)
  have Vzu11 := Lib.hid (Vzu10.out.below hbz11)
  have Vzby11 := Lib.hid (Vzby10.out.below hbz11)
  have Vzm11 := Lib.hid (Vzm10.out.below hbz11)
  have Vzs11 := Lib.hid (Vzs10.out.below hbz11)
  have HTz11 := Lib.hid (HTz10.out.below hbz11)
  clear hbz11 HTz10 Vzx10 Vzl10 Vzh10 Vzb10 Vzp10 Vzwi10 Vzu10 Vzby10 Vzm10 Vzs10
  clear hc
  clear q0a q0b q1a q1b
  have q0a := (HTz11.out.pr 0 rfl).1
  have q0b := (HTz11.out.pr 0 rfl).2
  have q1a := (HTz11.out.pr 9 rfl).1
  have q1b := (HTz11.out.pr 9 rfl).2
  go_wp2_with fail
  have hc := equal_any Vzs11.out Vzx11.out
  rw [show shiftN 10 n (ofB (extF (ofB (sliceF X k) m) m false) n) k ||| ofB (extF (ofB (sliceF X 0) k) k false) n = X from by rw [← HM.out.2.2.1]; exact splits_sum HX.out (by have := HK.out; omega), show decide (n = n ∧ X = X) = true by simp] at hc
  replace hc := Lib.hid hc
  refine (hc.out).mono ?_; rintro e wz12 ⟨rfl, hbz12⟩
  have Vzx12 := Lib.hid (Vzx11.out.below hbz12)
  have Vzl12 := Lib.hid (Vzl11.out.below hbz12)
  have Vzh12 := Lib.hid (Vzh11.out.below hbz12)
  have Vzb12 := Lib.hid (Vzb11.out.below hbz12)
  have Vzp12 := Lib.hid (Vzp11.out.below hbz12)
  have Vzwi12 := Lib.hid (Vzwi11.out.below hbz12)
  have Vzu12 := Lib.hid (Vzu11.out.below hbz12)
  have Vzby12 := Lib.hid (Vzby11.out.below hbz12)
  have Vzm12 := Lib.hid (Vzm11.out.below hbz12)
  have Vzs12 := Lib.hid (Vzs11.out.below hbz12)
  have HTz12 := Lib.hid (HTz11.out.below hbz12)
  clear hbz12 HTz11 Vzx11 Vzl11 Vzh11 Vzb11 Vzp11 Vzwi11 Vzu11 Vzby11 Vzm11 Vzs11
  clear hc
  clear q0a q0b q1a q1b
  go_wp2_with fail
  go_ret
  exact ⟨rfl, HTz12.out.bel⟩
end Go.Proofs.Ytmimafbedbohiaa
