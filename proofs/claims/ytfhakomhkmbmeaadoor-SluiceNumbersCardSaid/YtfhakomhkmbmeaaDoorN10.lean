import Derived.Test.YtfhakomhkmbmeaaDoorN9
namespace Go.Proofs.YtfhakomhkmbmeaaDoor
set_option linter.unusedVariables false
open Go.RowKit

theorem hexDs_ne (n x : Nat) : hexDs n x ≠ [] := List.length_pos_iff.1 (hexF_ne _ _ _ (.inr (by omega)))
theorem hexDs_lt (n x : Nat) : ∀ d ∈ hexDs n x, d < 16 := hexF_lt _ _ _ (by simp)
theorem hexDs_len {n x : Nat} (h : n ≤ 128) : (hexDs n x).length ≤ 1000 := by have h := hexF_len x ((n - 1) / 4 + 1) []; simp only [List.length_nil] at h; unfold hexDs; omega
/-- what Text wrote, Parse reads -/
theorem parse_text {w : World} {n x : Nat} (sg : Bool) (h1 : 1 ≤ n) (h2 : n ≤ 128) (hx : x < 2 ^ n) (hm : Max w) : Calls Tryd.prog 6 #[.string ⟨(textD n sg x).toArray⟩] w (ParseR w n x sg) := by
  have h := parse_any n 16 (hexDs n x) sg 104 h1 h2 (hexDs_ne n x) (hexDs_lt n x) (by decide) (by decide) (hexDs_len h2) (by decide) (fun w => base_h w) hm
  rw [hexDs_val hx, Nat.mod_eq_of_lt hx, ← itoa_dl n (by omega)] at h
  exact h
theorem parse_nine {w : World} {n : Nat} (hn : n = 4) (hm : Max w) : Calls Tryd.prog 6 #[.string ⟨#[52, 39, 100, 57]⟩] w (ParseR w n 9 false) := by
  subst hn
  have h := parse_any 4 10 [9] false 100 (by decide) (by decide) (by decide) (by decide) (by decide) (by decide) (by decide) (by decide) (fun w => base_d w) hm
  have e : (⟨(hexL (dl 4) ++ 39 :: ((if false = true then [115] else []) ++ 100 :: hexL [9])).toArray⟩ : ByteArray) = ⟨#[52, 39, 100, 57]⟩ := bytes_ext (by decide)
  rw [e, show valH 10 [9] % 2 ^ 4 = 9 from rfl] at h
  exact h
theorem text_nine {n : Nat} (hn : n = 4) : textS n 9 = ⟨#[49, 48, 48, 49]⟩ := by subst hn; exact bytes_ext (by decide)
theorem sums {X Y Z T m1 m2 m3 q1 q2 q3 : Int} (h1 : m1 = X + q1 * T) (h2 : m2 = Y + q2 * T) (h3 : m3 = Z + q3 * T) (hZ : (X + Y) % T = Z) : (m1 + m2 - m3).tmod T = 0 := by
  refine Int.tmod_eq_zero_of_dvd ⟨(X + Y) / T + q1 + q2 - q3, ?_⟩
  have := Int.emod_add_mul_ediv (X + Y) T
  rw [h1, h2, h3, ← hZ, Int.mul_sub, Int.mul_add, Int.mul_add, Int.mul_comm T q1, Int.mul_comm T q2, Int.mul_comm T q3]
  omega
theorem pow_wrap : ∀ N, N < 32 → wrap64 ((2 : Int) ^ N) = ((2 ^ N : Nat) : Int) := by decide +kernel
/-- a ref's number in memory -/
structure LitIn (w : World) (p : Option Addr) (c n N X : Nat) (q : Bool) : Prop where
  own : ∀ w', Below w.heap.size w w' → Calls Tryd.prog 13 #[.slice p n c] w' (RetV w' N X)
  hq : decide ((n : Int) ≤ 128) = q
  lt : X < 2 ^ N
  le : N ≤ 128
set_option maxRecDepth 100000 in
set_option maxHeartbeats 16000000 in
theorem numbers_law {w : World} {pa pb : Option Addr} {ca cb na nb N M X Y : Nat} (sa za sb zb qa qb : Bool) (ha : LitIn w pa ca na N X qa) (hb : LitIn w pb cb nb M Y qb) (ht : Tab w) (hm : Max w) :
    Calls Tryd.prog 3 #[.agg #[.slice pa na ca, .bool sa, .bool za], .agg #[.slice pb nb cb, .bool sb, .bool zb]] w fun e w' => e = .returned (.bool true) ∧ Below w.heap.size w w' := by
  have HA := Lib.hid ha
  have HBb := Lib.hid hb
  have HM := Lib.hid (And.intro ht hm)
  have hNi : (N : Int) ≤ 128 := by have := ha.le; omega
  clear ha hb ht hm
  go_enter Tryd.func3, Tryd.ntmps3
  go_upto_region 1 with fail
  have hT := ((Tr.nil w).lay 24 [.slice pa na ca, .bool sa, .bool za]).lay 24 [.slice pb nb cb, .bool sb, .bool zb]
  simp only [World.size_alloc] at hT
  generalize (w.alloc (.cells [Value.slice pa na ca, .bool sa, .bool za].toArray 24)).alloc (.cells [Value.slice pb nb cb, .bool sb, .bool zb].toArray 24) = W0 at *
  have HT0 := Lib.hid hT
  have HV0 : Hid True := Lib.hid trivial
  clear hT
  have c_a_0 := (HT0.out.at 1 rfl).cell (i := 0) rfl
  have c_a_1 := (HT0.out.at 1 rfl).cell (i := 1) rfl
  have c_a_2 := (HT0.out.at 1 rfl).cell (i := 2) rfl
  have c_b_0 := (HT0.out.at 0 rfl).cell (i := 0) rfl
  have c_b_1 := (HT0.out.at 0 rfl).cell (i := 1) rfl
  have c_b_2 := (HT0.out.at 0 rfl).cell (i := 2) rfl
  go_wp2_with fail
  refine (own2_any sa za _ HA.out.hq (fun w' hb' => HA.out.own w' (HT0.out.bel.trans (hb'.mono HT0.out.bel.size)))).mono ?_; rintro e w1 ⟨px, cx, rfl, hv, hb, hf⟩
  have hbx := Below.next hb (Below.new w1 (.cells #[.int .i64 N, .slice px (wcount N) cx, .bool sa, .bool za] 29))
  have hT := (HT0.out.below hb).lay 29 [.int .i64 N, .slice px (wcount N) cx, .bool sa, .bool za]
  have HV1 := Lib.hid (And.intro (hv.below (Below.new w1 (.cells #[.int .i64 N, .slice px (wcount N) cx, .bool sa, .bool za] 29))) (True.intro))
  obtain ⟨gx, hgx⟩ : ∃ g, w1.heap.size = g := ⟨_, rfl⟩
  rw [hgx] at hT
  have HT1 := Lib.hid hT
  clear hT hbx
  clear hv hb hf
  clear c_a_0 c_a_1 c_a_2 c_b_0 c_b_1 c_b_2
  go_upto_region 2 with fail
  generalize w1.alloc (.cells #[.int .i64 N, .slice px (wcount N) cx, .bool sa, .bool za] 29) = W1 at *
  clear hgx
  have c_b_0 := (HT1.out.at 1 rfl).cell (i := 0) rfl
  have c_b_1 := (HT1.out.at 1 rfl).cell (i := 1) rfl
  have c_b_2 := (HT1.out.at 1 rfl).cell (i := 2) rfl
  go_wp2_with fail
  refine (own2_any sb zb _ HBb.out.hq (fun w' hb' => HBb.out.own w' (HT1.out.bel.trans (hb'.mono HT1.out.bel.size)))).mono ?_; rintro e w2 ⟨py, cy, rfl, hv, hb, hf⟩
  have hbx := Below.next hb (Below.new w2 (.cells #[.int .i64 M, .slice py (wcount M) cy, .bool sb, .bool zb] 29))
  have hT := (HT1.out.below hb).lay 29 [.int .i64 M, .slice py (wcount M) cy, .bool sb, .bool zb]
  have HV2 := Lib.hid (And.intro (HV1.out.1.below hbx) (And.intro (hv.below (Below.new w2 (.cells #[.int .i64 M, .slice py (wcount M) cy, .bool sb, .bool zb] 29))) (True.intro)))
  obtain ⟨gy, hgy⟩ : ∃ g, w2.heap.size = g := ⟨_, rfl⟩
  rw [hgy] at hT
  have HT2 := Lib.hid hT
  clear hT hbx
  clear hv hb hf
  clear c_b_0 c_b_1 c_b_2
  go_upto_region 3 with fail
  generalize w2.alloc (.cells #[.int .i64 M, .slice py (wcount M) cy, .bool sb, .bool zb] 29) = W2 at *
  clear hgy
  have c_x_0 := (HT2.out.at 1 rfl).cell (i := 0) rfl
  have c_x_1 := (HT2.out.at 1 rfl).cell (i := 1) rfl
  have c_x_2 := (HT2.out.at 1 rfl).cell (i := 2) rfl
  have c_x_3 := (HT2.out.at 1 rfl).cell (i := 3) rfl
  have c_y_0 := (HT2.out.at 0 rfl).cell (i := 0) rfl
  have c_y_1 := (HT2.out.at 0 rfl).cell (i := 1) rfl
  have c_y_2 := (HT2.out.at 0 rfl).cell (i := 2) rfl
  have c_y_3 := (HT2.out.at 0 rfl).cell (i := 3) rfl
  go_wp2_with fail
  refine (width_any HV2.out.1).mono ?_; rintro e w3 ⟨rfl, hb⟩
  clear c_x_0 c_x_1 c_x_2 c_x_3 c_y_0 c_y_1 c_y_2 c_y_3
  have HT3 := Lib.hid (HT2.out.below hb)
  have HV3 := Lib.hid (And.intro (HV2.out.1.below hb) (And.intro (HV2.out.2.1.below hb) (True.intro)))
  clear hb
  have c_x_0 := (HT3.out.at 1 rfl).cell (i := 0) rfl
  have c_x_1 := (HT3.out.at 1 rfl).cell (i := 1) rfl
  have c_x_2 := (HT3.out.at 1 rfl).cell (i := 2) rfl
  have c_x_3 := (HT3.out.at 1 rfl).cell (i := 3) rfl
  have c_y_0 := (HT3.out.at 0 rfl).cell (i := 0) rfl
  have c_y_1 := (HT3.out.at 0 rfl).cell (i := 1) rfl
  have c_y_2 := (HT3.out.at 0 rfl).cell (i := 2) rfl
  have c_y_3 := (HT3.out.at 0 rfl).cell (i := 3) rfl
  go_upto_region 4 with fail
  cases qa
  · have hs : True := trivial
    go_upto_region 5 with fail
    go_wp2_with fail
    obtain ⟨n4, hn4⟩ : ∃ n : Nat, n = 4 := ⟨4, rfl⟩
    have hp := parse_nine hn4 (HM.out.2.below HT3.out.bel)
    refine hp.mono ?_; rintro e w9 ⟨pn, cn, rfl, hv, hb, hf⟩
    have hbx := Below.next hb (Below.new w9 (.cells #[.int .i64 n4, .slice pn (wcount n4) cn, .bool false, .bool true] 29))
    have hT := (HT3.out.below hb).lay 29 [.int .i64 n4, .slice pn (wcount n4) cn, .bool false, .bool true]
    have HV4 := Lib.hid (And.intro (HV3.out.1.below hbx) (And.intro (HV3.out.2.1.below hbx) (And.intro (hv.below (Below.new w9 (.cells #[.int .i64 n4, .slice pn (wcount n4) cn, .bool false, .bool true] 29))) (True.intro))))
    obtain ⟨gn, hgn⟩ : ∃ g, w9.heap.size = g := ⟨_, rfl⟩
    rw [hgn] at hT
    have HT4 := Lib.hid hT
    clear hT hbx
    have H4 := Lib.hid hn4
    clear hv hb hf hp hn4
    go_upto_region 6 with fail
    generalize w9.alloc (.cells #[.int .i64 n4, .slice pn (wcount n4) cn, .bool false, .bool true] 29) = W9 at *
    clear hgn
    have c_n_0 := (HT4.out.at 0 rfl).cell (i := 0) rfl
    have c_n_1 := (HT4.out.at 0 rfl).cell (i := 1) rfl
    have c_n_2 := (HT4.out.at 0 rfl).cell (i := 2) rfl
    have c_n_3 := (HT4.out.at 0 rfl).cell (i := 3) rfl
    have ht := text_any HV4.out.2.2.1
    rw [text_nine H4.out] at ht
    have HTx := Lib.hid ht
    clear ht
    go_wp2_with fail
    refine HTx.out.mono ?_; rintro e w10 ⟨rfl, hb⟩
    have HE := Lib.hid (HT4.out.bel.trans (hb.mono HT4.out.bel.size))
    clear hb
    go_wp2_with fail
    go_ret
    exact ⟨rfl, HE.out⟩
  · cases qb
    · have hs : True := trivial
      go_upto_region 5 with fail
      go_wp2_with fail
      obtain ⟨n4, hn4⟩ : ∃ n : Nat, n = 4 := ⟨4, rfl⟩
      have hp := parse_nine hn4 (HM.out.2.below HT3.out.bel)
      refine hp.mono ?_; rintro e w9 ⟨pn, cn, rfl, hv, hb, hf⟩
      have hbx := Below.next hb (Below.new w9 (.cells #[.int .i64 n4, .slice pn (wcount n4) cn, .bool false, .bool true] 29))
      have hT := (HT3.out.below hb).lay 29 [.int .i64 n4, .slice pn (wcount n4) cn, .bool false, .bool true]
      have HV4 := Lib.hid (And.intro (HV3.out.1.below hbx) (And.intro (HV3.out.2.1.below hbx) (And.intro (hv.below (Below.new w9 (.cells #[.int .i64 n4, .slice pn (wcount n4) cn, .bool false, .bool true] 29))) (True.intro))))
      obtain ⟨gn, hgn⟩ : ∃ g, w9.heap.size = g := ⟨_, rfl⟩
      rw [hgn] at hT
      have HT4 := Lib.hid hT
      clear hT hbx
      have H4 := Lib.hid hn4
      clear hv hb hf hp hn4
      go_upto_region 6 with fail
      generalize w9.alloc (.cells #[.int .i64 n4, .slice pn (wcount n4) cn, .bool false, .bool true] 29) = W9 at *
      clear hgn
      have c_n_0 := (HT4.out.at 0 rfl).cell (i := 0) rfl
      have c_n_1 := (HT4.out.at 0 rfl).cell (i := 1) rfl
      have c_n_2 := (HT4.out.at 0 rfl).cell (i := 2) rfl
      have c_n_3 := (HT4.out.at 0 rfl).cell (i := 3) rfl
      have ht := text_any HV4.out.2.2.1
      rw [text_nine H4.out] at ht
      have HTx := Lib.hid ht
      clear ht
      go_wp2_with fail
      refine HTx.out.mono ?_; rintro e w10 ⟨rfl, hb⟩
      have HE := Lib.hid (HT4.out.bel.trans (hb.mono HT4.out.bel.size))
      clear hb
      go_wp2_with fail
      go_ret
      exact ⟨rfl, HE.out⟩
    · by_cases hN0 : N = 0
      · have hN0b : ((N : Int) == 0) = true := by simp; omega
        clear hN0
        go_upto_region 5 with fail
        go_wp2_with fail
        obtain ⟨n4, hn4⟩ : ∃ n : Nat, n = 4 := ⟨4, rfl⟩
        have hp := parse_nine hn4 (HM.out.2.below HT3.out.bel)
        refine hp.mono ?_; rintro e w9 ⟨pn, cn, rfl, hv, hb, hf⟩
        have hbx := Below.next hb (Below.new w9 (.cells #[.int .i64 n4, .slice pn (wcount n4) cn, .bool false, .bool true] 29))
        have hT := (HT3.out.below hb).lay 29 [.int .i64 n4, .slice pn (wcount n4) cn, .bool false, .bool true]
        have HV4 := Lib.hid (And.intro (HV3.out.1.below hbx) (And.intro (HV3.out.2.1.below hbx) (And.intro (hv.below (Below.new w9 (.cells #[.int .i64 n4, .slice pn (wcount n4) cn, .bool false, .bool true] 29))) (True.intro))))
        obtain ⟨gn, hgn⟩ : ∃ g, w9.heap.size = g := ⟨_, rfl⟩
        rw [hgn] at hT
        have HT4 := Lib.hid hT
        clear hT hbx
        have H4 := Lib.hid hn4
        clear hv hb hf hp hn4
        go_upto_region 6 with fail
        generalize w9.alloc (.cells #[.int .i64 n4, .slice pn (wcount n4) cn, .bool false, .bool true] 29) = W9 at *
        clear hgn
        have c_n_0 := (HT4.out.at 0 rfl).cell (i := 0) rfl
        have c_n_1 := (HT4.out.at 0 rfl).cell (i := 1) rfl
        have c_n_2 := (HT4.out.at 0 rfl).cell (i := 2) rfl
        have c_n_3 := (HT4.out.at 0 rfl).cell (i := 3) rfl
        have ht := text_any HV4.out.2.2.1
        rw [text_nine H4.out] at ht
        have HTx := Lib.hid ht
        clear ht
        go_wp2_with fail
        refine HTx.out.mono ?_; rintro e w10 ⟨rfl, hb⟩
        have HE := Lib.hid (HT4.out.bel.trans (hb.mono HT4.out.bel.size))
        clear hb
        go_wp2_with fail
        go_ret
        exact ⟨rfl, HE.out⟩
      · have hN0b : ((N : Int) == 0) = false := by simp; omega
        have HN0 := Lib.hid hN0
        clear hN0
        go_wp2_with fail
        refine (width_any HV3.out.2.1).mono ?_; rintro e w4 ⟨rfl, hb⟩
        clear c_x_0 c_x_1 c_x_2 c_x_3 c_y_0 c_y_1 c_y_2 c_y_3
        have HT4 := Lib.hid (HT3.out.below hb)
        have HV4 := Lib.hid (And.intro (HV3.out.1.below hb) (And.intro (HV3.out.2.1.below hb) (True.intro)))
        clear hb
        have c_x_0 := (HT4.out.at 1 rfl).cell (i := 0) rfl
        have c_x_1 := (HT4.out.at 1 rfl).cell (i := 1) rfl
        have c_x_2 := (HT4.out.at 1 rfl).cell (i := 2) rfl
        have c_x_3 := (HT4.out.at 1 rfl).cell (i := 3) rfl
        have c_y_0 := (HT4.out.at 0 rfl).cell (i := 0) rfl
        have c_y_1 := (HT4.out.at 0 rfl).cell (i := 1) rfl
        have c_y_2 := (HT4.out.at 0 rfl).cell (i := 2) rfl
        have c_y_3 := (HT4.out.at 0 rfl).cell (i := 3) rfl
        by_cases hM0 : M = 0
        · have hM0b : ((M : Int) == 0) = true := by simp; omega
          clear hM0
          go_upto_region 5 with fail
          go_wp2_with fail
          obtain ⟨n4, hn4⟩ : ∃ n : Nat, n = 4 := ⟨4, rfl⟩
          have hp := parse_nine hn4 (HM.out.2.below HT4.out.bel)
          refine hp.mono ?_; rintro e w9 ⟨pn, cn, rfl, hv, hb, hf⟩
          have hbx := Below.next hb (Below.new w9 (.cells #[.int .i64 n4, .slice pn (wcount n4) cn, .bool false, .bool true] 29))
          have hT := (HT4.out.below hb).lay 29 [.int .i64 n4, .slice pn (wcount n4) cn, .bool false, .bool true]
          have HV5 := Lib.hid (And.intro (HV4.out.1.below hbx) (And.intro (HV4.out.2.1.below hbx) (And.intro (hv.below (Below.new w9 (.cells #[.int .i64 n4, .slice pn (wcount n4) cn, .bool false, .bool true] 29))) (True.intro))))
          obtain ⟨gn, hgn⟩ : ∃ g, w9.heap.size = g := ⟨_, rfl⟩
          rw [hgn] at hT
          have HT5 := Lib.hid hT
          clear hT hbx
          have H4 := Lib.hid hn4
          clear hv hb hf hp hn4
          go_upto_region 6 with fail
          generalize w9.alloc (.cells #[.int .i64 n4, .slice pn (wcount n4) cn, .bool false, .bool true] 29) = W9 at *
          clear hgn
          have c_n_0 := (HT5.out.at 0 rfl).cell (i := 0) rfl
          have c_n_1 := (HT5.out.at 0 rfl).cell (i := 1) rfl
          have c_n_2 := (HT5.out.at 0 rfl).cell (i := 2) rfl
          have c_n_3 := (HT5.out.at 0 rfl).cell (i := 3) rfl
          have ht := text_any HV5.out.2.2.1
          rw [text_nine H4.out] at ht
          have HTx := Lib.hid ht
          clear ht
          go_wp2_with fail
          refine HTx.out.mono ?_; rintro e w10 ⟨rfl, hb⟩
          have HE := Lib.hid (HT5.out.bel.trans (hb.mono HT5.out.bel.size))
          clear hb
          go_wp2_with fail
          go_ret
          exact ⟨rfl, HE.out⟩
        · have hM0b : ((M : Int) == 0) = false := by simp; omega
          have HM0 := Lib.hid hM0
          clear hM0
          go_upto_region 7 with fail
          have hN1 : 1 ≤ N := by have := HN0.out; omega
          have HN1 := Lib.hid (And.intro hN1 HA.out.le)
          have hM1 : 1 ≤ M := by have := HM0.out; omega
          have HMM := Lib.hid hM1
          clear hN1 hM1
          obtain ⟨E, hE⟩ : ∃ E, ofB (extF Y M sb) N = E := ⟨_, rfl⟩
          have hx := ext_good HV4.out.2.1 N sb HN1.out.1 HN1.out.2 HMM.out
          rw [hE] at hx
          have HX := Lib.hid hx
          clear hx hE
          go_wp2_with fail
          refine HX.out.mono ?_; rintro e w5 ⟨vd, rfl, hv, hb, hf⟩
          obtain ⟨pd, cd, rfl, _⟩ := hv.ex
          clear c_x_0 c_x_1 c_x_2 c_x_3 c_y_0 c_y_1 c_y_2 c_y_3
          have hbx := Below.next hb (Below.new w5 (.cells #[.int .i64 N, .slice pd (wcount N) cd] 27))
          have hT := (HT4.out.below hb).lay 27 [.int .i64 N, .slice pd (wcount N) cd]
          have HV5 := Lib.hid (And.intro (HV4.out.1.below hbx) (And.intro (HV4.out.2.1.below hbx) (And.intro (hv.below (Below.new w5 (.cells #[.int .i64 N, .slice pd (wcount N) cd] 27))) (True.intro))))
          obtain ⟨gd, hgd⟩ : ∃ g, w5.heap.size = g := ⟨_, rfl⟩
          rw [hgd] at hT
          have HT5 := Lib.hid hT
          clear hT hbx
          clear hv hb hf HX
          go_upto_region 8 with fail
          generalize w5.alloc (.cells #[.int .i64 N, .slice pd (wcount N) cd] 27) = W5 at *
          clear hgd
          have c_x_0 := (HT5.out.at 2 rfl).cell (i := 0) rfl
          have c_x_1 := (HT5.out.at 2 rfl).cell (i := 1) rfl
          have c_x_2 := (HT5.out.at 2 rfl).cell (i := 2) rfl
          have c_x_3 := (HT5.out.at 2 rfl).cell (i := 3) rfl
          have c_d_0 := (HT5.out.at 0 rfl).cell (i := 0) rfl
          have c_d_1 := (HT5.out.at 0 rfl).cell (i := 1) rfl
          obtain ⟨S, hS⟩ : ∃ S, (X + E + 0) % 2 ^ N = S := ⟨_, rfl⟩
          have hx := bin_0 HV5.out.1 HV5.out.2.2.1 HN1.out.1
          rw [hS] at hx
          have HX := Lib.hid hx
          have HS := Lib.hid hS
          clear hx hS
          go_wp2_with fail
          refine HX.out.mono ?_; rintro e w6 ⟨vs, rfl, hv, hb, hf⟩
          obtain ⟨ps, cs, rfl, _⟩ := hv.ex
          clear c_x_0 c_x_1 c_x_2 c_x_3 c_d_0 c_d_1
          have hbx := Below.next hb (Below.new w6 (.cells #[.int .i64 N, .slice ps (wcount N) cs] 27))
          have hT := (HT5.out.below hb).lay 27 [.int .i64 N, .slice ps (wcount N) cs]
          have HV6 := Lib.hid (And.intro (HV5.out.1.below hbx) (And.intro (HV5.out.2.1.below hbx) (And.intro (HV5.out.2.2.1.below hbx) (And.intro (hv.below (Below.new w6 (.cells #[.int .i64 N, .slice ps (wcount N) cs] 27))) (True.intro)))))
          obtain ⟨gs, hgs⟩ : ∃ g, w6.heap.size = g := ⟨_, rfl⟩
          rw [hgs] at hT
          have HT6 := Lib.hid hT
          clear hT hbx
          clear hv hb hf HX
          go_upto_region 11 with fail
          generalize w6.alloc (.cells #[.int .i64 N, .slice ps (wcount N) cs] 27) = W6 at *
          clear hgs
          have c_x_0 := (HT6.out.at 3 rfl).cell (i := 0) rfl
          have c_x_1 := (HT6.out.at 3 rfl).cell (i := 1) rfl
          have c_x_2 := (HT6.out.at 3 rfl).cell (i := 2) rfl
          have c_x_3 := (HT6.out.at 3 rfl).cell (i := 3) rfl
          have hx := ltext_any sa HV6.out.1 HN1.out.1 (tab_below HM.out.1 HT6.out.bel)
          have HX := Lib.hid hx
          clear hx
          go_wp2_with fail
          refine HX.out.mono ?_; rintro e w11 ⟨rfl, hb⟩
          clear c_x_0 c_x_1 c_x_2 c_x_3
          have HT7 := Lib.hid (HT6.out.below hb)
          have HV7 := Lib.hid (And.intro (HV6.out.1.below hb) (And.intro (HV6.out.2.1.below hb) (And.intro (HV6.out.2.2.1.below hb) (And.intro (HV6.out.2.2.2.1.below hb) (True.intro)))))
          clear hb HX
          have hx := parse_text sa HN1.out.1 HN1.out.2 HV7.out.1.lt (HM.out.2.below HT7.out.bel)
          have HX := Lib.hid hx
          clear hx
          go_wp2_with fail
          refine HX.out.mono ?_; rintro e w12 ⟨pP, cP, rfl, hv, hb, hf⟩
          have hbx := Below.next hb (Below.new w12 (.cells #[.int .i64 N, .slice pP (wcount N) cP, .bool sa, .bool true] 29))
          have hT := (HT7.out.below hb).lay 29 [.int .i64 N, .slice pP (wcount N) cP, .bool sa, .bool true]
          have HV8 := Lib.hid (And.intro (HV7.out.1.below hbx) (And.intro (HV7.out.2.1.below hbx) (And.intro (HV7.out.2.2.1.below hbx) (And.intro (HV7.out.2.2.2.1.below hbx) (And.intro (hv.below (Below.new w12 (.cells #[.int .i64 N, .slice pP (wcount N) cP, .bool sa, .bool true] 29))) (True.intro))))))
          obtain ⟨gP, hgP⟩ : ∃ g, w12.heap.size = g := ⟨_, rfl⟩
          rw [hgP] at hT
          have HT8 := Lib.hid hT
          clear hT hbx
          clear hv hb hf HX
          go_upto_region 12 with fail
          generalize w12.alloc (.cells #[.int .i64 N, .slice pP (wcount N) cP, .bool sa, .bool true] 29) = W12 at *
          clear hgP
          have c_d_0 := (HT8.out.at 2 rfl).cell (i := 0) rfl
          have c_d_1 := (HT8.out.at 2 rfl).cell (i := 1) rfl
          have hx := ltext_any false HV8.out.2.2.1 HN1.out.1 (tab_below HM.out.1 HT8.out.bel)
          have HX := Lib.hid hx
          clear hx
          go_wp2_with fail
          refine HX.out.mono ?_; rintro e w13 ⟨rfl, hb⟩
          clear c_d_0 c_d_1
          have HT9 := Lib.hid (HT8.out.below hb)
          have HV9 := Lib.hid (And.intro (HV8.out.1.below hb) (And.intro (HV8.out.2.1.below hb) (And.intro (HV8.out.2.2.1.below hb) (And.intro (HV8.out.2.2.2.1.below hb) (And.intro (HV8.out.2.2.2.2.1.below hb) (True.intro))))))
          clear hb HX
          have hx := parse_text false HN1.out.1 HN1.out.2 HV9.out.2.2.1.lt (HM.out.2.below HT9.out.bel)
          have HX := Lib.hid hx
          clear hx
          go_wp2_with fail
          refine HX.out.mono ?_; rintro e w14 ⟨pQ, cQ, rfl, hv, hb, hf⟩
          have hbx := Below.next hb (Below.new w14 (.cells #[.int .i64 N, .slice pQ (wcount N) cQ, .bool false, .bool true] 29))
          have hT := (HT9.out.below hb).lay 29 [.int .i64 N, .slice pQ (wcount N) cQ, .bool false, .bool true]
          have HV10 := Lib.hid (And.intro (HV9.out.1.below hbx) (And.intro (HV9.out.2.1.below hbx) (And.intro (HV9.out.2.2.1.below hbx) (And.intro (HV9.out.2.2.2.1.below hbx) (And.intro (HV9.out.2.2.2.2.1.below hbx) (And.intro (hv.below (Below.new w14 (.cells #[.int .i64 N, .slice pQ (wcount N) cQ, .bool false, .bool true] 29))) (True.intro)))))))
          obtain ⟨gQ, hgQ⟩ : ∃ g, w14.heap.size = g := ⟨_, rfl⟩
          rw [hgQ] at hT
          have HT10 := Lib.hid hT
          clear hT hbx
          clear hv hb hf HX
          go_upto_region 13 with fail
          generalize w14.alloc (.cells #[.int .i64 N, .slice pQ (wcount N) cQ, .bool false, .bool true] 29) = W14 at *
          clear hgQ
          have c_s_0 := (HT10.out.at 2 rfl).cell (i := 0) rfl
          have c_s_1 := (HT10.out.at 2 rfl).cell (i := 1) rfl
          have hx := ltext_any false HV10.out.2.2.2.1 HN1.out.1 (tab_below HM.out.1 HT10.out.bel)
          have HX := Lib.hid hx
          clear hx
          go_wp2_with fail
          refine HX.out.mono ?_; rintro e w15 ⟨rfl, hb⟩
          clear c_s_0 c_s_1
          have HT11 := Lib.hid (HT10.out.below hb)
          have HV11 := Lib.hid (And.intro (HV10.out.1.below hb) (And.intro (HV10.out.2.1.below hb) (And.intro (HV10.out.2.2.1.below hb) (And.intro (HV10.out.2.2.2.1.below hb) (And.intro (HV10.out.2.2.2.2.1.below hb) (And.intro (HV10.out.2.2.2.2.2.1.below hb) (True.intro)))))))
          clear hb HX
          have hx := parse_text false HN1.out.1 HN1.out.2 HV11.out.2.2.2.1.lt (HM.out.2.below HT11.out.bel)
          have HX := Lib.hid hx
          clear hx
          go_wp2_with fail
          refine HX.out.mono ?_; rintro e w16 ⟨pR, cR, rfl, hv, hb, hf⟩
          have hbx := Below.next hb (Below.new w16 (.cells #[.int .i64 N, .slice pR (wcount N) cR, .bool false, .bool true] 29))
          have hT := (HT11.out.below hb).lay 29 [.int .i64 N, .slice pR (wcount N) cR, .bool false, .bool true]
          have HV12 := Lib.hid (And.intro (HV11.out.1.below hbx) (And.intro (HV11.out.2.1.below hbx) (And.intro (HV11.out.2.2.1.below hbx) (And.intro (HV11.out.2.2.2.1.below hbx) (And.intro (HV11.out.2.2.2.2.1.below hbx) (And.intro (HV11.out.2.2.2.2.2.1.below hbx) (And.intro (hv.below (Below.new w16 (.cells #[.int .i64 N, .slice pR (wcount N) cR, .bool false, .bool true] 29))) (True.intro))))))))
          obtain ⟨gR, hgR⟩ : ∃ g, w16.heap.size = g := ⟨_, rfl⟩
          rw [hgR] at hT
          have HT12 := Lib.hid hT
          clear hT hbx
          clear hv hb hf HX
          go_upto_region 14 with fail
          generalize w16.alloc (.cells #[.int .i64 N, .slice pR (wcount N) cR, .bool false, .bool true] 29) = W16 at *
          clear hgR
          have c_P_0 := (HT12.out.at 2 rfl).cell (i := 0) rfl
          have c_P_1 := (HT12.out.at 2 rfl).cell (i := 1) rfl
          have c_P_2 := (HT12.out.at 2 rfl).cell (i := 2) rfl
          have c_P_3 := (HT12.out.at 2 rfl).cell (i := 3) rfl
          have c_Q_0 := (HT12.out.at 1 rfl).cell (i := 0) rfl
          have c_Q_1 := (HT12.out.at 1 rfl).cell (i := 1) rfl
          have c_Q_2 := (HT12.out.at 1 rfl).cell (i := 2) rfl
          have c_Q_3 := (HT12.out.at 1 rfl).cell (i := 3) rfl
          have c_x_0 := (HT12.out.at 6 rfl).cell (i := 0) rfl
          have c_x_1 := (HT12.out.at 6 rfl).cell (i := 1) rfl
          have c_x_2 := (HT12.out.at 6 rfl).cell (i := 2) rfl
          have c_x_3 := (HT12.out.at 6 rfl).cell (i := 3) rfl
          have hx := bin_0 HV12.out.2.2.2.2.1 HV12.out.2.2.2.2.2.1 HN1.out.1
          rw [HS.out] at hx
          have HX := Lib.hid hx
          clear hx
          have hsa : (sa != sa) = false := by cases sa <;> rfl
          go_wp2_with fail
          refine HX.out.mono ?_; rintro e w17 ⟨va, rfl, hv, hb, hf⟩
          obtain ⟨pA, cA, rfl, _⟩ := hv.ex
          clear c_P_0 c_P_1 c_P_2 c_P_3 c_Q_0 c_Q_1 c_Q_2 c_Q_3 c_x_0 c_x_1 c_x_2 c_x_3
          have hbx := Below.next hb (Below.new w17 (.cells #[.int .i64 N, .slice pA (wcount N) cA] 27))
          have hT := (HT12.out.below hb).lay 27 [.int .i64 N, .slice pA (wcount N) cA]
          have HV13 := Lib.hid (And.intro (HV12.out.1.below hbx) (And.intro (HV12.out.2.1.below hbx) (And.intro (HV12.out.2.2.1.below hbx) (And.intro (HV12.out.2.2.2.1.below hbx) (And.intro (HV12.out.2.2.2.2.1.below hbx) (And.intro (HV12.out.2.2.2.2.2.1.below hbx) (And.intro (HV12.out.2.2.2.2.2.2.1.below hbx) (And.intro (hv.below (Below.new w17 (.cells #[.int .i64 N, .slice pA (wcount N) cA] 27))) (True.intro)))))))))
          obtain ⟨gA, hgA⟩ : ∃ g, w17.heap.size = g := ⟨_, rfl⟩
          rw [hgA] at hT
          have HT13 := Lib.hid hT
          clear hT hbx
          clear hv hb hf HX hsa
          go_upto_region 17 with fail
          generalize w17.alloc (.cells #[.int .i64 N, .slice pA (wcount N) cA] 27) = W17 at *
          clear hgA
          have c_A_0 := (HT13.out.at 0 rfl).cell (i := 0) rfl
          have c_A_1 := (HT13.out.at 0 rfl).cell (i := 1) rfl
          have c_R_0 := (HT13.out.at 1 rfl).cell (i := 0) rfl
          have c_R_1 := (HT13.out.at 1 rfl).cell (i := 1) rfl
          have c_R_2 := (HT13.out.at 1 rfl).cell (i := 2) rfl
          have c_R_3 := (HT13.out.at 1 rfl).cell (i := 3) rfl
          have c_s_0 := (HT13.out.at 4 rfl).cell (i := 0) rfl
          have c_s_1 := (HT13.out.at 4 rfl).cell (i := 1) rfl
          have hx := equal_any HV13.out.2.2.2.2.2.2.2.1 HV13.out.2.2.2.2.2.2.1
          rw [decide_eq_true ⟨rfl, rfl⟩] at hx
          have HX := Lib.hid hx
          clear hx
          go_wp2_with fail
          refine HX.out.mono ?_; rintro e w18 ⟨rfl, hb⟩
          clear c_A_0 c_A_1 c_R_0 c_R_1 c_R_2 c_R_3 c_s_0 c_s_1
          have HT14 := Lib.hid (HT13.out.below hb)
          have HV14 := Lib.hid (And.intro (HV13.out.1.below hb) (And.intro (HV13.out.2.1.below hb) (And.intro (HV13.out.2.2.1.below hb) (And.intro (HV13.out.2.2.2.1.below hb) (And.intro (HV13.out.2.2.2.2.1.below hb) (And.intro (HV13.out.2.2.2.2.2.1.below hb) (And.intro (HV13.out.2.2.2.2.2.2.1.below hb) (And.intro (HV13.out.2.2.2.2.2.2.2.1.below hb) (True.intro)))))))))
          clear hb HX
          have c_R_0 := (HT14.out.at 1 rfl).cell (i := 0) rfl
          have c_R_1 := (HT14.out.at 1 rfl).cell (i := 1) rfl
          have c_R_2 := (HT14.out.at 1 rfl).cell (i := 2) rfl
          have c_R_3 := (HT14.out.at 1 rfl).cell (i := 3) rfl
          have c_s_0 := (HT14.out.at 4 rfl).cell (i := 0) rfl
          have c_s_1 := (HT14.out.at 4 rfl).cell (i := 1) rfl
          have hx := equal_any HV14.out.2.2.2.2.2.2.1 HV14.out.2.2.2.1
          rw [decide_eq_true ⟨rfl, rfl⟩] at hx
          have HX := Lib.hid hx
          clear hx
          go_wp2_with fail
          refine HX.out.mono ?_; rintro e w19 ⟨rfl, hb⟩
          clear c_R_0 c_R_1 c_R_2 c_R_3 c_s_0 c_s_1
          have HT15 := Lib.hid (HT14.out.below hb)
          have HV15 := Lib.hid (And.intro (HV14.out.1.below hb) (And.intro (HV14.out.2.1.below hb) (And.intro (HV14.out.2.2.1.below hb) (And.intro (HV14.out.2.2.2.1.below hb) (And.intro (HV14.out.2.2.2.2.1.below hb) (And.intro (HV14.out.2.2.2.2.2.1.below hb) (And.intro (HV14.out.2.2.2.2.2.2.1.below hb) (And.intro (HV14.out.2.2.2.2.2.2.2.1.below hb) (True.intro)))))))))
          clear hb HX
          have c_P_0 := (HT15.out.at 3 rfl).cell (i := 0) rfl
          have c_P_1 := (HT15.out.at 3 rfl).cell (i := 1) rfl
          have c_P_2 := (HT15.out.at 3 rfl).cell (i := 2) rfl
          have c_P_3 := (HT15.out.at 3 rfl).cell (i := 3) rfl
          have hx := lint_any sa HV15.out.2.2.2.2.1 HN1.out.1
          have HX := Lib.hid hx
          clear hx
          go_wp2_with fail
          refine HX.out.mono ?_; rintro e w20 ⟨m1, e1, rfl, hb, l1, u1, hq1⟩
          clear c_P_0 c_P_1 c_P_2 c_P_3
          have HT16 := Lib.hid (HT15.out.below hb)
          have HV16 := Lib.hid (And.intro (HV15.out.1.below hb) (And.intro (HV15.out.2.1.below hb) (And.intro (HV15.out.2.2.1.below hb) (And.intro (HV15.out.2.2.2.1.below hb) (And.intro (HV15.out.2.2.2.2.1.below hb) (And.intro (HV15.out.2.2.2.2.2.1.below hb) (And.intro (HV15.out.2.2.2.2.2.2.1.below hb) (And.intro (HV15.out.2.2.2.2.2.2.2.1.below hb) (True.intro)))))))))
          have HQ1 := Lib.hid hq1
          clear hb HX hq1
          have c_d_0 := (HT16.out.at 5 rfl).cell (i := 0) rfl
          have c_d_1 := (HT16.out.at 5 rfl).cell (i := 1) rfl
          have c_x_0 := (HT16.out.at 7 rfl).cell (i := 0) rfl
          have c_x_1 := (HT16.out.at 7 rfl).cell (i := 1) rfl
          have c_x_2 := (HT16.out.at 7 rfl).cell (i := 2) rfl
          have c_x_3 := (HT16.out.at 7 rfl).cell (i := 3) rfl
          have hx := lint_any sa HV16.out.2.2.1 HN1.out.1
          have HX := Lib.hid hx
          clear hx
          go_wp2_with fail
          refine HX.out.mono ?_; rintro e w21 ⟨m2, e2, rfl, hb, l2, u2, hq2⟩
          clear c_d_0 c_d_1 c_x_0 c_x_1 c_x_2 c_x_3
          have HT17 := Lib.hid (HT16.out.below hb)
          have HV17 := Lib.hid (And.intro (HV16.out.1.below hb) (And.intro (HV16.out.2.1.below hb) (And.intro (HV16.out.2.2.1.below hb) (And.intro (HV16.out.2.2.2.1.below hb) (And.intro (HV16.out.2.2.2.2.1.below hb) (And.intro (HV16.out.2.2.2.2.2.1.below hb) (And.intro (HV16.out.2.2.2.2.2.2.1.below hb) (And.intro (HV16.out.2.2.2.2.2.2.2.1.below hb) (True.intro)))))))))
          have HQ2 := Lib.hid hq2
          clear hb HX hq2
          have c_s_0 := (HT17.out.at 4 rfl).cell (i := 0) rfl
          have c_s_1 := (HT17.out.at 4 rfl).cell (i := 1) rfl
          have c_x_0 := (HT17.out.at 7 rfl).cell (i := 0) rfl
          have c_x_1 := (HT17.out.at 7 rfl).cell (i := 1) rfl
          have c_x_2 := (HT17.out.at 7 rfl).cell (i := 2) rfl
          have c_x_3 := (HT17.out.at 7 rfl).cell (i := 3) rfl
          have hx := lint_any sa HV17.out.2.2.2.1 HN1.out.1
          have HX := Lib.hid hx
          clear hx
          go_wp2_with fail
          refine HX.out.mono ?_; rintro e w22 ⟨m3, e3, rfl, hb, l3, u3, hq3⟩
          clear c_s_0 c_s_1 c_x_0 c_x_1 c_x_2 c_x_3
          have HT18 := Lib.hid (HT17.out.below hb)
          have HV18 := Lib.hid (And.intro (HV17.out.1.below hb) (And.intro (HV17.out.2.1.below hb) (And.intro (HV17.out.2.2.1.below hb) (And.intro (HV17.out.2.2.2.1.below hb) (And.intro (HV17.out.2.2.2.2.1.below hb) (And.intro (HV17.out.2.2.2.2.2.1.below hb) (And.intro (HV17.out.2.2.2.2.2.2.1.below hb) (And.intro (HV17.out.2.2.2.2.2.2.2.1.below hb) (True.intro)))))))))
          have HQ3 := Lib.hid hq3
          clear hb HX hq3
          have HEnd := Lib.hid HT18.out.bel
          by_cases he1 : e1 = 0
          rotate_left
          · have heb : (e1 != 0) = true := by simp [he1]
            clear he1
            go_wp2_with fail
            go_ret
            exact ⟨rfl, HEnd.out⟩
          have hb1 : (e1 != 0) = false := by simp [he1]
          obtain ⟨q1, hq1⟩ := HQ1.out he1
          have HC1 := Lib.hid hq1
          clear he1 hq1 HQ1
          by_cases he2 : e2 = 0
          rotate_left
          · have heb : (e2 != 0) = true := by simp [he2]
            clear he2
            go_wp2_with fail
            go_ret
            exact ⟨rfl, HEnd.out⟩
          have hb2 : (e2 != 0) = false := by simp [he2]
          obtain ⟨q2, hq2⟩ := HQ2.out he2
          have HC2 := Lib.hid hq2
          clear he2 hq2 HQ2
          by_cases he3 : e3 = 0
          rotate_left
          · have heb : (e3 != 0) = true := by simp [he3]
            clear he3
            go_wp2_with fail
            go_ret
            exact ⟨rfl, HEnd.out⟩
          have hb3 : (e3 != 0) = false := by simp [he3]
          obtain ⟨q3, hq3⟩ := HQ3.out he3
          have HC3 := Lib.hid hq3
          clear he3 hq3 HQ3
          by_cases h31 : (31 : Int) < N
          · have h31t : True := trivial
            go_wp2_with fail
            go_ret
            exact ⟨rfl, HEnd.out⟩
          have h31d : decide ((31 : Int) < N) = false := decide_eq_false h31
          obtain ⟨T, hT⟩ : ∃ T : Int, ((2 ^ N : Nat) : Int) = T := ⟨_, rfl⟩
          have hTw : wrap64 ((2 : Int) ^ N) = T := by rw [pow_wrap N (by omega), hT]
          have hT0 : ¬ T = 0 := by have : 0 < 2 ^ N := Nat.pow_pos (by decide); omega
          have HFin : Hid ((m1 + m2 - m3).tmod T = 0) := Lib.hid (by
            have h1 := HC1.out; have h2 := HC2.out; have h3 := HC3.out
            rw [hT] at h1 h2 h3
            refine sums h1 h2 h3 ?_
            rw [← hT, ← HS.out, Nat.add_zero]; rfl)
          clear hT HC1 HC2 HC3
          go_wp2_with fail
          go_ret
          exact ⟨congrArg (fun b => Ending.returned (Value.bool b)) (by rw [HFin.out]; rfl), HEnd.out⟩
end Go.Proofs.YtfhakomhkmbmeaaDoor
