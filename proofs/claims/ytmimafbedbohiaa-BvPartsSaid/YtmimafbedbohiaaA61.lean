import Derived.Test.YtmimafbedbohiaaA60
import Derived.Test.YtmimafbedbohiaaK4
import Derived.Deep.CutRange
import Derived.Deep.QuietTactic
import Derived.BigQuiet
namespace Go.Proofs.Ytmimafbedbohiaa
set_option linter.unusedVariables false
open Go.RowKit

theorem ofB_mod (x n : Nat) : ofB x.testBit n = x % 2 ^ n := by
  apply eq_bits; intro j
  rw [testBit_ofB, mod_bit]
theorem valW_words : ∀ (m x : Nat), x < 2 ^ (64 * m) → valW ((List.range m).map (word x)) = x := by
  intro m x hx
  refine words_ext (m := m) (by
    have h := valW_lt ((List.range m).map (word x)) (fun y hy => by
      obtain ⟨i, _, rfl⟩ := List.mem_map.1 hy; exact word_lt x i)
    simpa using h) hx fun i hi => ?_
  rw [valW_word _ (fun y hy => by obtain ⟨i, _, rfl⟩ := List.mem_map.1 hy; exact word_lt x i)]
  simp [List.getD, hi]
theorem natsV_wordsV (m x : Nat) : natsV ((List.range m).map (word x)) = wordsV m x := by
  unfold natsV wordsV; rw [List.map_map]; rfl
theorem RO.nats_take {w : World} {p : Option Addr} {c c' m : Nat} {l : List Nat} (h : RO w (.slice p l.length c) 1 l.length (natsV l)) (hm : m ≤ l.length) : RO w (.slice p m c') 1 m (natsV (l.take m)) := by
  obtain ⟨hl, sp, sc, e, hc⟩ := h
  simp only [Value.slice.injEq] at e
  obtain ⟨rfl, _, rfl⟩ := e
  refine ⟨by rw [natsV_length, List.length_take]; omega, _, _, rfl, fun j u hj => ?_⟩
  have : (natsV l)[j]? = some u := by
    unfold natsV at hj ⊢
    rw [List.getElem?_map, List.getElem?_take] at hj
    split at hj
    · rw [List.getElem?_map]; exact hj
    · cases hj
  exact hc j u this
theorem new_both {w : World} {vw : Value} {l : List Nat} (hl : RO w vw 1 l.length (natsV l)) (hx : ∀ x ∈ l, x < 2 ^ 64) (s : Int) : ∃ (N X : Nat) (f : Nat → Bool) (err : Int), X = ofB f N ∧ N ≤ 128 ∧
    (∀ W, Below w.heap.size w W → Calls Try.prog 14 #[.int .i64 s, vw] W (RetE W N X err)) ∧ (∀ W, Below w.heap.size w W → Calls Try.prog 19 #[.int .i64 s, vw] W (RetEL W N f err)) := by
  by_cases h : 1 ≤ s ∧ s ≤ 128
  · obtain ⟨n, rfl⟩ : ∃ n : Nat, s = n := ⟨s.toNat, by omega⟩
    exact ⟨n, valW l % 2 ^ n, (valW l).testBit, 0, (ofB_mod _ _).symm, by omega, fun W hb => new_good n (by omega) (by omega) vw (hl.below hb) hx, fun W hb => rnew_good (hl.below hb) hx n (by omega) (by omega)⟩
  · exact ⟨0, 0, fun _ => false, 2, rfl, by omega, fun W hb => new_bad s vw (hl.below hb) (by omega), fun W hb => rnew_bad (hl.below hb) s (by omega)⟩
theorem Tr.join {w W W' : World} {ls bs} (h : Tr w ls W) (k : Tr W bs W') : Tr w (bs ++ ls) W' := h.many k.bel (fun p hp => ⟨k.blk p hp, k.ge p hp⟩) k.nd
theorem VR.boxNe {w : World} {p q : Option Addr} {c n x L t m d : Nat} {a : Int} (h : VR w (.agg #[.int .i64 n, .slice p (wcount n) c]) n x) (hn : 0 < n) (hk : Blk w L t [.int .i64 a, .slice q m d]) : ∀ b o, p = some ⟨b, o, none⟩ → b ≠ L := by
  rintro b o rfl rfl
  obtain ⟨⟨p', c', e, r⟩, _, _⟩ := h
  simp at e
  obtain ⟨rfl, rfl⟩ := e
  have hc := r.cell (wordsV_at (show 0 < wcount n by unfold wcount; omega))
  unfold Blk at hk
  simp [World.cell?, hk] at hc
  match o with
  | 0 => simp at hc
  | 1 => simp at hc
  | o + 2 => simp at hc
theorem VR.keep2 {w : World} {p q : Option Addr} {c n x L t m d : Nat} {a : Int} {x1 y1 : Value} (h : VR w (.agg #[.int .i64 n, .slice p (wcount n) c]) n x) (hk : Blk w L t [.int .i64 a, .slice q m d]) :
    VR ((w.setCell ⟨L, 0, none⟩ x1).setCell ⟨L, 1, none⟩ y1) (.agg #[.int .i64 n, .slice p (wcount n) c]) n x := by
  rcases Nat.eq_zero_or_pos n with rfl | hn
  · exact ⟨⟨p, c, rfl, by simp [wordsV, wcount], _, _, rfl, fun j u hj => by simp [wordsV, wcount] at hj⟩, h.lt, h.le⟩
  · exact h.set2 (h.boxNe hn hk)
theorem of_both {w : World} {vl : Value} {n : Nat} {f : Nat → Bool} (hl : RO w vl 1 n (bools (rl n f))) (hn : n ≤ 1000000000000000000) : ∃ (N X : Nat) (g : Nat → Bool) (err : Int), X = ofB g N ∧ N ≤ 128 ∧ ((N = 0 ∧ err = 2) ∨ (1 ≤ N ∧ err = 0)) ∧
    (∀ W, Below w.heap.size w W → Calls Try.prog 21 #[vl] W (RetE W N X err)) ∧ (∀ W, Below w.heap.size w W → Calls Try.prog 22 #[vl] W (RetEL W N g err)) := by
  by_cases h : 1 ≤ n ∧ n ≤ 128
  · exact ⟨n, ofB f n, f, 0, rfl, by omega, .inr ⟨h.1, rfl⟩, fun W hb => of_rl (hl.below hb) h.1 h.2, fun W hb => rof_good (hl.below hb) h.1 h.2⟩
  · exact ⟨0, 0, fun _ => false, 2, rfl, by omega, .inl ⟨rfl, rfl⟩, fun W hb => of_rl_bad (hl.below hb) hn (by omega), fun W hb => rof_bad (hl.below hb) (by omega)⟩

set_option maxRecDepth 100000 in
set_option maxHeartbeats 16000000 in
theorem makes_law {w : World} (s : Int) {pw p : Option Addr} {cw n0 c : Nat} {l : List Nat} {f : Nat → Bool} (hW : RO w (.slice pw l.length cw) 1 l.length (natsV l)) (hcw : l.length ≤ cw) (hx : ∀ x ∈ l, x < 2 ^ 64) (hl : l.length ≤ 1000000000000000000)
    (hA : RO w (.slice p n0 c) 1 n0 (bools (rl n0 f))) (hc : n0 ≤ c) (hn0 : n0 ≤ 1000000000000000000) :
    Calls Try.prog 4 #[.int .i64 s, .slice pw l.length cw, .slice p n0 c] w fun e w' => e = .returned (.bool true) ∧ Below w.heap.size w w' := by
  have HAw := Lib.hid (awake_any w)
  have HSh := Lib.hid (fun w' (hb : Below w.heap.size w w') => short_any (hA.below hb) hc hn0)
  obtain ⟨n, hn⟩ : ∃ n, min n0 140 = n := ⟨_, rfl⟩
  have HA0 : Hid (RO w (.slice p n c) 1 n (bools (rl n f))) := Lib.hid (hA.short (by omega))
  rw [hn] at HSh
  have HN1 := Lib.hid (show n ≤ 1000000000000000000 by omega)
  have HW0 := Lib.hid (And.intro hW hx)
  obtain ⟨L, hL⟩ : ∃ L, l.length = L := ⟨_, rfl⟩
  have hLi : (L : Int) ≤ 1000000000000000000 := by omega
  have hLc : (L : Int) ≤ cw := by omega
  have HLL := Lib.hid hL
  rw [hL]
  clear hA hc hn0 hn hW hx hl hcw hL
  go_enter Try.func4, Try.ntmps4
  go_wp2_with fail
  refine HAw.out.mono ?_; rintro e w1 ⟨rfl, hb1⟩
  have HB1 := Lib.hid hb1
  clear hb1 HAw
  go_upto_if 20 with fail
  go_cut [1] from 16 (fun v1 wx => wx = w1 ∧ ∃ l' : List Nat, v1 = .slice pw l'.length cw ∧ RO w (.slice pw l'.length cw) 1 l'.length (natsV l') ∧ ∀ x ∈ l', x < 2 ^ 64)
  case first =>
    by_cases h5 : L ≤ 5
    · have h5i : (L : Int) ≤ 5 := by omega
      go_wp2_with fail
      go_meet
      exact ⟨rfl, l, by rw [HLL.out], HW0.out.1, HW0.out.2⟩
    · have h5i : (5 : Int) < L := by omega
      have h5c : (5 : Int) ≤ cw := by omega
      go_wp2_with fail
      go_meet
      have hlen : (l.take 5).length = 5 := by rw [List.length_take, HLL.out]; omega
      exact ⟨rfl, l.take 5, by rw [hlen], by rw [hlen]; exact HW0.out.1.nats_take (by rw [HLL.out]; omega), fun x hx => HW0.out.2 x (List.mem_of_mem_take hx)⟩
  case rest =>
    obtain ⟨rfl, l', rfl, hW', hx'⟩ := hcut
    obtain ⟨N, X, g, err, hX, hN, hC1, hC2⟩ := new_both hW' hx' s
    obtain ⟨N2, X2, g2, err2, hX2, hN2, hE2, hD1, hD2⟩ := of_both HA0.out HN1.out
    have HC := Lib.hid (And.intro hC1 hC2)
    have HD := Lib.hid (And.intro hD1 hD2)
    have HX := Lib.hid (And.intro hX hX2)
    have HE2 := Lib.hid hE2
    have HNN := Lib.hid (And.intro hN hN2)
    have hNi : (N2 : Int) ≤ 128 := by omega
    clear hW' hx' hX hC1 hC2 hX2 hE2 hD1 hD2 hN hN2 hLi hLc HLL HW0
    go_wp2_with fail
    refine (HSh.out _ HB1.out).mono ?_; rintro e w1' ⟨rfl, rfl⟩
    go_wp2_with fail
    refine (HC.out.1 _ HB1.out).mono ?_; rintro e w2 ⟨vx, rfl, hvx, hb2, _⟩
    obtain ⟨px, cx, rfl, _⟩ := hvx.ex
    have HBn := Lib.hid (Below.new w2 (.cells #[.int .i64 N, .slice px (wcount N) cx] 26))
    have HT2 := Lib.hid ((((Tr.nil w).below HB1.out).below hb2).lay 26 [.int .i64 N, .slice px (wcount N) cx])
    have HV2 := Lib.hid (hvx.below HBn.out)
    clear hvx hb2 HSh
    go_wp2_with fail
    generalize w2.alloc (.cells #[Value.int .i64 N, .slice px (wcount N) cx] 26) = W2 at *
    refine (HC.out.2 _ HT2.out.bel).mono ?_; rintro e w3 ⟨vl, rfl, hr3, hb3⟩
    obtain ⟨p3, c3, rfl⟩ := hr3.form
    have HT3 := Lib.hid (HT2.out.below hb3)
    have HV3 := Lib.hid (And.intro (HV2.out.below hb3) hr3)
    have b0 := (HT3.out.pr 0 rfl).1
    have b1 := (HT3.out.pr 0 rfl).2
    clear hr3 hb3
    go_wp2_with fail
    refine (is_law HV3.out.1 HV3.out.2 HX.out.1).mono ?_; rintro e w4 ⟨rfl, hb4⟩
    have HT4 := Lib.hid (HT3.out.below hb4)
    have HV4 := Lib.hid (And.intro (HV3.out.1.below hb4) (HV3.out.2.below hb4))
    clear hb4 b0 b1 HV2 HV3 HT2 HT3
    go_wp2_with fail
    refine (HD.out.1 _ HT4.out.bel).mono ?_; rintro e w5 ⟨vu, rfl, hvu, hb5, _⟩
    obtain ⟨pu, cu, rfl, _⟩ := hvu.ex
    have HBn := Lib.hid (Below.new w5 (.cells #[.int .i64 N2, .slice pu (wcount N2) cu] 26))
    have HT5 := Lib.hid ((HT4.out.below hb5).lay 26 [.int .i64 N2, .slice pu (wcount N2) cu])
    have HV5 := Lib.hid (And.intro ((HV4.out.1.below hb5).below HBn.out) (And.intro ((HV4.out.2.below hb5).below HBn.out) (hvu.below HBn.out)))
    clear hvu hb5 HV4
    go_wp2_with fail
    generalize w5.alloc (.cells #[Value.int .i64 N2, .slice pu (wcount N2) cu] 26) = W5 at *
    refine (HD.out.2 _ HT5.out.bel).mono ?_; rintro e w6 ⟨vl, rfl, hr6, hb6⟩
    obtain ⟨p6, c6, rfl⟩ := hr6.form
    have HT6 := Lib.hid (HT5.out.below hb6)
    have HV6 := Lib.hid (And.intro (HV5.out.1.below hb6) (And.intro (HV5.out.2.1.below hb6) (And.intro (HV5.out.2.2.below hb6) hr6)))
    have b0 := (HT6.out.pr 0 rfl).1
    have b1 := (HT6.out.pr 0 rfl).2
    clear hr6 hb6 HT4 HT5 HV5
    go_wp2_with fail
    refine (is_law HV6.out.2.2.1 HV6.out.2.2.2 HX.out.2).mono ?_; rintro e w7 ⟨rfl, hb7⟩
    have HT7 := Lib.hid (HT6.out.below hb7)
    have HV7 := Lib.hid (And.intro (HV6.out.1.below hb7) (And.intro (HV6.out.2.1.below hb7) (And.intro (HV6.out.2.2.1.below hb7) (HV6.out.2.2.2.below hb7))))
    clear hb7 b0 b1 HT6 HV6
    go_upto_region 15 with fail
    have HT8 := Lib.hid (HT7.out.lay 3 [.int .i64 (-1), .int .i64 0, .int .i64 1, .int .i64 7, .int .i64 1000, .int .i64 4611686018427387904])
    have HV8 := Lib.hid (And.intro (HV7.out.1.below (Below.new w7 (.cells [.int .i64 (-1), .int .i64 0, .int .i64 1, .int .i64 7, .int .i64 1000, .int .i64 4611686018427387904].toArray 3))) (And.intro (HV7.out.2.1.below (Below.new w7 (.cells [.int .i64 (-1), .int .i64 0, .int .i64 1, .int .i64 7, .int .i64 1000, .int .i64 4611686018427387904].toArray 3))) (And.intro (HV7.out.2.2.1.below (Below.new w7 (.cells [.int .i64 (-1), .int .i64 0, .int .i64 1, .int .i64 7, .int .i64 1000, .int .i64 4611686018427387904].toArray 3))) (HV7.out.2.2.2.below (Below.new w7 (.cells [.int .i64 (-1), .int .i64 0, .int .i64 1, .int .i64 7, .int .i64 1000, .int .i64 4611686018427387904].toArray 3))))))
    generalize w7.alloc (.cells #[Value.int .i64 (-1), Value.int .i64 0, Value.int .i64 1, Value.int .i64 7, Value.int .i64 1000, Value.int .i64 4611686018427387904] 3) = W8 at *
    have hcell : ∀ k : Nat, k < 6 → ∃ m : Int, ([.int .i64 (-1), .int .i64 0, .int .i64 1, .int .i64 7, .int .i64 1000, .int .i64 4611686018427387904] : List Value)[k]? = some (.int .i64 m) ∧ -9223372036854775808 ≤ m ∧ m ≤ 9223372036854775807 := by
      intro k hk
      match k, hk with
      | 0, _ => exact ⟨(-1), rfl, by decide, by decide⟩
      | 1, _ => exact ⟨0, rfl, by decide, by decide⟩
      | 2, _ => exact ⟨1, rfl, by decide, by decide⟩
      | 3, _ => exact ⟨7, rfl, by decide, by decide⟩
      | 4, _ => exact ⟨1000, rfl, by decide, by decide⟩
      | 5, _ => exact ⟨4611686018427387904, rfl, by decide, by decide⟩
    have HCell := Lib.hid hcell
    clear hcell HT7 HV7
    go_loopw [67] (fun iv wr => ∃ k : Nat, k ≤ 6 ∧ iv = .int .i64 k ∧ Tr w [(w7.heap.size, 3, [.int .i64 (-1), .int .i64 0, .int .i64 1, .int .i64 7, .int .i64 1000, .int .i64 4611686018427387904]), (w5.heap.size, 26, [.int .i64 N2, .slice pu (wcount N2) cu]), (w2.heap.size, 26, [.int .i64 N, .slice px (wcount N) cx])] wr ∧ VR wr (.agg #[.int .i64 N, .slice px (wcount N) cx]) N X ∧ RO wr (.slice p3 N c3) 1 N (bools (rl N g)) ∧ VR wr (.agg #[.int .i64 N2, .slice pu (wcount N2) cu]) N2 X2 ∧ RO wr (.slice p6 N2 c6) 1 N2 (bools (rl N2 g2))) (fun iv _ => 6 - (intOf iv).toNat)
    case atStart => exact ⟨0, by omega, rfl, HT8.out, HV8.out⟩
    case round =>
      obtain ⟨k, hk, rfl, hT, hV⟩ := hrel
      have HT9 := Lib.hid hT
      have HV9 := Lib.hid hV
      clear hT hV HT8 HV8
      by_cases hlt : k < 6
      · have hki : (k : Int) < 6 := by omega
        have hk0 : (0 : Int) ≤ k := by omega
        obtain ⟨m, hm, hm1, hm2⟩ := HCell.out k hlt
        have cm := (HT9.out.at 0 rfl).cell hm
        have HM := Lib.hid (And.intro hm1 hm2)
        obtain ⟨r1, hr1⟩ : ∃ r, min (X : Int) (max m 0) = r := ⟨_, rfl⟩
        obtain ⟨r2, hr2⟩ : ∃ r, min (X2 : Int) (max m 0) = r := ⟨_, rfl⟩
        have HR := Lib.hid (And.intro hr1 hr2)
        have c0 := (HT9.out.pr 2 rfl).1
        have c1 := (HT9.out.pr 2 rfl).2
        clear hm hm1 hm2 hr1 hr2
        go_wp2_with fail
        have hc := num_any HV9.out.1 m HM.out
        rw [HR.out.1] at hc
        refine hc.mono ?_; rintro e w10 ⟨rfl, hb⟩
        have HT10 := Lib.hid (HT9.out.below hb)
        have HV10 := Lib.hid (And.intro (HV9.out.1.below hb) (And.intro (HV9.out.2.1.below hb) (And.intro (HV9.out.2.2.1.below hb) (HV9.out.2.2.2.below hb))))
        clear hb hc HT9 HV9
        clear c0 c1
        go_wp2_with fail
        have hc := rnum_any HV10.out.2.1 (by have := HNN.out; omega) m HM.out
        rw [← HX.out.1, HR.out.1] at hc
        refine hc.mono ?_; rintro e w10' ⟨rfl, rfl⟩
        have c0 := (HT10.out.pr 1 rfl).1
        have c1 := (HT10.out.pr 1 rfl).2
        clear hc
        go_wp2_with fail
        have hc := num_any HV10.out.2.2.1 m HM.out
        rw [HR.out.2] at hc
        refine hc.mono ?_; rintro e w11 ⟨rfl, hb⟩
        have HT11 := Lib.hid (HT10.out.below hb)
        have HV11 := Lib.hid (And.intro (HV10.out.1.below hb) (And.intro (HV10.out.2.1.below hb) (And.intro (HV10.out.2.2.1.below hb) (HV10.out.2.2.2.below hb))))
        clear hb hc HT10 HV10
        clear c0 c1 cm
        go_wp2_with fail
        have hc := rnum_any HV11.out.2.2.2 (by have := HNN.out; omega) m HM.out
        rw [← HX.out.2, HR.out.2] at hc
        refine hc.mono ?_; rintro e w11' ⟨rfl, rfl⟩
        clear hc
        go_wp2_with fail
        go_roundw
        case rel => exact ⟨k + 1, by omega, by go_num, HT11.out, HV11.out⟩
        case measure => simp [intOf]; omega
      · obtain rfl : k = 6 := by omega
        clear hlt hk
        go_upto_region 20 with fail
        have q0 := (HT9.out.pr 1 rfl).1
        have q1 := (HT9.out.pr 1 rfl).2
        have HNW : Hid (∀ (W : World) (p : Option Addr) (c : Nat), RO W (.slice p (wcount N2) c) 1 (wcount N2) (wordsV (wcount N2) X2) → Calls Try.prog 14 #[.int .i64 N2, .slice p (wcount N2) c] W (RetE W N2 X2 err2)) := Lib.hid fun W p c hr => by
          have hXl : X2 < 2 ^ N2 := HV9.out.2.2.1.lt
          rcases HE2.out with ⟨rfl, rfl⟩ | ⟨h1, rfl⟩
          · obtain rfl : X2 = 0 := by simpa using hXl
            exact new_bad _ _ hr (by omega)
          · have hw : X2 < 2 ^ (64 * wcount N2) := Nat.lt_of_lt_of_le hXl (Nat.pow_le_pow_right (by decide) (n_le_words N2))
            have hl : ((List.range (wcount N2)).map (word X2)).length = wcount N2 := by simp
            have h := new_good (w := W) N2 h1 HNN.out.2 (.slice p (wcount N2) c) (l := (List.range (wcount N2)).map (word X2)) (by rw [hl, natsV_wordsV]; exact hr) (fun x hx => by obtain ⟨i, _, rfl⟩ := List.mem_map.1 hx; exact word_lt _ _)
            rwa [valW_words _ _ hw, Nat.mod_eq_of_lt hXl] at h
        have HTN := Lib.hid (Tr.nil wr)
        refine wp_region_webC (w0 := wr) [.known (.agg #[.int .i64 N2, .slice pu (wcount N2) cu]), .rel (fun v W => v = .int .i64 N2) (fun _ => []), .known (.agg #[.int .i64 N2, .slice pu (wcount N2) cu]), .rel (fun v W => ∃ p c, v = .slice p (wcount N2) c ∧ RO W (.slice p (wcount N2) c) 1 (wcount N2) (wordsV (wcount N2) X2)) (fun _ => []), .rel (fun v W => ∃ p c, v = .tuple #[.agg #[.int .i64 N2, .slice p (wcount N2) c], .int .i64 err2] ∧ VR W (.agg #[.int .i64 N2, .slice p (wcount N2) c]) N2 X2) (fun _ => []), .rel (fun v W => ∃ p c, v = .tuple #[.agg #[.int .i64 N2, .slice p (wcount N2) c], .int .i64 err2] ∧ VR W (.agg #[.int .i64 N2, .slice p (wcount N2) c]) N2 X2) (fun _ => []), .rel (fun v W => ∃ p c, v = .agg #[.int .i64 N2, .slice p (wcount N2) c] ∧ VR W (.agg #[.int .i64 N2, .slice p (wcount N2) c]) N2 X2) (fun _ => []), .rel (fun v W => v = .int .i64 err2) (fun _ => []), .box 26 [Value.int .i64 0, .slice none 0 0]] [1, 1, 1, 1, 1, 1, 1, 2, 1] [] 96 2 #[true, true, true, true, true, true, true, true, true, false, false] (by kernel_rfl) (by kernel_rfl) rfl rfl rfl (Nat.le_of_ble_eq_true rfl) ⟨Sp.Mono.known, (fun _ _ _ _ h => h), Sp.Mono.known, (fun _ _ _ hb ⟨p, c, e, h⟩ => ⟨p, c, e, h.below hb⟩), (fun _ _ _ hb ⟨p, c, e, h⟩ => ⟨p, c, e, h.below hb⟩), (fun _ _ _ hb ⟨p, c, e, h⟩ => ⟨p, c, e, h.below hb⟩), (fun _ _ _ hb ⟨p, c, e, h⟩ => ⟨p, c, e, h.below hb⟩), (fun _ _ _ _ h => h), Sp.Mono.box, trivial⟩ HTN.out.drew (fun _ _ _ _ _ h => h) (A := ?_) ?_ ?_ ?_
        rotate_left
        · intro u
          simp only [fillC, Sp.val, Sp.box, Nat.reduceBEq, cond_false, Act.put, List.setIfInBounds_toArray, List.set_cons_zero, List.set_cons_succ]
          rfl
        refine ob_yes (web_op (o := _) rfl (fun u W hT hd Q K hK => ?_)) ?_
        · (try simp only [Act.put, List.setIfInBounds_toArray, List.set_cons_zero, List.set_cons_succ] at hK)
          have ca0 : W.cell? _ = some _ := After.cell q0 ⟨W, hT.bel⟩
          have ca1 : W.cell? _ = some _ := After.cell q1 ⟨W, hT.bel⟩
          go_simp
          exact hK.out _ _ (Below.refl _ _) rfl (fun p hp => by cases hp) List.nodup_nil
        refine ob_yes (web_op (o := _) rfl (fun u W hT hd Q K hK => ?_)) ?_
        · (try simp only [Act.put, List.setIfInBounds_toArray, List.set_cons_zero, List.set_cons_succ] at hK)
          have ca0 : W.cell? _ = some _ := After.cell q0 ⟨W, hT.bel⟩
          have ca1 : W.cell? _ = some _ := After.cell q1 ⟨W, hT.bel⟩
          go_simp
          refine (width_any (HV9.out.2.2.1.below hT.bel)).mono ?_; rintro e W2 ⟨rfl, hb2⟩
          (try go_simp)
          exact hK.out _ _ hb2 rfl (fun p hp => by cases hp) List.nodup_nil
        refine ob_yes (web_op (o := _) rfl (fun u W hT hd Q K hK => ?_)) ?_
        · (try simp only [Act.put, List.setIfInBounds_toArray, List.set_cons_zero, List.set_cons_succ] at hK)
          have ca0 : W.cell? _ = some _ := After.cell q0 ⟨W, hT.bel⟩
          have ca1 : W.cell? _ = some _ := After.cell q1 ⟨W, hT.bel⟩
          go_simp
          exact hK.out _ _ (Below.refl _ _) rfl (fun p hp => by cases hp) List.nodup_nil
        refine ob_yes (web_op (o := _) rfl (fun u W hT hd Q K hK => ?_)) ?_
        · have d1 := hd 1 (by kernel_rfl)
          generalize u 1 = x1 at *
          obtain rfl := d1
          (try simp only [Act.put, List.setIfInBounds_toArray, List.set_cons_zero, List.set_cons_succ] at hK)
          have ca0 : W.cell? _ = some _ := After.cell q0 ⟨W, hT.bel⟩
          have ca1 : W.cell? _ = some _ := After.cell q1 ⟨W, hT.bel⟩
          go_simp
          refine (words_any (HV9.out.2.2.1.below hT.bel)).mono ?_; rintro e W2 ⟨v2, rfl, hv2, hb2⟩
          have hr2 := RO.own hv2
          obtain ⟨p2, c2, rfl⟩ := hr2.form
          (try go_simp)
          exact hK.out _ _ hb2 ⟨_, _, rfl, hr2⟩ (fun p hp => by cases hp) List.nodup_nil
        refine ob_yes (web_op (o := _) rfl (fun u W hT hd Q K hK => ?_)) ?_
        · have d1 := hd 1 (by kernel_rfl)
          generalize u 1 = x1 at *
          obtain rfl := d1
          have d3 := hd 3 (by kernel_rfl)
          generalize u 3 = x3 at *
          obtain ⟨p3, c3, rfl, r3⟩ := d3
          (try simp only [Act.put, List.setIfInBounds_toArray, List.set_cons_zero, List.set_cons_succ] at hK)
          have ca0 : W.cell? _ = some _ := After.cell q0 ⟨W, hT.bel⟩
          have ca1 : W.cell? _ = some _ := After.cell q1 ⟨W, hT.bel⟩
          go_simp
          refine (HNW.out _ _ _ r3).mono ?_; rintro e W2 ⟨v2, rfl, hv2, hb2, _⟩
          obtain ⟨p2, c2, rfl, _⟩ := hv2.ex
          (try go_simp)
          exact hK.out _ _ hb2 ⟨_, _, rfl, hv2⟩ (fun p hp => by cases hp) List.nodup_nil
        refine ob_yes (web_op (o := _) rfl (fun u W hT hd Q K hK => ?_)) ?_
        · have d4 := hd 4 (by kernel_rfl)
          generalize u 4 = x4 at *
          obtain ⟨p4, c4, rfl, v4⟩ := d4
          (try simp only [Act.put, List.setIfInBounds_toArray, List.set_cons_zero, List.set_cons_succ] at hK)
          have ca0 : W.cell? _ = some _ := After.cell q0 ⟨W, hT.bel⟩
          have ca1 : W.cell? _ = some _ := After.cell q1 ⟨W, hT.bel⟩
          go_simp
          exact hK.out _ _ (Below.refl _ _) ⟨_, _, rfl, v4⟩ (fun p hp => by cases hp) List.nodup_nil
        refine ob_yes (web_op (o := _) rfl (fun u W hT hd Q K hK => ?_)) ?_
        · have d5 := hd 5 (by kernel_rfl)
          generalize u 5 = x5 at *
          obtain ⟨p5, c5, rfl, v5⟩ := d5
          (try simp only [Act.put, List.setIfInBounds_toArray, List.set_cons_zero, List.set_cons_succ] at hK)
          have ca0 : W.cell? _ = some _ := After.cell q0 ⟨W, hT.bel⟩
          have ca1 : W.cell? _ = some _ := After.cell q1 ⟨W, hT.bel⟩
          go_simp
          exact hK.out _ _ (Below.refl _ _) ⟨_, _, rfl, v5⟩ (fun p hp => by cases hp) List.nodup_nil
        refine ob_pure (web_pure (o := _) rfl (fun u W hT hd => ?_)) ?_
        · have d5 := hd 5 (by kernel_rfl)
          generalize u 5 = x5 at *
          obtain ⟨p5, c5, rfl, v5⟩ := d5
          have ca0 : W.cell? _ = some _ := After.cell q0 ⟨W, hT.bel⟩
          have ca1 : W.cell? _ = some _ := After.cell q1 ⟨W, hT.bel⟩
          exact ⟨_, Or.inl ⟨rfl, fun w => rfl⟩, rfl, rfl⟩
        refine ob_yes (web_op (o := _) rfl (fun u W hT hd Q K hK => ?_)) ?_
        · (try simp only [Act.put, List.setIfInBounds_toArray, List.set_cons_zero, List.set_cons_succ] at hK)
          have ca0 : W.cell? _ = some _ := After.cell q0 ⟨W, hT.bel⟩
          have ca1 : W.cell? _ = some _ := After.cell q1 ⟨W, hT.bel⟩
          go_simp
          exact hK.out _ _ (Below.new _ _) ⟨_, rfl⟩ (fun p hp => by cases hp with | head => exact ⟨Blk.new 26 [Value.int .i64 0, .slice none 0 0], Nat.le_refl _⟩ | tail _ hp => cases hp) (by simp [ownAt, spAt, Sp.own, Sp.box])
        exact ob_nil
        intro u wx hT hok
        obtain ⟨h0, h1, h2, h3, h4, h5, h6, h7, h8, _⟩ := hok
        clear h0 h1 h2 h3 h4 h5
        simp only [ownsC, Sp.own, Sp.box, Nat.reduceBEq, cond_false, List.nil_append, List.append_nil, Nat.zero_add, Nat.reduceAdd] at hT
        have d6 := h6 (by kernel_rfl)
        clear h6
        generalize u 6 = x6 at *
        obtain ⟨p9, c9, rfl, v9⟩ := d6
        have d7 := h7 (by kernel_rfl)
        clear h7
        generalize u 7 = x7 at *
        obtain rfl := d7
        have d8 := h8 (by kernel_rfl)
        clear h8
        generalize u 8 = x8 at *
        obtain ⟨L8, rfl⟩ := d8
        (try dsimp only [List.nil_append, List.cons_append] at hT)
        have HTE := Lib.hid hT
        clear hT
        have HV10 := Lib.hid (And.intro v9 (HV9.out.2.2.1.below HTE.out.bel))
        have HTJ := Lib.hid (HT9.out.join HTE.out)
        have NE := Lib.hid (And.intro (HTJ.out.ne 0 2 rfl rfl (by decide)) (HTJ.out.ne 0 3 rfl rfl (by decide)))
        clear v9 HTN
        clear q0 q1
        refine wpAny_of_held (S := fun _ => True) _ _ _ _ ?_
        have r0 := (HTJ.out.pr 0 rfl).1
        have r1 := (HTJ.out.pr 0 rfl).2
        have f0 := (HTJ.out.at 0 rfl).frz 0
        have f1 := (HTJ.out.at 0 rfl).frz 1
        refine wpAnyH_ready (rs := [9]) (by kernel_rfl) (by simp) ?_
        refine held_cons rfl (fun K hK => ?_) AllReadyH.nil
        go_simp
        refine hK.out _ _ trivial (fun _ => ?_)
        clear hK K
        (try simp only [List.setIfInBounds_toArray, List.set_cons_zero, List.set_cons_succ])
        have Hs1 := Lib.hid (HTJ.out.two 0 (x := .int .i64 N2) (y := .slice p9 (wcount N2) c9) rfl)
        clear r0 r1 f0 f1
        refine held_take (i := 10) (v := ?_) rfl (by kernel_rfl) (by kernel_rfl) (by kernel_rfl) (fun _ _ _ h => h) (Or.inl ⟨by rfl, ?_⟩) trivial ?_
        rotate_left
        · intro w hSw; go_simp; (try with_reducible rfl)
        (try simp only [Act.put, List.setIfInBounds_toArray, List.set_cons_zero, List.set_cons_succ])
        refine wpAnyH_done (by kernel_rfl) ?_ _
        have c0 := (Hs1.out.pr 2 rfl).1
        have c1 := (Hs1.out.pr 2 rfl).2
        have d0 := (Hs1.out.pr 0 rfl).1
        have d1 := (Hs1.out.pr 0 rfl).2
        have hU := HV10.out.2.keep2 (HTJ.out.at 0 rfl) (x1 := .int .i64 N2) (y1 := .slice p9 (wcount N2) c9)
        have hAg := HV10.out.1.keep2 (HTJ.out.at 0 rfl) (x1 := .int .i64 N2) (y1 := .slice p9 (wcount N2) c9)
        generalize (wx.setCell ⟨L8, 0, none⟩ (.int .i64 N2)).setCell ⟨L8, 1, none⟩ (.slice p9 (wcount N2) c9) = W10 at *
        have HU := Lib.hid (And.intro hU hAg)
        clear hU hAg HV10 HTJ HTE NE
        go_wp2_with fail
        refine (width_any HU.out.1).mono ?_; rintro e w11 ⟨rfl, hb11⟩
        have HT11 := Lib.hid (Hs1.out.below hb11)
        have HU11 := Lib.hid (And.intro (HU.out.1.below hb11) (HU.out.2.below hb11))
        have c0 := (HT11.out.pr 2 rfl).1
        have c1 := (HT11.out.pr 2 rfl).2
        have d0 := (HT11.out.pr 0 rfl).1
        have d1 := (HT11.out.pr 0 rfl).2
        clear hb11
        have HE2b := HE2.out
        rcases HE2b with ⟨hN0, he2⟩ | ⟨hN1, he2⟩
        · subst he2
          have hz : ((N2 : Int) == 0) = true := by simp [hN0]
          go_wp2_with fail
          go_ret
          exact ⟨rfl, HT11.out.bel⟩
        · subst he2
          have hz : ((N2 : Int) == 0) = false := by simp; omega
          have hE := equal_any HU11.out.2 HU11.out.1
          rw [show decide (N2 = N2 ∧ X2 = X2) = true by simp] at hE
          have HE := Lib.hid hE
          clear hE
          go_wp2_with fail
          refine HE.out.mono ?_; rintro e w12 ⟨rfl, hb12⟩
          have HT12 := Lib.hid (HT11.out.below hb12)
          clear hb12
          go_wp2_with fail
          go_ret
          exact ⟨rfl, HT12.out.bel⟩
end Go.Proofs.Ytmimafbedbohiaa
