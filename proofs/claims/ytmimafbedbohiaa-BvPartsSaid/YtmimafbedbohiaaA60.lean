import Derived.Test.YtmimafbedbohiaaB11
import Derived.Test.YtmimafbedbohiaaR1
import Derived.Deep.CutRange
namespace Go.Proofs.Ytmimafbedbohiaa
set_option linter.unusedVariables false
open Go.RowKit

set_option maxRecDepth 100000 in
set_option maxHeartbeats 16000000 in
theorem is_law {w : World} {v vl : Value} {n x : Nat} {f : Nat → Bool} (hV : VR w v n x) (hL : RO w vl 1 n (bools (rl n f))) (hx : x = ofB f n) :
    Calls Try.prog 20 #[v, vl] w fun e w' => e = .returned (.bool true) ∧ Below w.heap.size w w' := by
  have HV := Lib.hid hV
  have HL := Lib.hid hL
  have hn := hV.le
  have hni : (n : Int) ≤ 128 := by omega
  have hbx : ∀ k, k < n → x.testBit k = f k := fun k hk => by rw [hx, testBit_ofB]; simp [hk]
  have HBX := Lib.hid hbx
  obtain ⟨pv, cv, rfl, _⟩ := hV.ex
  obtain ⟨pl, cl, rfl⟩ := hL.form
  have HBit : Hid (∀ w' (k : Int), Below w.heap.size w w' → Calls Try.prog 17 #[.agg #[.int .i64 n, .slice pv (wcount n) cv], .int .i64 k] w' fun e w'' => e = .returned (.bool (bitI x k)) ∧ Below w'.heap.size w' w'') := Lib.hid fun w' k hb => bit_any (hV.below hb) k
  have HWd : Hid (∀ w', Below w.heap.size w w' → Calls Try.prog 24 #[.agg #[.int .i64 n, .slice pv (wcount n) cv]] w' fun e w'' => e = .returned (.int .i64 n) ∧ Below w'.heap.size w' w'') := Lib.hid fun w' hb => width_any (hV.below hb)
  obtain ⟨S, hS⟩ : ∃ S, textS n x = S := ⟨_, rfl⟩
  have hSF : textF n f = S := by
    rw [← hS, ← textF_eq]
    unfold textF
    congr 2
    apply List.map_congr_left
    intro j hj
    rw [hbx _ (by have := List.mem_range.1 hj; omega)]
  have HTx : Hid (∀ w', Below w.heap.size w w' → Calls Try.prog 43 #[.agg #[.int .i64 n, .slice pv (wcount n) cv]] w' fun e w'' => e = .returned (.string S) ∧ Below w'.heap.size w' w'') := Lib.hid fun w' hb => by rw [← hS]; exact text_any (hV.below hb)
  have HTf : Hid (∀ w', Below w.heap.size w w' → Calls Try.prog 58 #[.slice pl n cl] w' fun e w'' => e = .returned (.string S) ∧ w' = w'') := Lib.hid fun w' hb => by rw [← hSF]; exact rtext_any (hL.below hb) hn
  have HBs : Hid (∀ w', Below w.heap.size w w' → Calls Try.prog 59 #[.agg #[.int .i64 n, .slice pv (wcount n) cv]] w' fun e w'' => ∃ v, e = .returned v ∧ RO w'' v 1 n (bools (rl n f)) ∧ Below w'.heap.size w' w'') := Lib.hid fun w' hb => by
    have := bits_any (hV.below hb)
    rwa [show bitsOf n x = rl n f from List.map_congr_left fun i hi => hbx i (List.mem_range.1 hi)] at this
  have HWs : Hid (∀ w', Below w.heap.size w w' → Calls Try.prog 25 #[.agg #[.int .i64 n, .slice pv (wcount n) cv]] w' fun e w'' => ∃ v, e = .returned v ∧ RO w'' v 1 (wcount n) (wordsV (wcount n) x) ∧ Below w'.heap.size w' w'') := Lib.hid fun w' hb =>
    (words_any (hV.below hb)).mono fun e w'' ⟨v, he, ho, hb'⟩ => ⟨v, he, RO.own ho, hb'⟩
  have HRw : Hid (∀ w', Below w.heap.size w w' → Calls Try.prog 60 #[.slice pl n cl] w' fun e w'' => ∃ v, e = .returned v ∧ RO w'' v 1 (wcount n) (wordsV (wcount n) x) ∧ Below w'.heap.size w' w'') := Lib.hid fun w' hb => by
    have := rwords_any (hL.below hb) (by omega)
    rwa [← hx] at this
  have hmi : (wcount n : Int) ≤ 3 := by unfold wcount; omega
  clear hV hL hn hbx hx hS hSF
  go_enter Try.func20, Try.ntmps20
  go_wp2_with fail
  have HT := Lib.hid ((Tr.nil w).lay 26 [.int .i64 n, .slice pv (wcount n) cv])
  generalize w.alloc (.cells [Value.int .i64 n, .slice pv (wcount n) cv].toArray 26) = W at *
  refine (HWd.out _ HT.out.bel).mono ?_; rintro e w1 ⟨rfl, hb1⟩
  have HT1 := Lib.hid (HT.out.below hb1)
  have c0 := (HT1.out.pr 0 rfl).1
  have c1 := (HT1.out.pr 0 rfl).2
  clear hb1
  go_wp2_with fail
  refine (HTx.out _ HT1.out.bel).mono ?_; rintro e w2 ⟨rfl, hb2⟩
  have HT2 := Lib.hid (HT1.out.below hb2)
  clear hb2
  go_wp2_with fail
  refine (HTf.out _ HT2.out.bel).mono ?_; rintro e w2' ⟨rfl, rfl⟩
  have c0 := (HT2.out.pr 0 rfl).1
  have c1 := (HT2.out.pr 0 rfl).2
  go_wp2_with fail
  refine (HBs.out _ HT2.out.bel).mono ?_; rintro e w3 ⟨v3, rfl, h3, hb3⟩
  obtain ⟨p3, k3, rfl⟩ := h3.form
  have HT3 := Lib.hid (HT2.out.below hb3)
  have c0 := (HT3.out.pr 0 rfl).1
  have c1 := (HT3.out.pr 0 rfl).2
  clear h3 hb3
  go_wp2_with fail
  refine (HWs.out _ HT3.out.bel).mono ?_; rintro e w4 ⟨v4, rfl, h4, hb4⟩
  obtain ⟨p4, k4, rfl⟩ := h4.form
  have HT4 := Lib.hid (HT3.out.below hb4)
  clear h4 hb4
  go_wp2_with fail
  refine (HRw.out _ HT4.out.bel).mono ?_; rintro e w5 ⟨v5, rfl, h5, hb5⟩
  obtain ⟨p5, k5, rfl⟩ := h5.form
  have HT5 := Lib.hid (HT4.out.below hb5)
  have c0 := (HT5.out.pr 0 rfl).1
  have c1 := (HT5.out.pr 0 rfl).2
  clear h5 hb5
  go_wp2_with fail
  refine (HBs.out _ HT5.out.bel).mono ?_; rintro e w6 ⟨v6, rfl, h6, hb6⟩
  obtain ⟨p6, k6, rfl⟩ := h6.form
  have HT6 := Lib.hid (HT5.out.below hb6)
  have HR6 := Lib.hid h6
  clear h6 hb6 HT5 HT4 HT3 HT2 HT1 HT c0 c1
  go_wp2_with fail
  go_loopw [41] (fun iv wr => ∃ k : Nat, k ≤ n ∧ iv = .int .i64 k ∧ Tr w [(w.heap.size, 26, [.int .i64 n, .slice pv (wcount n) cv])] wr ∧ RO wr (.slice p6 n k6) 1 n (bools (rl n f))) (fun iv _ => n - (intOf iv).toNat)
  case atStart => exact ⟨0, Nat.zero_le _, rfl, HT6.out, HR6.out⟩
  case round =>
    obtain ⟨k, hk, rfl, hT, hR⟩ := hrel
    have HT7 := Lib.hid hT
    have HR7 := Lib.hid hR
    clear hT hR
    by_cases hlt : k < n
    · have hki : (k : Int) < n := by omega
      have hk0 : (0 : Int) ≤ k := by omega
      have hat : (bools (rl n f))[k]? = some (.bool (f k)) := by rw [bools_at _ _ (by rw [rl_length]; exact hlt), rl_getD _ _ _ hlt]
      obtain ⟨b6, o6, e6⟩ := HR7.out.sl hat
      subst e6
      have g6 := HR7.out.cell hat
      obtain ⟨bl, ol, el⟩ := HL.out.sl hat
      subst el
      have gl := After.cell ((HL.out.below HT7.out.bel).cell hat)
      have hqx : bitI x (k : Int) = f k := by unfold bitI; simp [HBX.out k hlt]
      have K1 : Hid (∀ s : After wr, Calls Try.prog 17 #[.agg #[.int .i64 n, .slice pv (wcount n) cv], .int .i64 k] s.val fun e w'' => e = .returned (.bool (f k)) ∧ Below s.val.heap.size s.val w'') := Lib.hid fun s => by rw [← hqx]; exact HBit.out _ _ (HT7.out.below s.below).bel
      have a0 := After.cell (HT7.out.pr 0 rfl).1
      have a1 := After.cell (HT7.out.pr 0 rfl).2
      generalize f k = q at *
      clear hqx hat
      go_upto_region 6 with fail
      refine wp_region_after (by kernel_rfl) (by kernel_rfl) ?_
      repeat (go_big_quiet_step ((first | (with_reducible exact Calls.after_of (K1.out _)))))
      refine wpQuiet_nil ?_
      rintro _ ⟨s, rfl⟩
      have HT8 := Lib.hid (HT7.out.below s.below)
      have HR8 := Lib.hid (HR7.out.below s.below)
      generalize s.val = W8 at *
      clear a0 a1 K1 gl g6
      go_wp2_with fail
      go_roundw
      case rel => exact ⟨k + 1, by omega, by go_num, HT8.out, HR8.out⟩
      case measure => simp [intOf]; omega
    · obtain rfl : k = n := by omega
      clear hlt hk
      go_wp2_with fail
      refine (HRw.out _ HT7.out.bel).mono ?_; rintro e w8 ⟨v8, rfl, h8, hb8⟩
      obtain ⟨p8, k8, rfl⟩ := h8.form
      have HT8 := Lib.hid (HT7.out.below hb8)
      have HR8 := Lib.hid h8
      clear h8 hb8 HT6 HR6
      go_wp2_with fail
      go_loopw [66] (fun iv wr => ∃ j : Nat, j ≤ wcount k ∧ iv = .int .i64 j ∧ Tr w [(w.heap.size, 26, [.int .i64 k, .slice pv (wcount k) cv])] wr ∧ RO wr (.slice p8 (wcount k) k8) 1 (wcount k) (wordsV (wcount k) x)) (fun iv _ => wcount k - (intOf iv).toNat)
      case atStart => exact ⟨0, Nat.zero_le _, rfl, HT8.out, HR8.out⟩
      case round =>
        obtain ⟨j, hj, rfl, hT, hR⟩ := hrel
        have HT9 := Lib.hid hT
        have HR9 := Lib.hid hR
        clear hT hR
        have c0 := (HT9.out.pr 0 rfl).1
        have c1 := (HT9.out.pr 0 rfl).2
        by_cases hlt : j < wcount k
        · have hji : (j : Int) < wcount k := by omega
          have hj0 : (0 : Int) ≤ j := by omega
          have hat := wordsV_at (m := wcount k) (x := x) hlt
          obtain ⟨b8, o8, e8⟩ := HR9.out.sl hat
          subst e8
          have g8 := HR9.out.cell hat
          have HAT := Lib.hid hat
          generalize word x j = y at *
          clear hat
          go_wp2_with fail
          refine (HWs.out _ HT9.out.bel).mono ?_; rintro e w10 ⟨v10, rfl, h10, hb10⟩
          obtain ⟨p10, k10, rfl⟩ := h10.form
          obtain ⟨b10, o10, e10⟩ := h10.sl HAT.out
          subst e10
          have g10 := h10.cell HAT.out
          have HT10 := Lib.hid (HT9.out.below hb10)
          have HR10 := Lib.hid (HR9.out.below hb10)
          clear h10 hb10 g8 c0 c1
          go_wp2_with fail
          go_roundw
          case rel => exact ⟨j + 1, by omega, by go_num, HT10.out, HR10.out⟩
          case measure => simp [intOf]; omega
        · obtain rfl : j = wcount k := by omega
          clear hlt hj
          go_wp2_with fail
          refine (HBit.out _ (-1) HT9.out.bel).mono ?_; rintro e w10 ⟨rfl, hb10⟩
          have HT10 := Lib.hid (HT9.out.below hb10)
          have c0 := (HT10.out.pr 0 rfl).1
          have c1 := (HT10.out.pr 0 rfl).2
          have HBN := HBit.out w10 k HT10.out.bel
          rw [show bitI x (k : Int) = false by unfold bitI; simp [bit_big HV.out.lt (Nat.le_refl _)]] at HBN
          have HBN := Lib.hid HBN
          have hm1 : bitI x (-1) = false := by unfold bitI; simp
          clear hb10
          go_wp2_with fail
          refine HBN.out.mono ?_; rintro e w11 ⟨rfl, hb11⟩
          have HT11 := Lib.hid (HT10.out.below hb11)
          clear hb11
          go_wp2_with fail
          go_ret
          exact ⟨rfl, HT11.out.bel⟩
end Go.Proofs.Ytmimafbedbohiaa
