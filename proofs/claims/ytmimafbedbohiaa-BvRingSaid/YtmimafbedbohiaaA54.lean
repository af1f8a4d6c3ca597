import Derived.Test.YtmimafbedbohiaaA53
import Derived.Test.YtmimafbedbohiaaA51
import Derived.Test.YtmimafbedbohiaaP8
import Derived.Deep.CutRange
namespace Go.Proofs.Ytmimafbedbohiaa
set_option linter.unusedVariables false
open Go.RowKit

set_option maxRecDepth 100000 in
set_option maxHeartbeats 16000000 in
theorem ring_law {w : World} {p : Option Addr} {n0 c m1 m2 : Nat} {f g h : Nat → Bool} {vb vc : Value} (hA : RO w (.slice p n0 c) 1 n0 (bools (rl n0 f))) (hc : n0 ≤ c) (hn0 : n0 ≤ 1000000000000000000) (hB : RO w vb 1 m1 (bools (rl m1 g))) (hC : RO w vc 1 m2 (bools (rl m2 h))) :
    Calls Try.prog 7 #[.slice p n0 c, vb, vc] w fun e w' => e = .returned (.bool true) ∧ Below w.heap.size w w' := by
  obtain ⟨pb, cb, rfl⟩ := hB.form
  obtain ⟨pc, cc, rfl⟩ := hC.form
  have HAw := Lib.hid (awake_any w)
  have HSh := Lib.hid (fun w' (hb : Below w.heap.size w w') => short_any (hA.below hb) hc hn0)
  have HB0 := Lib.hid hB
  have HC0 := Lib.hid hC
  obtain ⟨n, hn⟩ : ∃ n, min n0 140 = n := ⟨_, rfl⟩
  have HA0 : Hid (RO w (.slice p n c) 1 n (bools (rl n f))) := Lib.hid (hA.short (by omega))
  rw [hn] at HSh
  have hn1 : n ≤ 140 := by omega
  have hni : (n : Int) ≤ 140 := by omega
  clear hA hB hC hc hn0 hn
  go_enter Try.func7, Try.ntmps7
  go_wp2_with fail
  refine HAw.out.mono ?_; rintro e w1 ⟨rfl, hb1⟩
  have HB1 := Lib.hid hb1
  clear hb1
  go_wp2_with fail
  refine (HSh.out _ HB1.out).mono ?_; rintro e w1' ⟨rfl, rfl⟩
  by_cases h0 : n = 0
  · subst h0
    go_wp2_with fail
    go_ret
    exact ⟨rfl, HB1.out⟩
  by_cases h1 : 128 < n
  · have hd : ((n : Int) == 0) = false := by simp; omega
    have hi : (128 : Int) < n := by omega
    clear h0 h1
    go_wp2_with fail
    go_ret
    exact ⟨rfl, HB1.out⟩
  have hd : ((n : Int) == 0) = false := by simp; omega
  have hi : (n : Int) ≤ 128 := by omega
  have HN := Lib.hid (And.intro (show 1 ≤ n by omega) (show n ≤ 128 by omega))
  have HA : Hid (RO w1 (.slice p n c) 1 n (bools (rl n f))) := Lib.hid (HA0.out.below HB1.out)
  clear h0 h1 hn1 hni
  go_wp2_with fail
  refine (own_good HA.out HN.out.1 HN.out.2).mono ?_; rintro e w2 ⟨vx, rfl, hvx, hb2, _⟩
  obtain ⟨px, cx, rfl, _⟩ := hvx.ex
  have HX := Lib.hid (And.intro hvx (HB1.out.trans (hb2.mono HB1.out.size)))
  clear hvx hb2
  go_wp2_with fail
  refine (fit_any (HB0.out.below HX.out.2) (Nat.le_trans HN.out.2 (by decide))).mono ?_; rintro e w3 ⟨vf, rfl, hf, hb3⟩
  obtain ⟨pf, cf, rfl⟩ := hf.form
  have HF := Lib.hid (And.intro hf hb3)
  clear hf hb3
  go_wp2_with fail
  refine (own_good HF.out.1 HN.out.1 HN.out.2).mono ?_; rintro e w4 ⟨vy, rfl, hvy, hb4, _⟩
  obtain ⟨py, cy, rfl, _⟩ := hvy.ex
  have HB4 := Lib.hid ((HX.out.2.trans (HF.out.2.mono HX.out.2.size)))
  have HB5 := Lib.hid (HB4.out.trans (hb4.mono HB4.out.size))
  have HY := Lib.hid (And.intro ((HX.out.1.below HF.out.2).below hb4) hvy)
  clear hvy hb4
  go_wp2_with fail
  refine (fit_any (HC0.out.below HB5.out) (Nat.le_trans HN.out.2 (by decide))).mono ?_; rintro e w5 ⟨vf2, rfl, hf2, hb5⟩
  obtain ⟨pf2, cf2, rfl⟩ := hf2.form
  have HF2 := Lib.hid (And.intro hf2 hb5)
  clear hf2 hb5
  go_wp2_with fail
  refine (own_good HF2.out.1 HN.out.1 HN.out.2).mono ?_; rintro e w6 ⟨vz, rfl, hvz, hb6, _⟩
  obtain ⟨pz, cz, rfl, _⟩ := hvz.ex
  have HB6 := Lib.hid (HB5.out.trans (HF2.out.2.mono HB5.out.size))
  have HB7 := Lib.hid (HB6.out.trans (hb6.mono HB6.out.size))
  have HT6 := Lib.hid (((((Tr.nil w).below HB7.out).lay 26 [.int .i64 n, .slice px (wcount n) cx]).lay 26 [.int .i64 n, .slice py (wcount n) cy]).lay 26 [.int .i64 n, .slice pz (wcount n) cz])
  have hbl : Below w6.heap.size w6 (((w6.alloc (.cells [Value.int .i64 n, .slice px (wcount n) cx].toArray 26)).alloc (.cells [Value.int .i64 n, .slice py (wcount n) cy].toArray 26)).alloc (.cells [Value.int .i64 n, .slice pz (wcount n) cz].toArray 26)) := ((Below.new _ _).alloc (by simp) _).alloc (by simp; omega) _
  have HV6 := Lib.hid (And.intro (((HY.out.1.below HF2.out.2).below hb6).below hbl) (And.intro (((HY.out.2.below HF2.out.2).below hb6).below hbl) (hvz.below hbl)))
  simp only [World.size_alloc] at HT6
  clear hvz hb6 hbl
  have HVX := Lib.hid HV6.out.1
  have HVY := Lib.hid HV6.out.2.1
  have HVZ := Lib.hid HV6.out.2.2
  clear HAw HSh HB0 HC0 HA0 HB1 HA HX HF HB4 HB5 HY HF2 HB6 HB7 HV6
  go_upto_region 8 with fail
  generalize ((w6.alloc (.cells #[Value.int .i64 n, .slice px (wcount n) cx] 26)).alloc (.cells #[Value.int .i64 n, .slice py (wcount n) cy] 26)).alloc (.cells #[Value.int .i64 n, .slice pz (wcount n) cz] 26) = W6 at *
  go_cut [11, 12] from 15 (fun v11 v12 wx => ∃ L11 L12 ps cs pp cp, v11 = .pointer (some ⟨L11, 0, none⟩) ∧ v12 = .pointer (some ⟨L12, 0, none⟩) ∧ Tr w [(L12, 26, [.int .i64 n, .slice pp (wcount n) cp]), (L11, 26, [.int .i64 n, .slice ps (wcount n) cs]), (w6.heap.size + 1 + 1, 26, [.int .i64 n, .slice pz (wcount n) cz]), (w6.heap.size + 1, 26, [.int .i64 n, .slice py (wcount n) cy]), (w6.heap.size, 26, [.int .i64 n, .slice px (wcount n) cx])] wx ∧ VR wx (.agg #[.int .i64 n, .slice px (wcount n) cx]) n (ofB f n) ∧ VR wx (.agg #[.int .i64 n, .slice py (wcount n) cy]) n (ofB (fitF g m1) n) ∧ VR wx (.agg #[.int .i64 n, .slice pz (wcount n) cz]) n (ofB (fitF h m2) n) ∧ VR wx (.agg #[.int .i64 n, .slice ps (wcount n) cs]) n ((ofB f n + ofB (fitF g m1) n + 0) % 2 ^ n) ∧ VR wx (.agg #[.int .i64 n, .slice pp (wcount n) cp]) n (ofB f n * ofB (fitF g m1) n % 2 ^ n))
  case first =>
    have HT0 := Lib.hid HT6.out.drew
    refine wp_region_held_drew (S := fun w' => (w'.cell? ⟨w6.heap.size, 0, none⟩ = some (.int .i64 n) ∧ w'.cell? ⟨w6.heap.size, 1, none⟩ = some (.slice px (wcount n) cx)) ∧ (w'.cell? ⟨w6.heap.size + 1, 0, none⟩ = some (.int .i64 n) ∧ w'.cell? ⟨w6.heap.size + 1, 1, none⟩ = some (.slice py (wcount n) cy))) (by kernel_rfl) ⟨HT0.out.pr 2 rfl, HT0.out.pr 1 rfl⟩ (fun hHeld => ?_)
    have VRx := Lib.hid (HVX.out.below (Below.refl W6.heap.size W6).drew)
    have VRy := Lib.hid (HVY.out.below (Below.refl W6.heap.size W6).drew)
    have VRz := Lib.hid (HVZ.out.below (Below.refl W6.heap.size W6).drew)
    generalize W6.drew = D at *
    refine held_take (i := 0) (v := ?_) rfl (by kernel_rfl) (by kernel_rfl) (by kernel_rfl) (fun _ _ _ h => h) (Or.inl ⟨by rfl, ?_⟩) (by assumption) ?_
    rotate_left
    · intro w hSw; (try dsimp only at hSw); go_simp; (try with_reducible rfl)
    (try simp only [Act.put, List.setIfInBounds_toArray, List.set_cons_zero, List.set_cons_succ])
    refine held_take (i := 1) (v := ?_) rfl (by kernel_rfl) (by kernel_rfl) (by kernel_rfl) (fun _ _ _ h => h) (Or.inl ⟨by rfl, ?_⟩) (by assumption) ?_
    rotate_left
    · intro w hSw; (try dsimp only at hSw); go_simp; (try with_reducible rfl)
    (try simp only [Act.put, List.setIfInBounds_toArray, List.set_cons_zero, List.set_cons_succ])
    refine held_take (i := 2) (v := ?_) rfl (by kernel_rfl) (by kernel_rfl) (by kernel_rfl) (fun _ _ _ h => h) (Or.inl ⟨by rfl, ?_⟩) (by assumption) ?_
    rotate_left
    · intro w hSw; (try dsimp only at hSw); go_simp; (try with_reducible rfl)
    (try simp only [Act.put, List.setIfInBounds_toArray, List.set_cons_zero, List.set_cons_succ])
    refine held_take (i := 4) (v := ?_) rfl (by kernel_rfl) (by kernel_rfl) (by kernel_rfl) (fun _ _ _ h => h) (Or.inl ⟨by rfl, ?_⟩) (by assumption) ?_
    rotate_left
    · intro w hSw; (try dsimp only at hSw); go_simp; (try with_reducible rfl)
    (try simp only [Act.put, List.setIfInBounds_toArray, List.set_cons_zero, List.set_cons_succ])
    refine held_take (i := 5) (v := ?_) rfl (by kernel_rfl) (by kernel_rfl) (by kernel_rfl) (fun _ _ _ h => h) (Or.inl ⟨by rfl, ?_⟩) (by assumption) ?_
    rotate_left
    · intro w hSw; (try dsimp only at hSw); go_simp; (try with_reducible rfl)
    (try simp only [Act.put, List.setIfInBounds_toArray, List.set_cons_zero, List.set_cons_succ])
    refine held_take (i := 6) (v := ?_) rfl (by kernel_rfl) (by kernel_rfl) (by kernel_rfl) (fun _ _ _ h => h) (Or.inl ⟨by rfl, ?_⟩) (by assumption) ?_
    rotate_left
    · intro w hSw; (try dsimp only at hSw); go_simp; (try with_reducible rfl)
    (try simp only [Act.put, List.setIfInBounds_toArray, List.set_cons_zero, List.set_cons_succ])
    refine wpAnyH_ready (rs := [3, 8, 9]) (by kernel_rfl) (by simp) ?_
    refine held_cons rfl (fun K hK => ?_) ?_
    · go_simp
      refine (op_any (k := 0) VRx.out VRy.out fun w' hb => bin_0 (VRx.out.below hb) (VRy.out.below hb) HN.out.1).mono ?_; rintro e wt1 ⟨v1, rfl, hv1, hb1, hf1⟩
      obtain ⟨p1, c1, rfl, _⟩ := hv1.ex
      have HT1 := Lib.hid (HT0.out.below hb1)
      have VRx_1 := Lib.hid (VRx.out.below hb1)
      have VRy_1 := Lib.hid (VRy.out.below hb1)
      have VRz_1 := Lib.hid (VRz.out.below hb1)
      have VRs_1 := Lib.hid hv1
      clear hv1 hb1 hf1
      (try go_simp)
      refine hK.out _ _ ?_ (fun hHeld2 => ?_)
      · exact ⟨HT1.out.pr 2 rfl, HT1.out.pr 1 rfl⟩
      clear hK K hHeld
      have hHeld := hHeld2
      clear hHeld2
      (try simp only [Act.put, List.setIfInBounds_toArray, List.set_cons_zero, List.set_cons_succ])
      refine wpAnyH_ready (rs := [7, 8, 9]) (by kernel_rfl) (by simp) ?_
      refine held_cons rfl (fun K hK => ?_) ?_
      · go_simp
        refine (op_any (k := 2) VRx_1.out VRy_1.out fun w' hb => bin_2 (VRx_1.out.below hb) (VRy_1.out.below hb) HN.out.1).mono ?_; rintro e wt2 ⟨v2, rfl, hv2, hb2, hf2⟩
        obtain ⟨p2, c2, rfl, _⟩ := hv2.ex
        have HT2 := Lib.hid (HT1.out.below hb2)
        have VRx_2 := Lib.hid (VRx_1.out.below hb2)
        have VRy_2 := Lib.hid (VRy_1.out.below hb2)
        have VRz_2 := Lib.hid (VRz_1.out.below hb2)
        have VRs_2 := Lib.hid (VRs_1.out.below hb2)
        have VRp_2 := Lib.hid hv2
        clear hv2 hb2 hf2
        (try go_simp)
        refine hK.out _ _ ?_ (fun hHeld2 => ?_)
        · exact ⟨HT2.out.pr 2 rfl, HT2.out.pr 1 rfl⟩
        clear hK K hHeld
        have hHeld := hHeld2
        clear hHeld2
        (try simp only [Act.put, List.setIfInBounds_toArray, List.set_cons_zero, List.set_cons_succ])
        refine wpAnyH_ready (rs := [8, 9]) (by kernel_rfl) (by simp) ?_
        refine held_cons rfl (fun K hK => ?_) ?_
        · go_simp
          refine hK.out _ _ ?_ (fun hHeld2 => ?_)
          · exact ⟨(HT2.out.lay 26 [Value.int .i64 0, .slice none 0 0]).pr 3 rfl, (HT2.out.lay 26 [Value.int .i64 0, .slice none 0 0]).pr 2 rfl⟩
          clear hK K hHeld
          have hHeld := hHeld2
          clear hHeld2
          (try simp only [Act.put, List.setIfInBounds_toArray, List.set_cons_zero, List.set_cons_succ])
          have HT3 := Lib.hid (HT2.out.lay 26 [Value.int .i64 0, .slice none 0 0])
          have VRx_3 := Lib.hid (VRx_2.out.below (Below.new wt2 (.cells (List.toArray [Value.int .i64 0, .slice none 0 0]) 26)))
          have NEx_L11 := Lib.hid (VR.new_ne VRx_2.out HN.out.1)
          have VRy_3 := Lib.hid (VRy_2.out.below (Below.new wt2 (.cells (List.toArray [Value.int .i64 0, .slice none 0 0]) 26)))
          have NEy_L11 := Lib.hid (VR.new_ne VRy_2.out HN.out.1)
          have VRz_3 := Lib.hid (VRz_2.out.below (Below.new wt2 (.cells (List.toArray [Value.int .i64 0, .slice none 0 0]) 26)))
          have NEz_L11 := Lib.hid (VR.new_ne VRz_2.out HN.out.1)
          have VRs_3 := Lib.hid (VRs_2.out.below (Below.new wt2 (.cells (List.toArray [Value.int .i64 0, .slice none 0 0]) 26)))
          have NEs_L11 := Lib.hid (VR.new_ne VRs_2.out HN.out.1)
          have VRp_3 := Lib.hid (VRp_2.out.below (Below.new wt2 (.cells (List.toArray [Value.int .i64 0, .slice none 0 0]) 26)))
          have NEp_L11 := Lib.hid (VR.new_ne VRp_2.out HN.out.1)
          generalize wt2.alloc (.cells (List.toArray [Value.int .i64 0, .slice none 0 0]) 26) = wt3 at *
          generalize wt2.heap.size = L3 at *
          refine wpAnyH_ready (rs := [9]) (by kernel_rfl) (by simp) ?_
          refine held_cons rfl (fun K hK => ?_) AllReadyH.nil
          go_simp
          refine hK.out _ _ ?_ (fun hHeld2 => ?_)
          · exact ⟨(HT3.out.lay 26 [Value.int .i64 0, .slice none 0 0]).pr 4 rfl, (HT3.out.lay 26 [Value.int .i64 0, .slice none 0 0]).pr 3 rfl⟩
          clear hK K hHeld
          have hHeld := hHeld2
          clear hHeld2
          (try simp only [Act.put, List.setIfInBounds_toArray, List.set_cons_zero, List.set_cons_succ])
          have HT4 := Lib.hid (HT3.out.lay 26 [Value.int .i64 0, .slice none 0 0])
          have VRx_4 := Lib.hid (VRx_3.out.below (Below.new wt3 (.cells (List.toArray [Value.int .i64 0, .slice none 0 0]) 26)))
          have NEx_L12 := Lib.hid (VR.new_ne VRx_3.out HN.out.1)
          have VRy_4 := Lib.hid (VRy_3.out.below (Below.new wt3 (.cells (List.toArray [Value.int .i64 0, .slice none 0 0]) 26)))
          have NEy_L12 := Lib.hid (VR.new_ne VRy_3.out HN.out.1)
          have VRz_4 := Lib.hid (VRz_3.out.below (Below.new wt3 (.cells (List.toArray [Value.int .i64 0, .slice none 0 0]) 26)))
          have NEz_L12 := Lib.hid (VR.new_ne VRz_3.out HN.out.1)
          have VRs_4 := Lib.hid (VRs_3.out.below (Below.new wt3 (.cells (List.toArray [Value.int .i64 0, .slice none 0 0]) 26)))
          have NEs_L12 := Lib.hid (VR.new_ne VRs_3.out HN.out.1)
          have VRp_4 := Lib.hid (VRp_3.out.below (Below.new wt3 (.cells (List.toArray [Value.int .i64 0, .slice none 0 0]) 26)))
          have NEp_L12 := Lib.hid (VR.new_ne VRp_3.out HN.out.1)
          generalize wt3.alloc (.cells (List.toArray [Value.int .i64 0, .slice none 0 0]) 26) = wt4 at *
          generalize wt3.heap.size = L4 at *
          refine wpAnyH_ready (rs := [10]) (by kernel_rfl) (by simp) ?_
          refine held_cons rfl (fun K hK => ?_) AllReadyH.nil
          have r0 := (HT4.out.pr 1 rfl).1
          have r1 := (HT4.out.pr 1 rfl).2
          have f0 := (HT4.out.at 1 rfl).frz 0
          have f1 := (HT4.out.at 1 rfl).frz 1
          go_simp
          refine hK.out _ _ ?_ (fun hHeld2 => ?_)
          · exact ⟨(HT4.out.two 1 (x := .int .i64 n) (y := .slice p1 (wcount n) c1) rfl).pr 4 rfl, (HT4.out.two 1 (x := .int .i64 n) (y := .slice p1 (wcount n) c1) rfl).pr 3 rfl⟩
          clear hK K hHeld
          have hHeld := hHeld2
          clear hHeld2
          (try simp only [Act.put, List.setIfInBounds_toArray, List.set_cons_zero, List.set_cons_succ])
          have HT5 := Lib.hid (HT4.out.two 1 (x := .int .i64 n) (y := .slice p1 (wcount n) c1) rfl)
          have VRx_5 := Lib.hid (VRx_4.out.set2 (R := L3) (x1 := .int .i64 n) (y1 := .slice p1 (wcount n) c1) NEx_L11.out)
          have VRy_5 := Lib.hid (VRy_4.out.set2 (R := L3) (x1 := .int .i64 n) (y1 := .slice p1 (wcount n) c1) NEy_L11.out)
          have VRz_5 := Lib.hid (VRz_4.out.set2 (R := L3) (x1 := .int .i64 n) (y1 := .slice p1 (wcount n) c1) NEz_L11.out)
          have VRs_5 := Lib.hid (VRs_4.out.set2 (R := L3) (x1 := .int .i64 n) (y1 := .slice p1 (wcount n) c1) NEs_L11.out)
          have VRp_5 := Lib.hid (VRp_4.out.set2 (R := L3) (x1 := .int .i64 n) (y1 := .slice p1 (wcount n) c1) NEp_L11.out)
          clear r0 r1 f0 f1
          generalize (wt4.setCell ⟨L3, 0, none⟩ (.int .i64 n)).setCell ⟨L3, 1, none⟩ (.slice p1 (wcount n) c1) = wt5 at *
          refine wpAnyH_ready (rs := [11]) (by kernel_rfl) (by simp) ?_
          refine held_cons rfl (fun K hK => ?_) AllReadyH.nil
          have r0 := (HT5.out.pr 0 rfl).1
          have r1 := (HT5.out.pr 0 rfl).2
          have f0 := (HT5.out.at 0 rfl).frz 0
          have f1 := (HT5.out.at 0 rfl).frz 1
          go_simp
          refine hK.out _ _ ?_ (fun hHeld2 => ?_)
          · exact ⟨(HT5.out.two 0 (x := .int .i64 n) (y := .slice p2 (wcount n) c2) rfl).pr 4 rfl, (HT5.out.two 0 (x := .int .i64 n) (y := .slice p2 (wcount n) c2) rfl).pr 3 rfl⟩
          clear hK K hHeld
          have hHeld := hHeld2
          clear hHeld2
          (try simp only [Act.put, List.setIfInBounds_toArray, List.set_cons_zero, List.set_cons_succ])
          have HT6 := Lib.hid (HT5.out.two 0 (x := .int .i64 n) (y := .slice p2 (wcount n) c2) rfl)
          have VRx_6 := Lib.hid (VRx_5.out.set2 (R := L4) (x1 := .int .i64 n) (y1 := .slice p2 (wcount n) c2) NEx_L12.out)
          have VRy_6 := Lib.hid (VRy_5.out.set2 (R := L4) (x1 := .int .i64 n) (y1 := .slice p2 (wcount n) c2) NEy_L12.out)
          have VRz_6 := Lib.hid (VRz_5.out.set2 (R := L4) (x1 := .int .i64 n) (y1 := .slice p2 (wcount n) c2) NEz_L12.out)
          have VRs_6 := Lib.hid (VRs_5.out.set2 (R := L4) (x1 := .int .i64 n) (y1 := .slice p2 (wcount n) c2) NEs_L12.out)
          have VRp_6 := Lib.hid (VRp_5.out.set2 (R := L4) (x1 := .int .i64 n) (y1 := .slice p2 (wcount n) c2) NEp_L12.out)
          clear r0 r1 f0 f1
          generalize (wt5.setCell ⟨L4, 0, none⟩ (.int .i64 n)).setCell ⟨L4, 1, none⟩ (.slice p2 (wcount n) c2) = wt6 at *
          refine wpAnyH_done (by kernel_rfl) ?_ _
          go_wp2_with fail
          go_meet
          exact ⟨L3, L4, p1, c1, p2, c2, rfl, rfl, HT6.out.subs (by simp) (by have := HT6.out.nd; simp only [List.set_cons_zero, List.set_cons_succ, List.map_cons, List.map_nil, List.nodup_cons, List.mem_cons, List.not_mem_nil, or_false, not_or, not_false_eq_true, List.nodup_nil, and_true] at this ⊢; omega), VRx_6.out, VRy_6.out, VRz_6.out, VRs_6.out, VRp_6.out⟩
        refine held_cons rfl (fun K hK => ?_) ?_
        · go_simp
          refine hK.out _ _ ?_ (fun hHeld2 => ?_)
          · exact ⟨(HT2.out.lay 26 [Value.int .i64 0, .slice none 0 0]).pr 3 rfl, (HT2.out.lay 26 [Value.int .i64 0, .slice none 0 0]).pr 2 rfl⟩
          clear hK K hHeld
          have hHeld := hHeld2
          clear hHeld2
          (try simp only [Act.put, List.setIfInBounds_toArray, List.set_cons_zero, List.set_cons_succ])
          have HT7 := Lib.hid (HT2.out.lay 26 [Value.int .i64 0, .slice none 0 0])
          have VRx_7 := Lib.hid (VRx_2.out.below (Below.new wt2 (.cells (List.toArray [Value.int .i64 0, .slice none 0 0]) 26)))
          have NEx_L12 := Lib.hid (VR.new_ne VRx_2.out HN.out.1)
          have VRy_7 := Lib.hid (VRy_2.out.below (Below.new wt2 (.cells (List.toArray [Value.int .i64 0, .slice none 0 0]) 26)))
          have NEy_L12 := Lib.hid (VR.new_ne VRy_2.out HN.out.1)
          have VRz_7 := Lib.hid (VRz_2.out.below (Below.new wt2 (.cells (List.toArray [Value.int .i64 0, .slice none 0 0]) 26)))
          have NEz_L12 := Lib.hid (VR.new_ne VRz_2.out HN.out.1)
          have VRs_7 := Lib.hid (VRs_2.out.below (Below.new wt2 (.cells (List.toArray [Value.int .i64 0, .slice none 0 0]) 26)))
          have NEs_L12 := Lib.hid (VR.new_ne VRs_2.out HN.out.1)
          have VRp_7 := Lib.hid (VRp_2.out.below (Below.new wt2 (.cells (List.toArray [Value.int .i64 0, .slice none 0 0]) 26)))
          have NEp_L12 := Lib.hid (VR.new_ne VRp_2.out HN.out.1)
          generalize wt2.alloc (.cells (List.toArray [Value.int .i64 0, .slice none 0 0]) 26) = wt7 at *
          generalize wt2.heap.size = L7 at *
          refine wpAnyH_ready (rs := [8]) (by kernel_rfl) (by simp) ?_
          refine held_cons rfl (fun K hK => ?_) AllReadyH.nil
          go_simp
          refine hK.out _ _ ?_ (fun hHeld2 => ?_)
          · exact ⟨(HT7.out.lay 26 [Value.int .i64 0, .slice none 0 0]).pr 4 rfl, (HT7.out.lay 26 [Value.int .i64 0, .slice none 0 0]).pr 3 rfl⟩
          clear hK K hHeld
          have hHeld := hHeld2
          clear hHeld2
          (try simp only [Act.put, List.setIfInBounds_toArray, List.set_cons_zero, List.set_cons_succ])
          have HT8 := Lib.hid (HT7.out.lay 26 [Value.int .i64 0, .slice none 0 0])
          have VRx_8 := Lib.hid (VRx_7.out.below (Below.new wt7 (.cells (List.toArray [Value.int .i64 0, .slice none 0 0]) 26)))
          have NEx_L11 := Lib.hid (VR.new_ne VRx_7.out HN.out.1)
          have VRy_8 := Lib.hid (VRy_7.out.below (Below.new wt7 (.cells (List.toArray [Value.int .i64 0, .slice none 0 0]) 26)))
          have NEy_L11 := Lib.hid (VR.new_ne VRy_7.out HN.out.1)
          have VRz_8 := Lib.hid (VRz_7.out.below (Below.new wt7 (.cells (List.toArray [Value.int .i64 0, .slice none 0 0]) 26)))
          have NEz_L11 := Lib.hid (VR.new_ne VRz_7.out HN.out.1)
          have VRs_8 := Lib.hid (VRs_7.out.below (Below.new wt7 (.cells (List.toArray [Value.int .i64 0, .slice none 0 0]) 26)))
          have NEs_L11 := Lib.hid (VR.new_ne VRs_7.out HN.out.1)
          have VRp_8 := Lib.hid (VRp_7.out.below (Below.new wt7 (.cells (List.toArray [Value.int .i64 0, .slice none 0 0]) 26)))
          have NEp_L11 := Lib.hid (VR.new_ne VRp_7.out HN.out.1)
          generalize wt7.alloc (.cells (List.toArray [Value.int .i64 0, .slice none 0 0]) 26) = wt8 at *
          generalize wt7.heap.size = L8 at *
          refine wpAnyH_ready (rs := [10]) (by kernel_rfl) (by simp) ?_
          refine held_cons rfl (fun K hK => ?_) AllReadyH.nil
          have r0 := (HT8.out.pr 0 rfl).1
          have r1 := (HT8.out.pr 0 rfl).2
          have f0 := (HT8.out.at 0 rfl).frz 0
          have f1 := (HT8.out.at 0 rfl).frz 1
          go_simp
          refine hK.out _ _ ?_ (fun hHeld2 => ?_)
          · exact ⟨(HT8.out.two 0 (x := .int .i64 n) (y := .slice p1 (wcount n) c1) rfl).pr 4 rfl, (HT8.out.two 0 (x := .int .i64 n) (y := .slice p1 (wcount n) c1) rfl).pr 3 rfl⟩
          clear hK K hHeld
          have hHeld := hHeld2
          clear hHeld2
          (try simp only [Act.put, List.setIfInBounds_toArray, List.set_cons_zero, List.set_cons_succ])
          have HT9 := Lib.hid (HT8.out.two 0 (x := .int .i64 n) (y := .slice p1 (wcount n) c1) rfl)
          have VRx_9 := Lib.hid (VRx_8.out.set2 (R := L8) (x1 := .int .i64 n) (y1 := .slice p1 (wcount n) c1) NEx_L11.out)
          have VRy_9 := Lib.hid (VRy_8.out.set2 (R := L8) (x1 := .int .i64 n) (y1 := .slice p1 (wcount n) c1) NEy_L11.out)
          have VRz_9 := Lib.hid (VRz_8.out.set2 (R := L8) (x1 := .int .i64 n) (y1 := .slice p1 (wcount n) c1) NEz_L11.out)
          have VRs_9 := Lib.hid (VRs_8.out.set2 (R := L8) (x1 := .int .i64 n) (y1 := .slice p1 (wcount n) c1) NEs_L11.out)
          have VRp_9 := Lib.hid (VRp_8.out.set2 (R := L8) (x1 := .int .i64 n) (y1 := .slice p1 (wcount n) c1) NEp_L11.out)
          clear r0 r1 f0 f1
          generalize (wt8.setCell ⟨L8, 0, none⟩ (.int .i64 n)).setCell ⟨L8, 1, none⟩ (.slice p1 (wcount n) c1) = wt9 at *
          refine wpAnyH_ready (rs := [11]) (by kernel_rfl) (by simp) ?_
          refine held_cons rfl (fun K hK => ?_) AllReadyH.nil
          have r0 := (HT9.out.pr 1 rfl).1
          have r1 := (HT9.out.pr 1 rfl).2
          have f0 := (HT9.out.at 1 rfl).frz 0
          have f1 := (HT9.out.at 1 rfl).frz 1
          go_simp
          refine hK.out _ _ ?_ (fun hHeld2 => ?_)
          · exact ⟨(HT9.out.two 1 (x := .int .i64 n) (y := .slice p2 (wcount n) c2) rfl).pr 4 rfl, (HT9.out.two 1 (x := .int .i64 n) (y := .slice p2 (wcount n) c2) rfl).pr 3 rfl⟩
          clear hK K hHeld
          have hHeld := hHeld2
          clear hHeld2
          (try simp only [Act.put, List.setIfInBounds_toArray, List.set_cons_zero, List.set_cons_succ])
          have HT10 := Lib.hid (HT9.out.two 1 (x := .int .i64 n) (y := .slice p2 (wcount n) c2) rfl)
          have VRx_10 := Lib.hid (VRx_9.out.set2 (R := L7) (x1 := .int .i64 n) (y1 := .slice p2 (wcount n) c2) NEx_L12.out)
          have VRy_10 := Lib.hid (VRy_9.out.set2 (R := L7) (x1 := .int .i64 n) (y1 := .slice p2 (wcount n) c2) NEy_L12.out)
          have VRz_10 := Lib.hid (VRz_9.out.set2 (R := L7) (x1 := .int .i64 n) (y1 := .slice p2 (wcount n) c2) NEz_L12.out)
          have VRs_10 := Lib.hid (VRs_9.out.set2 (R := L7) (x1 := .int .i64 n) (y1 := .slice p2 (wcount n) c2) NEs_L12.out)
          have VRp_10 := Lib.hid (VRp_9.out.set2 (R := L7) (x1 := .int .i64 n) (y1 := .slice p2 (wcount n) c2) NEp_L12.out)
          clear r0 r1 f0 f1
          generalize (wt9.setCell ⟨L7, 0, none⟩ (.int .i64 n)).setCell ⟨L7, 1, none⟩ (.slice p2 (wcount n) c2) = wt10 at *
          refine wpAnyH_done (by kernel_rfl) ?_ _
          go_wp2_with fail
          go_meet
          exact ⟨L8, L7, p1, c1, p2, c2, rfl, rfl, HT10.out.subs (by simp) (by have := HT10.out.nd; simp only [List.set_cons_zero, List.set_cons_succ, List.map_cons, List.map_nil, List.nodup_cons, List.mem_cons, List.not_mem_nil, or_false, not_or, not_false_eq_true, List.nodup_nil, and_true] at this ⊢; omega), VRx_10.out, VRy_10.out, VRz_10.out, VRs_10.out, VRp_10.out⟩
        exact AllReadyH.nil
      refine held_cons rfl (fun K hK => ?_) ?_
      · go_simp
        refine hK.out _ _ ?_ (fun hHeld2 => ?_)
        · exact ⟨(HT1.out.lay 26 [Value.int .i64 0, .slice none 0 0]).pr 3 rfl, (HT1.out.lay 26 [Value.int .i64 0, .slice none 0 0]).pr 2 rfl⟩
        clear hK K hHeld
        have hHeld := hHeld2
        clear hHeld2
        (try simp only [Act.put, List.setIfInBounds_toArray, List.set_cons_zero, List.set_cons_succ])
        have HT11 := Lib.hid (HT1.out.lay 26 [Value.int .i64 0, .slice none 0 0])
        have VRx_11 := Lib.hid (VRx_1.out.below (Below.new wt1 (.cells (List.toArray [Value.int .i64 0, .slice none 0 0]) 26)))
        have NEx_L11 := Lib.hid (VR.new_ne VRx_1.out HN.out.1)
        have VRy_11 := Lib.hid (VRy_1.out.below (Below.new wt1 (.cells (List.toArray [Value.int .i64 0, .slice none 0 0]) 26)))
        have NEy_L11 := Lib.hid (VR.new_ne VRy_1.out HN.out.1)
        have VRz_11 := Lib.hid (VRz_1.out.below (Below.new wt1 (.cells (List.toArray [Value.int .i64 0, .slice none 0 0]) 26)))
        have NEz_L11 := Lib.hid (VR.new_ne VRz_1.out HN.out.1)
        have VRs_11 := Lib.hid (VRs_1.out.below (Below.new wt1 (.cells (List.toArray [Value.int .i64 0, .slice none 0 0]) 26)))
        have NEs_L11 := Lib.hid (VR.new_ne VRs_1.out HN.out.1)
        generalize wt1.alloc (.cells (List.toArray [Value.int .i64 0, .slice none 0 0]) 26) = wt11 at *
        generalize wt1.heap.size = L11 at *
        refine wpAnyH_ready (rs := [7, 9]) (by kernel_rfl) (by simp) ?_
        refine held_cons rfl (fun K hK => ?_) ?_
        · go_simp
          refine (op_any (k := 2) VRx_11.out VRy_11.out fun w' hb => bin_2 (VRx_11.out.below hb) (VRy_11.out.below hb) HN.out.1).mono ?_; rintro e wt12 ⟨v12, rfl, hv12, hb12, hf12⟩
          obtain ⟨p12, c12, rfl, _⟩ := hv12.ex
          have HT12 := Lib.hid (HT11.out.below hb12)
          have VRx_12 := Lib.hid (VRx_11.out.below hb12)
          have VRy_12 := Lib.hid (VRy_11.out.below hb12)
          have VRz_12 := Lib.hid (VRz_11.out.below hb12)
          have VRs_12 := Lib.hid (VRs_11.out.below hb12)
          have VRp_12 := Lib.hid hv12
          have NEp_L11 := Lib.hid (Far.ne hf12 (HT11.out.at 0 rfl).lt)
          clear hv12 hb12 hf12
          (try go_simp)
          refine hK.out _ _ ?_ (fun hHeld2 => ?_)
          · exact ⟨HT12.out.pr 3 rfl, HT12.out.pr 2 rfl⟩
          clear hK K hHeld
          have hHeld := hHeld2
          clear hHeld2
          (try simp only [Act.put, List.setIfInBounds_toArray, List.set_cons_zero, List.set_cons_succ])
          refine wpAnyH_ready (rs := [9]) (by kernel_rfl) (by simp) ?_
          refine held_cons rfl (fun K hK => ?_) AllReadyH.nil
          go_simp
          refine hK.out _ _ ?_ (fun hHeld2 => ?_)
          · exact ⟨(HT12.out.lay 26 [Value.int .i64 0, .slice none 0 0]).pr 4 rfl, (HT12.out.lay 26 [Value.int .i64 0, .slice none 0 0]).pr 3 rfl⟩
          clear hK K hHeld
          have hHeld := hHeld2
          clear hHeld2
          (try simp only [Act.put, List.setIfInBounds_toArray, List.set_cons_zero, List.set_cons_succ])
          have HT13 := Lib.hid (HT12.out.lay 26 [Value.int .i64 0, .slice none 0 0])
          have VRx_13 := Lib.hid (VRx_12.out.below (Below.new wt12 (.cells (List.toArray [Value.int .i64 0, .slice none 0 0]) 26)))
          have NEx_L12 := Lib.hid (VR.new_ne VRx_12.out HN.out.1)
          have VRy_13 := Lib.hid (VRy_12.out.below (Below.new wt12 (.cells (List.toArray [Value.int .i64 0, .slice none 0 0]) 26)))
          have NEy_L12 := Lib.hid (VR.new_ne VRy_12.out HN.out.1)
          have VRz_13 := Lib.hid (VRz_12.out.below (Below.new wt12 (.cells (List.toArray [Value.int .i64 0, .slice none 0 0]) 26)))
          have NEz_L12 := Lib.hid (VR.new_ne VRz_12.out HN.out.1)
          have VRs_13 := Lib.hid (VRs_12.out.below (Below.new wt12 (.cells (List.toArray [Value.int .i64 0, .slice none 0 0]) 26)))
          have NEs_L12 := Lib.hid (VR.new_ne VRs_12.out HN.out.1)
          have VRp_13 := Lib.hid (VRp_12.out.below (Below.new wt12 (.cells (List.toArray [Value.int .i64 0, .slice none 0 0]) 26)))
          have NEp_L12 := Lib.hid (VR.new_ne VRp_12.out HN.out.1)
          generalize wt12.alloc (.cells (List.toArray [Value.int .i64 0, .slice none 0 0]) 26) = wt13 at *
          generalize wt12.heap.size = L13 at *
          refine wpAnyH_ready (rs := [10]) (by kernel_rfl) (by simp) ?_
          refine held_cons rfl (fun K hK => ?_) AllReadyH.nil
          have r0 := (HT13.out.pr 1 rfl).1
          have r1 := (HT13.out.pr 1 rfl).2
          have f0 := (HT13.out.at 1 rfl).frz 0
          have f1 := (HT13.out.at 1 rfl).frz 1
          go_simp
          refine hK.out _ _ ?_ (fun hHeld2 => ?_)
          · exact ⟨(HT13.out.two 1 (x := .int .i64 n) (y := .slice p1 (wcount n) c1) rfl).pr 4 rfl, (HT13.out.two 1 (x := .int .i64 n) (y := .slice p1 (wcount n) c1) rfl).pr 3 rfl⟩
          clear hK K hHeld
          have hHeld := hHeld2
          clear hHeld2
          (try simp only [Act.put, List.setIfInBounds_toArray, List.set_cons_zero, List.set_cons_succ])
          have HT14 := Lib.hid (HT13.out.two 1 (x := .int .i64 n) (y := .slice p1 (wcount n) c1) rfl)
          have VRx_14 := Lib.hid (VRx_13.out.set2 (R := L11) (x1 := .int .i64 n) (y1 := .slice p1 (wcount n) c1) NEx_L11.out)
          have VRy_14 := Lib.hid (VRy_13.out.set2 (R := L11) (x1 := .int .i64 n) (y1 := .slice p1 (wcount n) c1) NEy_L11.out)
          have VRz_14 := Lib.hid (VRz_13.out.set2 (R := L11) (x1 := .int .i64 n) (y1 := .slice p1 (wcount n) c1) NEz_L11.out)
          have VRs_14 := Lib.hid (VRs_13.out.set2 (R := L11) (x1 := .int .i64 n) (y1 := .slice p1 (wcount n) c1) NEs_L11.out)
          have VRp_14 := Lib.hid (VRp_13.out.set2 (R := L11) (x1 := .int .i64 n) (y1 := .slice p1 (wcount n) c1) NEp_L11.out)
          clear r0 r1 f0 f1
          generalize (wt13.setCell ⟨L11, 0, none⟩ (.int .i64 n)).setCell ⟨L11, 1, none⟩ (.slice p1 (wcount n) c1) = wt14 at *
          refine wpAnyH_ready (rs := [11]) (by kernel_rfl) (by simp) ?_
          refine held_cons rfl (fun K hK => ?_) AllReadyH.nil
          have r0 := (HT14.out.pr 0 rfl).1
          have r1 := (HT14.out.pr 0 rfl).2
          have f0 := (HT14.out.at 0 rfl).frz 0
          have f1 := (HT14.out.at 0 rfl).frz 1
          go_simp
          refine hK.out _ _ ?_ (fun hHeld2 => ?_)
          · exact ⟨(HT14.out.two 0 (x := .int .i64 n) (y := .slice p12 (wcount n) c12) rfl).pr 4 rfl, (HT14.out.two 0 (x := .int .i64 n) (y := .slice p12 (wcount n) c12) rfl).pr 3 rfl⟩
          clear hK K hHeld
          have hHeld := hHeld2
          clear hHeld2
          (try simp only [Act.put, List.setIfInBounds_toArray, List.set_cons_zero, List.set_cons_succ])
          have HT15 := Lib.hid (HT14.out.two 0 (x := .int .i64 n) (y := .slice p12 (wcount n) c12) rfl)
          have VRx_15 := Lib.hid (VRx_14.out.set2 (R := L13) (x1 := .int .i64 n) (y1 := .slice p12 (wcount n) c12) NEx_L12.out)
          have VRy_15 := Lib.hid (VRy_14.out.set2 (R := L13) (x1 := .int .i64 n) (y1 := .slice p12 (wcount n) c12) NEy_L12.out)
          have VRz_15 := Lib.hid (VRz_14.out.set2 (R := L13) (x1 := .int .i64 n) (y1 := .slice p12 (wcount n) c12) NEz_L12.out)
          have VRs_15 := Lib.hid (VRs_14.out.set2 (R := L13) (x1 := .int .i64 n) (y1 := .slice p12 (wcount n) c12) NEs_L12.out)
          have VRp_15 := Lib.hid (VRp_14.out.set2 (R := L13) (x1 := .int .i64 n) (y1 := .slice p12 (wcount n) c12) NEp_L12.out)
          clear r0 r1 f0 f1
          generalize (wt14.setCell ⟨L13, 0, none⟩ (.int .i64 n)).setCell ⟨L13, 1, none⟩ (.slice p12 (wcount n) c12) = wt15 at *
          refine wpAnyH_done (by kernel_rfl) ?_ _
          go_wp2_with fail
          go_meet
          exact ⟨L11, L13, p1, c1, p12, c12, rfl, rfl, HT15.out.subs (by simp) (by have := HT15.out.nd; simp only [List.set_cons_zero, List.set_cons_succ, List.map_cons, List.map_nil, List.nodup_cons, List.mem_cons, List.not_mem_nil, or_false, not_or, not_false_eq_true, List.nodup_nil, and_true] at this ⊢; omega), VRx_15.out, VRy_15.out, VRz_15.out, VRs_15.out, VRp_15.out⟩
        refine held_cons rfl (fun K hK => ?_) ?_
        · go_simp
          refine hK.out _ _ ?_ (fun hHeld2 => ?_)
          · exact ⟨(HT11.out.lay 26 [Value.int .i64 0, .slice none 0 0]).pr 4 rfl, (HT11.out.lay 26 [Value.int .i64 0, .slice none 0 0]).pr 3 rfl⟩
          clear hK K hHeld
          have hHeld := hHeld2
          clear hHeld2
          (try simp only [Act.put, List.setIfInBounds_toArray, List.set_cons_zero, List.set_cons_succ])
          have HT16 := Lib.hid (HT11.out.lay 26 [Value.int .i64 0, .slice none 0 0])
          have VRx_16 := Lib.hid (VRx_11.out.below (Below.new wt11 (.cells (List.toArray [Value.int .i64 0, .slice none 0 0]) 26)))
          have NEx_L12 := Lib.hid (VR.new_ne VRx_11.out HN.out.1)
          have VRy_16 := Lib.hid (VRy_11.out.below (Below.new wt11 (.cells (List.toArray [Value.int .i64 0, .slice none 0 0]) 26)))
          have NEy_L12 := Lib.hid (VR.new_ne VRy_11.out HN.out.1)
          have VRz_16 := Lib.hid (VRz_11.out.below (Below.new wt11 (.cells (List.toArray [Value.int .i64 0, .slice none 0 0]) 26)))
          have NEz_L12 := Lib.hid (VR.new_ne VRz_11.out HN.out.1)
          have VRs_16 := Lib.hid (VRs_11.out.below (Below.new wt11 (.cells (List.toArray [Value.int .i64 0, .slice none 0 0]) 26)))
          have NEs_L12 := Lib.hid (VR.new_ne VRs_11.out HN.out.1)
          generalize wt11.alloc (.cells (List.toArray [Value.int .i64 0, .slice none 0 0]) 26) = wt16 at *
          generalize wt11.heap.size = L16 at *
          refine wpAnyH_ready (rs := [7]) (by kernel_rfl) (by simp) ?_
          refine held_cons rfl (fun K hK => ?_) AllReadyH.nil
          go_simp
          refine (op_any (k := 2) VRx_16.out VRy_16.out fun w' hb => bin_2 (VRx_16.out.below hb) (VRy_16.out.below hb) HN.out.1).mono ?_; rintro e wt17 ⟨v17, rfl, hv17, hb17, hf17⟩
          obtain ⟨p17, c17, rfl, _⟩ := hv17.ex
          have HT17 := Lib.hid (HT16.out.below hb17)
          have VRx_17 := Lib.hid (VRx_16.out.below hb17)
          have VRy_17 := Lib.hid (VRy_16.out.below hb17)
          have VRz_17 := Lib.hid (VRz_16.out.below hb17)
          have VRs_17 := Lib.hid (VRs_16.out.below hb17)
          have VRp_17 := Lib.hid hv17
          have NEp_L11 := Lib.hid (Far.ne hf17 (HT16.out.at 1 rfl).lt)
          have NEp_L12 := Lib.hid (Far.ne hf17 (HT16.out.at 0 rfl).lt)
          clear hv17 hb17 hf17
          (try go_simp)
          refine hK.out _ _ ?_ (fun hHeld2 => ?_)
          · exact ⟨HT17.out.pr 4 rfl, HT17.out.pr 3 rfl⟩
          clear hK K hHeld
          have hHeld := hHeld2
          clear hHeld2
          (try simp only [Act.put, List.setIfInBounds_toArray, List.set_cons_zero, List.set_cons_succ])
          refine wpAnyH_ready (rs := [10]) (by kernel_rfl) (by simp) ?_
          refine held_cons rfl (fun K hK => ?_) AllReadyH.nil
          have r0 := (HT17.out.pr 1 rfl).1
          have r1 := (HT17.out.pr 1 rfl).2
          have f0 := (HT17.out.at 1 rfl).frz 0
          have f1 := (HT17.out.at 1 rfl).frz 1
          go_simp
          refine hK.out _ _ ?_ (fun hHeld2 => ?_)
          · exact ⟨(HT17.out.two 1 (x := .int .i64 n) (y := .slice p1 (wcount n) c1) rfl).pr 4 rfl, (HT17.out.two 1 (x := .int .i64 n) (y := .slice p1 (wcount n) c1) rfl).pr 3 rfl⟩
          clear hK K hHeld
          have hHeld := hHeld2
          clear hHeld2
          (try simp only [Act.put, List.setIfInBounds_toArray, List.set_cons_zero, List.set_cons_succ])
          have HT18 := Lib.hid (HT17.out.two 1 (x := .int .i64 n) (y := .slice p1 (wcount n) c1) rfl)
          have VRx_18 := Lib.hid (VRx_17.out.set2 (R := L11) (x1 := .int .i64 n) (y1 := .slice p1 (wcount n) c1) NEx_L11.out)
          have VRy_18 := Lib.hid (VRy_17.out.set2 (R := L11) (x1 := .int .i64 n) (y1 := .slice p1 (wcount n) c1) NEy_L11.out)
          have VRz_18 := Lib.hid (VRz_17.out.set2 (R := L11) (x1 := .int .i64 n) (y1 := .slice p1 (wcount n) c1) NEz_L11.out)
          have VRs_18 := Lib.hid (VRs_17.out.set2 (R := L11) (x1 := .int .i64 n) (y1 := .slice p1 (wcount n) c1) NEs_L11.out)
          have VRp_18 := Lib.hid (VRp_17.out.set2 (R := L11) (x1 := .int .i64 n) (y1 := .slice p1 (wcount n) c1) NEp_L11.out)
          clear r0 r1 f0 f1
          generalize (wt17.setCell ⟨L11, 0, none⟩ (.int .i64 n)).setCell ⟨L11, 1, none⟩ (.slice p1 (wcount n) c1) = wt18 at *
          refine wpAnyH_ready (rs := [11]) (by kernel_rfl) (by simp) ?_
          refine held_cons rfl (fun K hK => ?_) AllReadyH.nil
          have r0 := (HT18.out.pr 0 rfl).1
          have r1 := (HT18.out.pr 0 rfl).2
          have f0 := (HT18.out.at 0 rfl).frz 0
          have f1 := (HT18.out.at 0 rfl).frz 1
          go_simp
          refine hK.out _ _ ?_ (fun hHeld2 => ?_)
          · exact ⟨(HT18.out.two 0 (x := .int .i64 n) (y := .slice p17 (wcount n) c17) rfl).pr 4 rfl, (HT18.out.two 0 (x := .int .i64 n) (y := .slice p17 (wcount n) c17) rfl).pr 3 rfl⟩
          clear hK K hHeld
          have hHeld := hHeld2
          clear hHeld2
          (try simp only [Act.put, List.setIfInBounds_toArray, List.set_cons_zero, List.set_cons_succ])
          have HT19 := Lib.hid (HT18.out.two 0 (x := .int .i64 n) (y := .slice p17 (wcount n) c17) rfl)
          have VRx_19 := Lib.hid (VRx_18.out.set2 (R := L16) (x1 := .int .i64 n) (y1 := .slice p17 (wcount n) c17) NEx_L12.out)
          have VRy_19 := Lib.hid (VRy_18.out.set2 (R := L16) (x1 := .int .i64 n) (y1 := .slice p17 (wcount n) c17) NEy_L12.out)
          have VRz_19 := Lib.hid (VRz_18.out.set2 (R := L16) (x1 := .int .i64 n) (y1 := .slice p17 (wcount n) c17) NEz_L12.out)
          have VRs_19 := Lib.hid (VRs_18.out.set2 (R := L16) (x1 := .int .i64 n) (y1 := .slice p17 (wcount n) c17) NEs_L12.out)
          have VRp_19 := Lib.hid (VRp_18.out.set2 (R := L16) (x1 := .int .i64 n) (y1 := .slice p17 (wcount n) c17) NEp_L12.out)
          clear r0 r1 f0 f1
          generalize (wt18.setCell ⟨L16, 0, none⟩ (.int .i64 n)).setCell ⟨L16, 1, none⟩ (.slice p17 (wcount n) c17) = wt19 at *
          refine wpAnyH_done (by kernel_rfl) ?_ _
          go_wp2_with fail
          go_meet
          exact ⟨L11, L16, p1, c1, p17, c17, rfl, rfl, HT19.out.subs (by simp) (by have := HT19.out.nd; simp only [List.set_cons_zero, List.set_cons_succ, List.map_cons, List.map_nil, List.nodup_cons, List.mem_cons, List.not_mem_nil, or_false, not_or, not_false_eq_true, List.nodup_nil, and_true] at this ⊢; omega), VRx_19.out, VRy_19.out, VRz_19.out, VRs_19.out, VRp_19.out⟩
        exact AllReadyH.nil
      refine held_cons rfl (fun K hK => ?_) ?_
      · go_simp
        refine hK.out _ _ ?_ (fun hHeld2 => ?_)
        · exact ⟨(HT1.out.lay 26 [Value.int .i64 0, .slice none 0 0]).pr 3 rfl, (HT1.out.lay 26 [Value.int .i64 0, .slice none 0 0]).pr 2 rfl⟩
        clear hK K hHeld
        have hHeld := hHeld2
        clear hHeld2
        (try simp only [Act.put, List.setIfInBounds_toArray, List.set_cons_zero, List.set_cons_succ])
        have HT20 := Lib.hid (HT1.out.lay 26 [Value.int .i64 0, .slice none 0 0])
        have VRx_20 := Lib.hid (VRx_1.out.below (Below.new wt1 (.cells (List.toArray [Value.int .i64 0, .slice none 0 0]) 26)))
        have NEx_L12 := Lib.hid (VR.new_ne VRx_1.out HN.out.1)
        have VRy_20 := Lib.hid (VRy_1.out.below (Below.new wt1 (.cells (List.toArray [Value.int .i64 0, .slice none 0 0]) 26)))
        have NEy_L12 := Lib.hid (VR.new_ne VRy_1.out HN.out.1)
        have VRz_20 := Lib.hid (VRz_1.out.below (Below.new wt1 (.cells (List.toArray [Value.int .i64 0, .slice none 0 0]) 26)))
        have NEz_L12 := Lib.hid (VR.new_ne VRz_1.out HN.out.1)
        have VRs_20 := Lib.hid (VRs_1.out.below (Below.new wt1 (.cells (List.toArray [Value.int .i64 0, .slice none 0 0]) 26)))
        have NEs_L12 := Lib.hid (VR.new_ne VRs_1.out HN.out.1)
        generalize wt1.alloc (.cells (List.toArray [Value.int .i64 0, .slice none 0 0]) 26) = wt20 at *
        generalize wt1.heap.size = L20 at *
        refine wpAnyH_ready (rs := [7, 8]) (by kernel_rfl) (by simp) ?_
        refine held_cons rfl (fun K hK => ?_) ?_
        · go_simp
          refine (op_any (k := 2) VRx_20.out VRy_20.out fun w' hb => bin_2 (VRx_20.out.below hb) (VRy_20.out.below hb) HN.out.1).mono ?_; rintro e wt21 ⟨v21, rfl, hv21, hb21, hf21⟩
          obtain ⟨p21, c21, rfl, _⟩ := hv21.ex
          have HT21 := Lib.hid (HT20.out.below hb21)
          have VRx_21 := Lib.hid (VRx_20.out.below hb21)
          have VRy_21 := Lib.hid (VRy_20.out.below hb21)
          have VRz_21 := Lib.hid (VRz_20.out.below hb21)
          have VRs_21 := Lib.hid (VRs_20.out.below hb21)
          have VRp_21 := Lib.hid hv21
          have NEp_L12 := Lib.hid (Far.ne hf21 (HT20.out.at 0 rfl).lt)
          clear hv21 hb21 hf21
          (try go_simp)
          refine hK.out _ _ ?_ (fun hHeld2 => ?_)
          · exact ⟨HT21.out.pr 3 rfl, HT21.out.pr 2 rfl⟩
          clear hK K hHeld
          have hHeld := hHeld2
          clear hHeld2
          (try simp only [Act.put, List.setIfInBounds_toArray, List.set_cons_zero, List.set_cons_succ])
          refine wpAnyH_ready (rs := [8]) (by kernel_rfl) (by simp) ?_
          refine held_cons rfl (fun K hK => ?_) AllReadyH.nil
          go_simp
          refine hK.out _ _ ?_ (fun hHeld2 => ?_)
          · exact ⟨(HT21.out.lay 26 [Value.int .i64 0, .slice none 0 0]).pr 4 rfl, (HT21.out.lay 26 [Value.int .i64 0, .slice none 0 0]).pr 3 rfl⟩
          clear hK K hHeld
          have hHeld := hHeld2
          clear hHeld2
          (try simp only [Act.put, List.setIfInBounds_toArray, List.set_cons_zero, List.set_cons_succ])
          have HT22 := Lib.hid (HT21.out.lay 26 [Value.int .i64 0, .slice none 0 0])
          have VRx_22 := Lib.hid (VRx_21.out.below (Below.new wt21 (.cells (List.toArray [Value.int .i64 0, .slice none 0 0]) 26)))
          have NEx_L11 := Lib.hid (VR.new_ne VRx_21.out HN.out.1)
          have VRy_22 := Lib.hid (VRy_21.out.below (Below.new wt21 (.cells (List.toArray [Value.int .i64 0, .slice none 0 0]) 26)))
          have NEy_L11 := Lib.hid (VR.new_ne VRy_21.out HN.out.1)
          have VRz_22 := Lib.hid (VRz_21.out.below (Below.new wt21 (.cells (List.toArray [Value.int .i64 0, .slice none 0 0]) 26)))
          have NEz_L11 := Lib.hid (VR.new_ne VRz_21.out HN.out.1)
          have VRs_22 := Lib.hid (VRs_21.out.below (Below.new wt21 (.cells (List.toArray [Value.int .i64 0, .slice none 0 0]) 26)))
          have NEs_L11 := Lib.hid (VR.new_ne VRs_21.out HN.out.1)
          have VRp_22 := Lib.hid (VRp_21.out.below (Below.new wt21 (.cells (List.toArray [Value.int .i64 0, .slice none 0 0]) 26)))
          have NEp_L11 := Lib.hid (VR.new_ne VRp_21.out HN.out.1)
          generalize wt21.alloc (.cells (List.toArray [Value.int .i64 0, .slice none 0 0]) 26) = wt22 at *
          generalize wt21.heap.size = L22 at *
          refine wpAnyH_ready (rs := [10]) (by kernel_rfl) (by simp) ?_
          refine held_cons rfl (fun K hK => ?_) AllReadyH.nil
          have r0 := (HT22.out.pr 0 rfl).1
          have r1 := (HT22.out.pr 0 rfl).2
          have f0 := (HT22.out.at 0 rfl).frz 0
          have f1 := (HT22.out.at 0 rfl).frz 1
          go_simp
          refine hK.out _ _ ?_ (fun hHeld2 => ?_)
          · exact ⟨(HT22.out.two 0 (x := .int .i64 n) (y := .slice p1 (wcount n) c1) rfl).pr 4 rfl, (HT22.out.two 0 (x := .int .i64 n) (y := .slice p1 (wcount n) c1) rfl).pr 3 rfl⟩
          clear hK K hHeld
          have hHeld := hHeld2
          clear hHeld2
          (try simp only [Act.put, List.setIfInBounds_toArray, List.set_cons_zero, List.set_cons_succ])
          have HT23 := Lib.hid (HT22.out.two 0 (x := .int .i64 n) (y := .slice p1 (wcount n) c1) rfl)
          have VRx_23 := Lib.hid (VRx_22.out.set2 (R := L22) (x1 := .int .i64 n) (y1 := .slice p1 (wcount n) c1) NEx_L11.out)
          have VRy_23 := Lib.hid (VRy_22.out.set2 (R := L22) (x1 := .int .i64 n) (y1 := .slice p1 (wcount n) c1) NEy_L11.out)
          have VRz_23 := Lib.hid (VRz_22.out.set2 (R := L22) (x1 := .int .i64 n) (y1 := .slice p1 (wcount n) c1) NEz_L11.out)
          have VRs_23 := Lib.hid (VRs_22.out.set2 (R := L22) (x1 := .int .i64 n) (y1 := .slice p1 (wcount n) c1) NEs_L11.out)
          have VRp_23 := Lib.hid (VRp_22.out.set2 (R := L22) (x1 := .int .i64 n) (y1 := .slice p1 (wcount n) c1) NEp_L11.out)
          clear r0 r1 f0 f1
          generalize (wt22.setCell ⟨L22, 0, none⟩ (.int .i64 n)).setCell ⟨L22, 1, none⟩ (.slice p1 (wcount n) c1) = wt23 at *
          refine wpAnyH_ready (rs := [11]) (by kernel_rfl) (by simp) ?_
          refine held_cons rfl (fun K hK => ?_) AllReadyH.nil
          have r0 := (HT23.out.pr 1 rfl).1
          have r1 := (HT23.out.pr 1 rfl).2
          have f0 := (HT23.out.at 1 rfl).frz 0
          have f1 := (HT23.out.at 1 rfl).frz 1
          go_simp
          refine hK.out _ _ ?_ (fun hHeld2 => ?_)
          · exact ⟨(HT23.out.two 1 (x := .int .i64 n) (y := .slice p21 (wcount n) c21) rfl).pr 4 rfl, (HT23.out.two 1 (x := .int .i64 n) (y := .slice p21 (wcount n) c21) rfl).pr 3 rfl⟩
          clear hK K hHeld
          have hHeld := hHeld2
          clear hHeld2
          (try simp only [Act.put, List.setIfInBounds_toArray, List.set_cons_zero, List.set_cons_succ])
          have HT24 := Lib.hid (HT23.out.two 1 (x := .int .i64 n) (y := .slice p21 (wcount n) c21) rfl)
          have VRx_24 := Lib.hid (VRx_23.out.set2 (R := L20) (x1 := .int .i64 n) (y1 := .slice p21 (wcount n) c21) NEx_L12.out)
          have VRy_24 := Lib.hid (VRy_23.out.set2 (R := L20) (x1 := .int .i64 n) (y1 := .slice p21 (wcount n) c21) NEy_L12.out)
          have VRz_24 := Lib.hid (VRz_23.out.set2 (R := L20) (x1 := .int .i64 n) (y1 := .slice p21 (wcount n) c21) NEz_L12.out)
          have VRs_24 := Lib.hid (VRs_23.out.set2 (R := L20) (x1 := .int .i64 n) (y1 := .slice p21 (wcount n) c21) NEs_L12.out)
          have VRp_24 := Lib.hid (VRp_23.out.set2 (R := L20) (x1 := .int .i64 n) (y1 := .slice p21 (wcount n) c21) NEp_L12.out)
          clear r0 r1 f0 f1
          generalize (wt23.setCell ⟨L20, 0, none⟩ (.int .i64 n)).setCell ⟨L20, 1, none⟩ (.slice p21 (wcount n) c21) = wt24 at *
          refine wpAnyH_done (by kernel_rfl) ?_ _
          go_wp2_with fail
          go_meet
          exact ⟨L22, L20, p1, c1, p21, c21, rfl, rfl, HT24.out.subs (by simp) (by have := HT24.out.nd; simp only [List.set_cons_zero, List.set_cons_succ, List.map_cons, List.map_nil, List.nodup_cons, List.mem_cons, List.not_mem_nil, or_false, not_or, not_false_eq_true, List.nodup_nil, and_true] at this ⊢; omega), VRx_24.out, VRy_24.out, VRz_24.out, VRs_24.out, VRp_24.out⟩
        refine held_cons rfl (fun K hK => ?_) ?_
        · go_simp
          refine hK.out _ _ ?_ (fun hHeld2 => ?_)
          · exact ⟨(HT20.out.lay 26 [Value.int .i64 0, .slice none 0 0]).pr 4 rfl, (HT20.out.lay 26 [Value.int .i64 0, .slice none 0 0]).pr 3 rfl⟩
          clear hK K hHeld
          have hHeld := hHeld2
          clear hHeld2
          (try simp only [Act.put, List.setIfInBounds_toArray, List.set_cons_zero, List.set_cons_succ])
          have HT25 := Lib.hid (HT20.out.lay 26 [Value.int .i64 0, .slice none 0 0])
          have VRx_25 := Lib.hid (VRx_20.out.below (Below.new wt20 (.cells (List.toArray [Value.int .i64 0, .slice none 0 0]) 26)))
          have NEx_L11 := Lib.hid (VR.new_ne VRx_20.out HN.out.1)
          have VRy_25 := Lib.hid (VRy_20.out.below (Below.new wt20 (.cells (List.toArray [Value.int .i64 0, .slice none 0 0]) 26)))
          have NEy_L11 := Lib.hid (VR.new_ne VRy_20.out HN.out.1)
          have VRz_25 := Lib.hid (VRz_20.out.below (Below.new wt20 (.cells (List.toArray [Value.int .i64 0, .slice none 0 0]) 26)))
          have NEz_L11 := Lib.hid (VR.new_ne VRz_20.out HN.out.1)
          have VRs_25 := Lib.hid (VRs_20.out.below (Below.new wt20 (.cells (List.toArray [Value.int .i64 0, .slice none 0 0]) 26)))
          have NEs_L11 := Lib.hid (VR.new_ne VRs_20.out HN.out.1)
          generalize wt20.alloc (.cells (List.toArray [Value.int .i64 0, .slice none 0 0]) 26) = wt25 at *
          generalize wt20.heap.size = L25 at *
          refine wpAnyH_ready (rs := [7]) (by kernel_rfl) (by simp) ?_
          refine held_cons rfl (fun K hK => ?_) AllReadyH.nil
          go_simp
          refine (op_any (k := 2) VRx_25.out VRy_25.out fun w' hb => bin_2 (VRx_25.out.below hb) (VRy_25.out.below hb) HN.out.1).mono ?_; rintro e wt26 ⟨v26, rfl, hv26, hb26, hf26⟩
          obtain ⟨p26, c26, rfl, _⟩ := hv26.ex
          have HT26 := Lib.hid (HT25.out.below hb26)
          have VRx_26 := Lib.hid (VRx_25.out.below hb26)
          have VRy_26 := Lib.hid (VRy_25.out.below hb26)
          have VRz_26 := Lib.hid (VRz_25.out.below hb26)
          have VRs_26 := Lib.hid (VRs_25.out.below hb26)
          have VRp_26 := Lib.hid hv26
          have NEp_L12 := Lib.hid (Far.ne hf26 (HT25.out.at 1 rfl).lt)
          have NEp_L11 := Lib.hid (Far.ne hf26 (HT25.out.at 0 rfl).lt)
          clear hv26 hb26 hf26
          (try go_simp)
          refine hK.out _ _ ?_ (fun hHeld2 => ?_)
          · exact ⟨HT26.out.pr 4 rfl, HT26.out.pr 3 rfl⟩
          clear hK K hHeld
          have hHeld := hHeld2
          clear hHeld2
          (try simp only [Act.put, List.setIfInBounds_toArray, List.set_cons_zero, List.set_cons_succ])
          refine wpAnyH_ready (rs := [10]) (by kernel_rfl) (by simp) ?_
          refine held_cons rfl (fun K hK => ?_) AllReadyH.nil
          have r0 := (HT26.out.pr 0 rfl).1
          have r1 := (HT26.out.pr 0 rfl).2
          have f0 := (HT26.out.at 0 rfl).frz 0
          have f1 := (HT26.out.at 0 rfl).frz 1
          go_simp
          refine hK.out _ _ ?_ (fun hHeld2 => ?_)
          · exact ⟨(HT26.out.two 0 (x := .int .i64 n) (y := .slice p1 (wcount n) c1) rfl).pr 4 rfl, (HT26.out.two 0 (x := .int .i64 n) (y := .slice p1 (wcount n) c1) rfl).pr 3 rfl⟩
          clear hK K hHeld
          have hHeld := hHeld2
          clear hHeld2
          (try simp only [Act.put, List.setIfInBounds_toArray, List.set_cons_zero, List.set_cons_succ])
          have HT27 := Lib.hid (HT26.out.two 0 (x := .int .i64 n) (y := .slice p1 (wcount n) c1) rfl)
          have VRx_27 := Lib.hid (VRx_26.out.set2 (R := L25) (x1 := .int .i64 n) (y1 := .slice p1 (wcount n) c1) NEx_L11.out)
          have VRy_27 := Lib.hid (VRy_26.out.set2 (R := L25) (x1 := .int .i64 n) (y1 := .slice p1 (wcount n) c1) NEy_L11.out)
          have VRz_27 := Lib.hid (VRz_26.out.set2 (R := L25) (x1 := .int .i64 n) (y1 := .slice p1 (wcount n) c1) NEz_L11.out)
          have VRs_27 := Lib.hid (VRs_26.out.set2 (R := L25) (x1 := .int .i64 n) (y1 := .slice p1 (wcount n) c1) NEs_L11.out)
          have VRp_27 := Lib.hid (VRp_26.out.set2 (R := L25) (x1 := .int .i64 n) (y1 := .slice p1 (wcount n) c1) NEp_L11.out)
          clear r0 r1 f0 f1
          generalize (wt26.setCell ⟨L25, 0, none⟩ (.int .i64 n)).setCell ⟨L25, 1, none⟩ (.slice p1 (wcount n) c1) = wt27 at *
          refine wpAnyH_ready (rs := [11]) (by kernel_rfl) (by simp) ?_
          refine held_cons rfl (fun K hK => ?_) AllReadyH.nil
          have r0 := (HT27.out.pr 1 rfl).1
          have r1 := (HT27.out.pr 1 rfl).2
          have f0 := (HT27.out.at 1 rfl).frz 0
          have f1 := (HT27.out.at 1 rfl).frz 1
          go_simp
          refine hK.out _ _ ?_ (fun hHeld2 => ?_)
          · exact ⟨(HT27.out.two 1 (x := .int .i64 n) (y := .slice p26 (wcount n) c26) rfl).pr 4 rfl, (HT27.out.two 1 (x := .int .i64 n) (y := .slice p26 (wcount n) c26) rfl).pr 3 rfl⟩
          clear hK K hHeld
          have hHeld := hHeld2
          clear hHeld2
          (try simp only [Act.put, List.setIfInBounds_toArray, List.set_cons_zero, List.set_cons_succ])
          have HT28 := Lib.hid (HT27.out.two 1 (x := .int .i64 n) (y := .slice p26 (wcount n) c26) rfl)
          have VRx_28 := Lib.hid (VRx_27.out.set2 (R := L20) (x1 := .int .i64 n) (y1 := .slice p26 (wcount n) c26) NEx_L12.out)
          have VRy_28 := Lib.hid (VRy_27.out.set2 (R := L20) (x1 := .int .i64 n) (y1 := .slice p26 (wcount n) c26) NEy_L12.out)
          have VRz_28 := Lib.hid (VRz_27.out.set2 (R := L20) (x1 := .int .i64 n) (y1 := .slice p26 (wcount n) c26) NEz_L12.out)
          have VRs_28 := Lib.hid (VRs_27.out.set2 (R := L20) (x1 := .int .i64 n) (y1 := .slice p26 (wcount n) c26) NEs_L12.out)
          have VRp_28 := Lib.hid (VRp_27.out.set2 (R := L20) (x1 := .int .i64 n) (y1 := .slice p26 (wcount n) c26) NEp_L12.out)
          clear r0 r1 f0 f1
          generalize (wt27.setCell ⟨L20, 0, none⟩ (.int .i64 n)).setCell ⟨L20, 1, none⟩ (.slice p26 (wcount n) c26) = wt28 at *
          refine wpAnyH_done (by kernel_rfl) ?_ _
          go_wp2_with fail
          go_meet
          exact ⟨L25, L20, p1, c1, p26, c26, rfl, rfl, HT28.out.subs (by simp) (by have := HT28.out.nd; simp only [List.set_cons_zero, List.set_cons_succ, List.map_cons, List.map_nil, List.nodup_cons, List.mem_cons, List.not_mem_nil, or_false, not_or, not_false_eq_true, List.nodup_nil, and_true] at this ⊢; omega), VRx_28.out, VRy_28.out, VRz_28.out, VRs_28.out, VRp_28.out⟩
        exact AllReadyH.nil
      exact AllReadyH.nil
    refine held_cons rfl (fun K hK => ?_) ?_
    · go_simp
      refine hK.out _ _ ?_ (fun hHeld2 => ?_)
      · exact ⟨(HT0.out.lay 26 [Value.int .i64 0, .slice none 0 0]).pr 3 rfl, (HT0.out.lay 26 [Value.int .i64 0, .slice none 0 0]).pr 2 rfl⟩
      clear hK K hHeld
      have hHeld := hHeld2
      clear hHeld2
      (try simp only [Act.put, List.setIfInBounds_toArray, List.set_cons_zero, List.set_cons_succ])
      have HT29 := Lib.hid (HT0.out.lay 26 [Value.int .i64 0, .slice none 0 0])
      have VRx_29 := Lib.hid (VRx.out.below (Below.new D (.cells (List.toArray [Value.int .i64 0, .slice none 0 0]) 26)))
      have NEx_L11 := Lib.hid (VR.new_ne VRx.out HN.out.1)
      have VRy_29 := Lib.hid (VRy.out.below (Below.new D (.cells (List.toArray [Value.int .i64 0, .slice none 0 0]) 26)))
      have NEy_L11 := Lib.hid (VR.new_ne VRy.out HN.out.1)
      have VRz_29 := Lib.hid (VRz.out.below (Below.new D (.cells (List.toArray [Value.int .i64 0, .slice none 0 0]) 26)))
      have NEz_L11 := Lib.hid (VR.new_ne VRz.out HN.out.1)
      generalize D.alloc (.cells (List.toArray [Value.int .i64 0, .slice none 0 0]) 26) = wt29 at *
      generalize D.heap.size = L29 at *
      refine wpAnyH_ready (rs := [3, 9]) (by kernel_rfl) (by simp) ?_
      refine held_cons rfl (fun K hK => ?_) ?_
      · go_simp
        refine (op_any (k := 0) VRx_29.out VRy_29.out fun w' hb => bin_0 (VRx_29.out.below hb) (VRy_29.out.below hb) HN.out.1).mono ?_; rintro e wt30 ⟨v30, rfl, hv30, hb30, hf30⟩
        obtain ⟨p30, c30, rfl, _⟩ := hv30.ex
        have HT30 := Lib.hid (HT29.out.below hb30)
        have VRx_30 := Lib.hid (VRx_29.out.below hb30)
        have VRy_30 := Lib.hid (VRy_29.out.below hb30)
        have VRz_30 := Lib.hid (VRz_29.out.below hb30)
        have VRs_30 := Lib.hid hv30
        have NEs_L11 := Lib.hid (Far.ne hf30 (HT29.out.at 0 rfl).lt)
        clear hv30 hb30 hf30
        (try go_simp)
        refine hK.out _ _ ?_ (fun hHeld2 => ?_)
        · exact ⟨HT30.out.pr 3 rfl, HT30.out.pr 2 rfl⟩
        clear hK K hHeld
        have hHeld := hHeld2
        clear hHeld2
        (try simp only [Act.put, List.setIfInBounds_toArray, List.set_cons_zero, List.set_cons_succ])
        refine wpAnyH_ready (rs := [7, 9]) (by kernel_rfl) (by simp) ?_
        refine held_cons rfl (fun K hK => ?_) ?_
        · go_simp
          refine (op_any (k := 2) VRx_30.out VRy_30.out fun w' hb => bin_2 (VRx_30.out.below hb) (VRy_30.out.below hb) HN.out.1).mono ?_; rintro e wt31 ⟨v31, rfl, hv31, hb31, hf31⟩
          obtain ⟨p31, c31, rfl, _⟩ := hv31.ex
          have HT31 := Lib.hid (HT30.out.below hb31)
          have VRx_31 := Lib.hid (VRx_30.out.below hb31)
          have VRy_31 := Lib.hid (VRy_30.out.below hb31)
          have VRz_31 := Lib.hid (VRz_30.out.below hb31)
          have VRs_31 := Lib.hid (VRs_30.out.below hb31)
          have VRp_31 := Lib.hid hv31
          have NEp_L11 := Lib.hid (Far.ne hf31 (HT30.out.at 0 rfl).lt)
          clear hv31 hb31 hf31
          (try go_simp)
          refine hK.out _ _ ?_ (fun hHeld2 => ?_)
          · exact ⟨HT31.out.pr 3 rfl, HT31.out.pr 2 rfl⟩
          clear hK K hHeld
          have hHeld := hHeld2
          clear hHeld2
          (try simp only [Act.put, List.setIfInBounds_toArray, List.set_cons_zero, List.set_cons_succ])
          refine wpAnyH_ready (rs := [9]) (by kernel_rfl) (by simp) ?_
          refine held_cons rfl (fun K hK => ?_) AllReadyH.nil
          go_simp
          refine hK.out _ _ ?_ (fun hHeld2 => ?_)
          · exact ⟨(HT31.out.lay 26 [Value.int .i64 0, .slice none 0 0]).pr 4 rfl, (HT31.out.lay 26 [Value.int .i64 0, .slice none 0 0]).pr 3 rfl⟩
          clear hK K hHeld
          have hHeld := hHeld2
          clear hHeld2
          (try simp only [Act.put, List.setIfInBounds_toArray, List.set_cons_zero, List.set_cons_succ])
          have HT32 := Lib.hid (HT31.out.lay 26 [Value.int .i64 0, .slice none 0 0])
          have VRx_32 := Lib.hid (VRx_31.out.below (Below.new wt31 (.cells (List.toArray [Value.int .i64 0, .slice none 0 0]) 26)))
          have NEx_L12 := Lib.hid (VR.new_ne VRx_31.out HN.out.1)
          have VRy_32 := Lib.hid (VRy_31.out.below (Below.new wt31 (.cells (List.toArray [Value.int .i64 0, .slice none 0 0]) 26)))
          have NEy_L12 := Lib.hid (VR.new_ne VRy_31.out HN.out.1)
          have VRz_32 := Lib.hid (VRz_31.out.below (Below.new wt31 (.cells (List.toArray [Value.int .i64 0, .slice none 0 0]) 26)))
          have NEz_L12 := Lib.hid (VR.new_ne VRz_31.out HN.out.1)
          have VRs_32 := Lib.hid (VRs_31.out.below (Below.new wt31 (.cells (List.toArray [Value.int .i64 0, .slice none 0 0]) 26)))
          have NEs_L12 := Lib.hid (VR.new_ne VRs_31.out HN.out.1)
          have VRp_32 := Lib.hid (VRp_31.out.below (Below.new wt31 (.cells (List.toArray [Value.int .i64 0, .slice none 0 0]) 26)))
          have NEp_L12 := Lib.hid (VR.new_ne VRp_31.out HN.out.1)
          generalize wt31.alloc (.cells (List.toArray [Value.int .i64 0, .slice none 0 0]) 26) = wt32 at *
          generalize wt31.heap.size = L32 at *
          refine wpAnyH_ready (rs := [10]) (by kernel_rfl) (by simp) ?_
          refine held_cons rfl (fun K hK => ?_) AllReadyH.nil
          have r0 := (HT32.out.pr 1 rfl).1
          have r1 := (HT32.out.pr 1 rfl).2
          have f0 := (HT32.out.at 1 rfl).frz 0
          have f1 := (HT32.out.at 1 rfl).frz 1
          go_simp
          refine hK.out _ _ ?_ (fun hHeld2 => ?_)
          · exact ⟨(HT32.out.two 1 (x := .int .i64 n) (y := .slice p30 (wcount n) c30) rfl).pr 4 rfl, (HT32.out.two 1 (x := .int .i64 n) (y := .slice p30 (wcount n) c30) rfl).pr 3 rfl⟩
          clear hK K hHeld
          have hHeld := hHeld2
          clear hHeld2
          (try simp only [Act.put, List.setIfInBounds_toArray, List.set_cons_zero, List.set_cons_succ])
          have HT33 := Lib.hid (HT32.out.two 1 (x := .int .i64 n) (y := .slice p30 (wcount n) c30) rfl)
          have VRx_33 := Lib.hid (VRx_32.out.set2 (R := L29) (x1 := .int .i64 n) (y1 := .slice p30 (wcount n) c30) NEx_L11.out)
          have VRy_33 := Lib.hid (VRy_32.out.set2 (R := L29) (x1 := .int .i64 n) (y1 := .slice p30 (wcount n) c30) NEy_L11.out)
          have VRz_33 := Lib.hid (VRz_32.out.set2 (R := L29) (x1 := .int .i64 n) (y1 := .slice p30 (wcount n) c30) NEz_L11.out)
          have VRs_33 := Lib.hid (VRs_32.out.set2 (R := L29) (x1 := .int .i64 n) (y1 := .slice p30 (wcount n) c30) NEs_L11.out)
          have VRp_33 := Lib.hid (VRp_32.out.set2 (R := L29) (x1 := .int .i64 n) (y1 := .slice p30 (wcount n) c30) NEp_L11.out)
          clear r0 r1 f0 f1
          generalize (wt32.setCell ⟨L29, 0, none⟩ (.int .i64 n)).setCell ⟨L29, 1, none⟩ (.slice p30 (wcount n) c30) = wt33 at *
          refine wpAnyH_ready (rs := [11]) (by kernel_rfl) (by simp) ?_
          refine held_cons rfl (fun K hK => ?_) AllReadyH.nil
          have r0 := (HT33.out.pr 0 rfl).1
          have r1 := (HT33.out.pr 0 rfl).2
          have f0 := (HT33.out.at 0 rfl).frz 0
          have f1 := (HT33.out.at 0 rfl).frz 1
          go_simp
          refine hK.out _ _ ?_ (fun hHeld2 => ?_)
          · exact ⟨(HT33.out.two 0 (x := .int .i64 n) (y := .slice p31 (wcount n) c31) rfl).pr 4 rfl, (HT33.out.two 0 (x := .int .i64 n) (y := .slice p31 (wcount n) c31) rfl).pr 3 rfl⟩
          clear hK K hHeld
          have hHeld := hHeld2
          clear hHeld2
          (try simp only [Act.put, List.setIfInBounds_toArray, List.set_cons_zero, List.set_cons_succ])
          have HT34 := Lib.hid (HT33.out.two 0 (x := .int .i64 n) (y := .slice p31 (wcount n) c31) rfl)
          have VRx_34 := Lib.hid (VRx_33.out.set2 (R := L32) (x1 := .int .i64 n) (y1 := .slice p31 (wcount n) c31) NEx_L12.out)
          have VRy_34 := Lib.hid (VRy_33.out.set2 (R := L32) (x1 := .int .i64 n) (y1 := .slice p31 (wcount n) c31) NEy_L12.out)
          have VRz_34 := Lib.hid (VRz_33.out.set2 (R := L32) (x1 := .int .i64 n) (y1 := .slice p31 (wcount n) c31) NEz_L12.out)
          have VRs_34 := Lib.hid (VRs_33.out.set2 (R := L32) (x1 := .int .i64 n) (y1 := .slice p31 (wcount n) c31) NEs_L12.out)
          have VRp_34 := Lib.hid (VRp_33.out.set2 (R := L32) (x1 := .int .i64 n) (y1 := .slice p31 (wcount n) c31) NEp_L12.out)
          clear r0 r1 f0 f1
          generalize (wt33.setCell ⟨L32, 0, none⟩ (.int .i64 n)).setCell ⟨L32, 1, none⟩ (.slice p31 (wcount n) c31) = wt34 at *
          refine wpAnyH_done (by kernel_rfl) ?_ _
          go_wp2_with fail
          go_meet
          exact ⟨L29, L32, p30, c30, p31, c31, rfl, rfl, HT34.out.subs (by simp) (by have := HT34.out.nd; simp only [List.set_cons_zero, List.set_cons_succ, List.map_cons, List.map_nil, List.nodup_cons, List.mem_cons, List.not_mem_nil, or_false, not_or, not_false_eq_true, List.nodup_nil, and_true] at this ⊢; omega), VRx_34.out, VRy_34.out, VRz_34.out, VRs_34.out, VRp_34.out⟩
        refine held_cons rfl (fun K hK => ?_) ?_
        · go_simp
          refine hK.out _ _ ?_ (fun hHeld2 => ?_)
          · exact ⟨(HT30.out.lay 26 [Value.int .i64 0, .slice none 0 0]).pr 4 rfl, (HT30.out.lay 26 [Value.int .i64 0, .slice none 0 0]).pr 3 rfl⟩
          clear hK K hHeld
          have hHeld := hHeld2
          clear hHeld2
          (try simp only [Act.put, List.setIfInBounds_toArray, List.set_cons_zero, List.set_cons_succ])
          have HT35 := Lib.hid (HT30.out.lay 26 [Value.int .i64 0, .slice none 0 0])
          have VRx_35 := Lib.hid (VRx_30.out.below (Below.new wt30 (.cells (List.toArray [Value.int .i64 0, .slice none 0 0]) 26)))
          have NEx_L12 := Lib.hid (VR.new_ne VRx_30.out HN.out.1)
          have VRy_35 := Lib.hid (VRy_30.out.below (Below.new wt30 (.cells (List.toArray [Value.int .i64 0, .slice none 0 0]) 26)))
          have NEy_L12 := Lib.hid (VR.new_ne VRy_30.out HN.out.1)
          have VRz_35 := Lib.hid (VRz_30.out.below (Below.new wt30 (.cells (List.toArray [Value.int .i64 0, .slice none 0 0]) 26)))
          have NEz_L12 := Lib.hid (VR.new_ne VRz_30.out HN.out.1)
          have VRs_35 := Lib.hid (VRs_30.out.below (Below.new wt30 (.cells (List.toArray [Value.int .i64 0, .slice none 0 0]) 26)))
          have NEs_L12 := Lib.hid (VR.new_ne VRs_30.out HN.out.1)
          generalize wt30.alloc (.cells (List.toArray [Value.int .i64 0, .slice none 0 0]) 26) = wt35 at *
          generalize wt30.heap.size = L35 at *
          refine wpAnyH_ready (rs := [7]) (by kernel_rfl) (by simp) ?_
          refine held_cons rfl (fun K hK => ?_) AllReadyH.nil
          go_simp
          refine (op_any (k := 2) VRx_35.out VRy_35.out fun w' hb => bin_2 (VRx_35.out.below hb) (VRy_35.out.below hb) HN.out.1).mono ?_; rintro e wt36 ⟨v36, rfl, hv36, hb36, hf36⟩
          obtain ⟨p36, c36, rfl, _⟩ := hv36.ex
          have HT36 := Lib.hid (HT35.out.below hb36)
          have VRx_36 := Lib.hid (VRx_35.out.below hb36)
          have VRy_36 := Lib.hid (VRy_35.out.below hb36)
          have VRz_36 := Lib.hid (VRz_35.out.below hb36)
          have VRs_36 := Lib.hid (VRs_35.out.below hb36)
          have VRp_36 := Lib.hid hv36
          have NEp_L11 := Lib.hid (Far.ne hf36 (HT35.out.at 1 rfl).lt)
          have NEp_L12 := Lib.hid (Far.ne hf36 (HT35.out.at 0 rfl).lt)
          clear hv36 hb36 hf36
          (try go_simp)
          refine hK.out _ _ ?_ (fun hHeld2 => ?_)
          · exact ⟨HT36.out.pr 4 rfl, HT36.out.pr 3 rfl⟩
          clear hK K hHeld
          have hHeld := hHeld2
          clear hHeld2
          (try simp only [Act.put, List.setIfInBounds_toArray, List.set_cons_zero, List.set_cons_succ])
          refine wpAnyH_ready (rs := [10]) (by kernel_rfl) (by simp) ?_
          refine held_cons rfl (fun K hK => ?_) AllReadyH.nil
          have r0 := (HT36.out.pr 1 rfl).1
          have r1 := (HT36.out.pr 1 rfl).2
          have f0 := (HT36.out.at 1 rfl).frz 0
          have f1 := (HT36.out.at 1 rfl).frz 1
          go_simp
          refine hK.out _ _ ?_ (fun hHeld2 => ?_)
          · exact ⟨(HT36.out.two 1 (x := .int .i64 n) (y := .slice p30 (wcount n) c30) rfl).pr 4 rfl, (HT36.out.two 1 (x := .int .i64 n) (y := .slice p30 (wcount n) c30) rfl).pr 3 rfl⟩
          clear hK K hHeld
          have hHeld := hHeld2
          clear hHeld2
          (try simp only [Act.put, List.setIfInBounds_toArray, List.set_cons_zero, List.set_cons_succ])
          have HT37 := Lib.hid (HT36.out.two 1 (x := .int .i64 n) (y := .slice p30 (wcount n) c30) rfl)
          have VRx_37 := Lib.hid (VRx_36.out.set2 (R := L29) (x1 := .int .i64 n) (y1 := .slice p30 (wcount n) c30) NEx_L11.out)
          have VRy_37 := Lib.hid (VRy_36.out.set2 (R := L29) (x1 := .int .i64 n) (y1 := .slice p30 (wcount n) c30) NEy_L11.out)
          have VRz_37 := Lib.hid (VRz_36.out.set2 (R := L29) (x1 := .int .i64 n) (y1 := .slice p30 (wcount n) c30) NEz_L11.out)
          have VRs_37 := Lib.hid (VRs_36.out.set2 (R := L29) (x1 := .int .i64 n) (y1 := .slice p30 (wcount n) c30) NEs_L11.out)
          have VRp_37 := Lib.hid (VRp_36.out.set2 (R := L29) (x1 := .int .i64 n) (y1 := .slice p30 (wcount n) c30) NEp_L11.out)
          clear r0 r1 f0 f1
          generalize (wt36.setCell ⟨L29, 0, none⟩ (.int .i64 n)).setCell ⟨L29, 1, none⟩ (.slice p30 (wcount n) c30) = wt37 at *
          refine wpAnyH_ready (rs := [11]) (by kernel_rfl) (by simp) ?_
          refine held_cons rfl (fun K hK => ?_) AllReadyH.nil
          have r0 := (HT37.out.pr 0 rfl).1
          have r1 := (HT37.out.pr 0 rfl).2
          have f0 := (HT37.out.at 0 rfl).frz 0
          have f1 := (HT37.out.at 0 rfl).frz 1
          go_simp
          refine hK.out _ _ ?_ (fun hHeld2 => ?_)
          · exact ⟨(HT37.out.two 0 (x := .int .i64 n) (y := .slice p36 (wcount n) c36) rfl).pr 4 rfl, (HT37.out.two 0 (x := .int .i64 n) (y := .slice p36 (wcount n) c36) rfl).pr 3 rfl⟩
          clear hK K hHeld
          have hHeld := hHeld2
          clear hHeld2
          (try simp only [Act.put, List.setIfInBounds_toArray, List.set_cons_zero, List.set_cons_succ])
          have HT38 := Lib.hid (HT37.out.two 0 (x := .int .i64 n) (y := .slice p36 (wcount n) c36) rfl)
          have VRx_38 := Lib.hid (VRx_37.out.set2 (R := L35) (x1 := .int .i64 n) (y1 := .slice p36 (wcount n) c36) NEx_L12.out)
          have VRy_38 := Lib.hid (VRy_37.out.set2 (R := L35) (x1 := .int .i64 n) (y1 := .slice p36 (wcount n) c36) NEy_L12.out)
          have VRz_38 := Lib.hid (VRz_37.out.set2 (R := L35) (x1 := .int .i64 n) (y1 := .slice p36 (wcount n) c36) NEz_L12.out)
          have VRs_38 := Lib.hid (VRs_37.out.set2 (R := L35) (x1 := .int .i64 n) (y1 := .slice p36 (wcount n) c36) NEs_L12.out)
          have VRp_38 := Lib.hid (VRp_37.out.set2 (R := L35) (x1 := .int .i64 n) (y1 := .slice p36 (wcount n) c36) NEp_L12.out)
          clear r0 r1 f0 f1
          generalize (wt37.setCell ⟨L35, 0, none⟩ (.int .i64 n)).setCell ⟨L35, 1, none⟩ (.slice p36 (wcount n) c36) = wt38 at *
          refine wpAnyH_done (by kernel_rfl) ?_ _
          go_wp2_with fail
          go_meet
          exact ⟨L29, L35, p30, c30, p36, c36, rfl, rfl, HT38.out.subs (by simp) (by have := HT38.out.nd; simp only [List.set_cons_zero, List.set_cons_succ, List.map_cons, List.map_nil, List.nodup_cons, List.mem_cons, List.not_mem_nil, or_false, not_or, not_false_eq_true, List.nodup_nil, and_true] at this ⊢; omega), VRx_38.out, VRy_38.out, VRz_38.out, VRs_38.out, VRp_38.out⟩
        exact AllReadyH.nil
      refine held_cons rfl (fun K hK => ?_) ?_
      · go_simp
        refine hK.out _ _ ?_ (fun hHeld2 => ?_)
        · exact ⟨(HT29.out.lay 26 [Value.int .i64 0, .slice none 0 0]).pr 4 rfl, (HT29.out.lay 26 [Value.int .i64 0, .slice none 0 0]).pr 3 rfl⟩
        clear hK K hHeld
        have hHeld := hHeld2
        clear hHeld2
        (try simp only [Act.put, List.setIfInBounds_toArray, List.set_cons_zero, List.set_cons_succ])
        have HT39 := Lib.hid (HT29.out.lay 26 [Value.int .i64 0, .slice none 0 0])
        have VRx_39 := Lib.hid (VRx_29.out.below (Below.new wt29 (.cells (List.toArray [Value.int .i64 0, .slice none 0 0]) 26)))
        have NEx_L12 := Lib.hid (VR.new_ne VRx_29.out HN.out.1)
        have VRy_39 := Lib.hid (VRy_29.out.below (Below.new wt29 (.cells (List.toArray [Value.int .i64 0, .slice none 0 0]) 26)))
        have NEy_L12 := Lib.hid (VR.new_ne VRy_29.out HN.out.1)
        have VRz_39 := Lib.hid (VRz_29.out.below (Below.new wt29 (.cells (List.toArray [Value.int .i64 0, .slice none 0 0]) 26)))
        have NEz_L12 := Lib.hid (VR.new_ne VRz_29.out HN.out.1)
        generalize wt29.alloc (.cells (List.toArray [Value.int .i64 0, .slice none 0 0]) 26) = wt39 at *
        generalize wt29.heap.size = L39 at *
        refine wpAnyH_ready (rs := [3]) (by kernel_rfl) (by simp) ?_
        refine held_cons rfl (fun K hK => ?_) AllReadyH.nil
        go_simp
        refine (op_any (k := 0) VRx_39.out VRy_39.out fun w' hb => bin_0 (VRx_39.out.below hb) (VRy_39.out.below hb) HN.out.1).mono ?_; rintro e wt40 ⟨v40, rfl, hv40, hb40, hf40⟩
        obtain ⟨p40, c40, rfl, _⟩ := hv40.ex
        have HT40 := Lib.hid (HT39.out.below hb40)
        have VRx_40 := Lib.hid (VRx_39.out.below hb40)
        have VRy_40 := Lib.hid (VRy_39.out.below hb40)
        have VRz_40 := Lib.hid (VRz_39.out.below hb40)
        have VRs_40 := Lib.hid hv40
        have NEs_L11 := Lib.hid (Far.ne hf40 (HT39.out.at 1 rfl).lt)
        have NEs_L12 := Lib.hid (Far.ne hf40 (HT39.out.at 0 rfl).lt)
        clear hv40 hb40 hf40
        (try go_simp)
        refine hK.out _ _ ?_ (fun hHeld2 => ?_)
        · exact ⟨HT40.out.pr 4 rfl, HT40.out.pr 3 rfl⟩
        clear hK K hHeld
        have hHeld := hHeld2
        clear hHeld2
        (try simp only [Act.put, List.setIfInBounds_toArray, List.set_cons_zero, List.set_cons_succ])
        refine wpAnyH_ready (rs := [7]) (by kernel_rfl) (by simp) ?_
        refine held_cons rfl (fun K hK => ?_) AllReadyH.nil
        go_simp
        refine (op_any (k := 2) VRx_40.out VRy_40.out fun w' hb => bin_2 (VRx_40.out.below hb) (VRy_40.out.below hb) HN.out.1).mono ?_; rintro e wt41 ⟨v41, rfl, hv41, hb41, hf41⟩
        obtain ⟨p41, c41, rfl, _⟩ := hv41.ex
        have HT41 := Lib.hid (HT40.out.below hb41)
        have VRx_41 := Lib.hid (VRx_40.out.below hb41)
        have VRy_41 := Lib.hid (VRy_40.out.below hb41)
        have VRz_41 := Lib.hid (VRz_40.out.below hb41)
        have VRs_41 := Lib.hid (VRs_40.out.below hb41)
        have VRp_41 := Lib.hid hv41
        have NEp_L11 := Lib.hid (Far.ne hf41 (HT40.out.at 1 rfl).lt)
        have NEp_L12 := Lib.hid (Far.ne hf41 (HT40.out.at 0 rfl).lt)
        clear hv41 hb41 hf41
        (try go_simp)
        refine hK.out _ _ ?_ (fun hHeld2 => ?_)
        · exact ⟨HT41.out.pr 4 rfl, HT41.out.pr 3 rfl⟩
        clear hK K hHeld
        have hHeld := hHeld2
        clear hHeld2
        (try simp only [Act.put, List.setIfInBounds_toArray, List.set_cons_zero, List.set_cons_succ])
        refine wpAnyH_ready (rs := [10]) (by kernel_rfl) (by simp) ?_
        refine held_cons rfl (fun K hK => ?_) AllReadyH.nil
        have r0 := (HT41.out.pr 1 rfl).1
        have r1 := (HT41.out.pr 1 rfl).2
        have f0 := (HT41.out.at 1 rfl).frz 0
        have f1 := (HT41.out.at 1 rfl).frz 1
        go_simp
        refine hK.out _ _ ?_ (fun hHeld2 => ?_)
        · exact ⟨(HT41.out.two 1 (x := .int .i64 n) (y := .slice p40 (wcount n) c40) rfl).pr 4 rfl, (HT41.out.two 1 (x := .int .i64 n) (y := .slice p40 (wcount n) c40) rfl).pr 3 rfl⟩
        clear hK K hHeld
        have hHeld := hHeld2
        clear hHeld2
        (try simp only [Act.put, List.setIfInBounds_toArray, List.set_cons_zero, List.set_cons_succ])
        have HT42 := Lib.hid (HT41.out.two 1 (x := .int .i64 n) (y := .slice p40 (wcount n) c40) rfl)
        have VRx_42 := Lib.hid (VRx_41.out.set2 (R := L29) (x1 := .int .i64 n) (y1 := .slice p40 (wcount n) c40) NEx_L11.out)
        have VRy_42 := Lib.hid (VRy_41.out.set2 (R := L29) (x1 := .int .i64 n) (y1 := .slice p40 (wcount n) c40) NEy_L11.out)
        have VRz_42 := Lib.hid (VRz_41.out.set2 (R := L29) (x1 := .int .i64 n) (y1 := .slice p40 (wcount n) c40) NEz_L11.out)
        have VRs_42 := Lib.hid (VRs_41.out.set2 (R := L29) (x1 := .int .i64 n) (y1 := .slice p40 (wcount n) c40) NEs_L11.out)
        have VRp_42 := Lib.hid (VRp_41.out.set2 (R := L29) (x1 := .int .i64 n) (y1 := .slice p40 (wcount n) c40) NEp_L11.out)
        clear r0 r1 f0 f1
        generalize (wt41.setCell ⟨L29, 0, none⟩ (.int .i64 n)).setCell ⟨L29, 1, none⟩ (.slice p40 (wcount n) c40) = wt42 at *
        refine wpAnyH_ready (rs := [11]) (by kernel_rfl) (by simp) ?_
        refine held_cons rfl (fun K hK => ?_) AllReadyH.nil
        have r0 := (HT42.out.pr 0 rfl).1
        have r1 := (HT42.out.pr 0 rfl).2
        have f0 := (HT42.out.at 0 rfl).frz 0
        have f1 := (HT42.out.at 0 rfl).frz 1
        go_simp
        refine hK.out _ _ ?_ (fun hHeld2 => ?_)
        · exact ⟨(HT42.out.two 0 (x := .int .i64 n) (y := .slice p41 (wcount n) c41) rfl).pr 4 rfl, (HT42.out.two 0 (x := .int .i64 n) (y := .slice p41 (wcount n) c41) rfl).pr 3 rfl⟩
        clear hK K hHeld
        have hHeld := hHeld2
        clear hHeld2
        (try simp only [Act.put, List.setIfInBounds_toArray, List.set_cons_zero, List.set_cons_succ])
        have HT43 := Lib.hid (HT42.out.two 0 (x := .int .i64 n) (y := .slice p41 (wcount n) c41) rfl)
        have VRx_43 := Lib.hid (VRx_42.out.set2 (R := L39) (x1 := .int .i64 n) (y1 := .slice p41 (wcount n) c41) NEx_L12.out)
        have VRy_43 := Lib.hid (VRy_42.out.set2 (R := L39) (x1 := .int .i64 n) (y1 := .slice p41 (wcount n) c41) NEy_L12.out)
        have VRz_43 := Lib.hid (VRz_42.out.set2 (R := L39) (x1 := .int .i64 n) (y1 := .slice p41 (wcount n) c41) NEz_L12.out)
        have VRs_43 := Lib.hid (VRs_42.out.set2 (R := L39) (x1 := .int .i64 n) (y1 := .slice p41 (wcount n) c41) NEs_L12.out)
        have VRp_43 := Lib.hid (VRp_42.out.set2 (R := L39) (x1 := .int .i64 n) (y1 := .slice p41 (wcount n) c41) NEp_L12.out)
        clear r0 r1 f0 f1
        generalize (wt42.setCell ⟨L39, 0, none⟩ (.int .i64 n)).setCell ⟨L39, 1, none⟩ (.slice p41 (wcount n) c41) = wt43 at *
        refine wpAnyH_done (by kernel_rfl) ?_ _
        go_wp2_with fail
        go_meet
        exact ⟨L29, L39, p40, c40, p41, c41, rfl, rfl, HT43.out.subs (by simp) (by have := HT43.out.nd; simp only [List.set_cons_zero, List.set_cons_succ, List.map_cons, List.map_nil, List.nodup_cons, List.mem_cons, List.not_mem_nil, or_false, not_or, not_false_eq_true, List.nodup_nil, and_true] at this ⊢; omega), VRx_43.out, VRy_43.out, VRz_43.out, VRs_43.out, VRp_43.out⟩
      exact AllReadyH.nil
    refine held_cons rfl (fun K hK => ?_) ?_
    · go_simp
      refine hK.out _ _ ?_ (fun hHeld2 => ?_)
      · exact ⟨(HT0.out.lay 26 [Value.int .i64 0, .slice none 0 0]).pr 3 rfl, (HT0.out.lay 26 [Value.int .i64 0, .slice none 0 0]).pr 2 rfl⟩
      clear hK K hHeld
      have hHeld := hHeld2
      clear hHeld2
      (try simp only [Act.put, List.setIfInBounds_toArray, List.set_cons_zero, List.set_cons_succ])
      have HT44 := Lib.hid (HT0.out.lay 26 [Value.int .i64 0, .slice none 0 0])
      have VRx_44 := Lib.hid (VRx.out.below (Below.new D (.cells (List.toArray [Value.int .i64 0, .slice none 0 0]) 26)))
      have NEx_L12 := Lib.hid (VR.new_ne VRx.out HN.out.1)
      have VRy_44 := Lib.hid (VRy.out.below (Below.new D (.cells (List.toArray [Value.int .i64 0, .slice none 0 0]) 26)))
      have NEy_L12 := Lib.hid (VR.new_ne VRy.out HN.out.1)
      have VRz_44 := Lib.hid (VRz.out.below (Below.new D (.cells (List.toArray [Value.int .i64 0, .slice none 0 0]) 26)))
      have NEz_L12 := Lib.hid (VR.new_ne VRz.out HN.out.1)
      generalize D.alloc (.cells (List.toArray [Value.int .i64 0, .slice none 0 0]) 26) = wt44 at *
      generalize D.heap.size = L44 at *
      refine wpAnyH_ready (rs := [3, 8]) (by kernel_rfl) (by simp) ?_
      refine held_cons rfl (fun K hK => ?_) ?_
      · go_simp
        refine (op_any (k := 0) VRx_44.out VRy_44.out fun w' hb => bin_0 (VRx_44.out.below hb) (VRy_44.out.below hb) HN.out.1).mono ?_; rintro e wt45 ⟨v45, rfl, hv45, hb45, hf45⟩
        obtain ⟨p45, c45, rfl, _⟩ := hv45.ex
        have HT45 := Lib.hid (HT44.out.below hb45)
        have VRx_45 := Lib.hid (VRx_44.out.below hb45)
        have VRy_45 := Lib.hid (VRy_44.out.below hb45)
        have VRz_45 := Lib.hid (VRz_44.out.below hb45)
        have VRs_45 := Lib.hid hv45
        have NEs_L12 := Lib.hid (Far.ne hf45 (HT44.out.at 0 rfl).lt)
        clear hv45 hb45 hf45
        (try go_simp)
        refine hK.out _ _ ?_ (fun hHeld2 => ?_)
        · exact ⟨HT45.out.pr 3 rfl, HT45.out.pr 2 rfl⟩
        clear hK K hHeld
        have hHeld := hHeld2
        clear hHeld2
        (try simp only [Act.put, List.setIfInBounds_toArray, List.set_cons_zero, List.set_cons_succ])
        refine wpAnyH_ready (rs := [7, 8]) (by kernel_rfl) (by simp) ?_
        refine held_cons rfl (fun K hK => ?_) ?_
        · go_simp
          refine (op_any (k := 2) VRx_45.out VRy_45.out fun w' hb => bin_2 (VRx_45.out.below hb) (VRy_45.out.below hb) HN.out.1).mono ?_; rintro e wt46 ⟨v46, rfl, hv46, hb46, hf46⟩
          obtain ⟨p46, c46, rfl, _⟩ := hv46.ex
          have HT46 := Lib.hid (HT45.out.below hb46)
          have VRx_46 := Lib.hid (VRx_45.out.below hb46)
          have VRy_46 := Lib.hid (VRy_45.out.below hb46)
          have VRz_46 := Lib.hid (VRz_45.out.below hb46)
          have VRs_46 := Lib.hid (VRs_45.out.below hb46)
          have VRp_46 := Lib.hid hv46
          have NEp_L12 := Lib.hid (Far.ne hf46 (HT45.out.at 0 rfl).lt)
          clear hv46 hb46 hf46
          (try go_simp)
          refine hK.out _ _ ?_ (fun hHeld2 => ?_)
          · exact ⟨HT46.out.pr 3 rfl, HT46.out.pr 2 rfl⟩
          clear hK K hHeld
          have hHeld := hHeld2
          clear hHeld2
          (try simp only [Act.put, List.setIfInBounds_toArray, List.set_cons_zero, List.set_cons_succ])
          refine wpAnyH_ready (rs := [8]) (by kernel_rfl) (by simp) ?_
          refine held_cons rfl (fun K hK => ?_) AllReadyH.nil
          go_simp
          refine hK.out _ _ ?_ (fun hHeld2 => ?_)
          · exact ⟨(HT46.out.lay 26 [Value.int .i64 0, .slice none 0 0]).pr 4 rfl, (HT46.out.lay 26 [Value.int .i64 0, .slice none 0 0]).pr 3 rfl⟩
          clear hK K hHeld
          have hHeld := hHeld2
          clear hHeld2
          (try simp only [Act.put, List.setIfInBounds_toArray, List.set_cons_zero, List.set_cons_succ])
          have HT47 := Lib.hid (HT46.out.lay 26 [Value.int .i64 0, .slice none 0 0])
          have VRx_47 := Lib.hid (VRx_46.out.below (Below.new wt46 (.cells (List.toArray [Value.int .i64 0, .slice none 0 0]) 26)))
          have NEx_L11 := Lib.hid (VR.new_ne VRx_46.out HN.out.1)
          have VRy_47 := Lib.hid (VRy_46.out.below (Below.new wt46 (.cells (List.toArray [Value.int .i64 0, .slice none 0 0]) 26)))
          have NEy_L11 := Lib.hid (VR.new_ne VRy_46.out HN.out.1)
          have VRz_47 := Lib.hid (VRz_46.out.below (Below.new wt46 (.cells (List.toArray [Value.int .i64 0, .slice none 0 0]) 26)))
          have NEz_L11 := Lib.hid (VR.new_ne VRz_46.out HN.out.1)
          have VRs_47 := Lib.hid (VRs_46.out.below (Below.new wt46 (.cells (List.toArray [Value.int .i64 0, .slice none 0 0]) 26)))
          have NEs_L11 := Lib.hid (VR.new_ne VRs_46.out HN.out.1)
          have VRp_47 := Lib.hid (VRp_46.out.below (Below.new wt46 (.cells (List.toArray [Value.int .i64 0, .slice none 0 0]) 26)))
          have NEp_L11 := Lib.hid (VR.new_ne VRp_46.out HN.out.1)
          generalize wt46.alloc (.cells (List.toArray [Value.int .i64 0, .slice none 0 0]) 26) = wt47 at *
          generalize wt46.heap.size = L47 at *
          refine wpAnyH_ready (rs := [10]) (by kernel_rfl) (by simp) ?_
          refine held_cons rfl (fun K hK => ?_) AllReadyH.nil
          have r0 := (HT47.out.pr 0 rfl).1
          have r1 := (HT47.out.pr 0 rfl).2
          have f0 := (HT47.out.at 0 rfl).frz 0
          have f1 := (HT47.out.at 0 rfl).frz 1
          go_simp
          refine hK.out _ _ ?_ (fun hHeld2 => ?_)
          · exact ⟨(HT47.out.two 0 (x := .int .i64 n) (y := .slice p45 (wcount n) c45) rfl).pr 4 rfl, (HT47.out.two 0 (x := .int .i64 n) (y := .slice p45 (wcount n) c45) rfl).pr 3 rfl⟩
          clear hK K hHeld
          have hHeld := hHeld2
          clear hHeld2
          (try simp only [Act.put, List.setIfInBounds_toArray, List.set_cons_zero, List.set_cons_succ])
          have HT48 := Lib.hid (HT47.out.two 0 (x := .int .i64 n) (y := .slice p45 (wcount n) c45) rfl)
          have VRx_48 := Lib.hid (VRx_47.out.set2 (R := L47) (x1 := .int .i64 n) (y1 := .slice p45 (wcount n) c45) NEx_L11.out)
          have VRy_48 := Lib.hid (VRy_47.out.set2 (R := L47) (x1 := .int .i64 n) (y1 := .slice p45 (wcount n) c45) NEy_L11.out)
          have VRz_48 := Lib.hid (VRz_47.out.set2 (R := L47) (x1 := .int .i64 n) (y1 := .slice p45 (wcount n) c45) NEz_L11.out)
          have VRs_48 := Lib.hid (VRs_47.out.set2 (R := L47) (x1 := .int .i64 n) (y1 := .slice p45 (wcount n) c45) NEs_L11.out)
          have VRp_48 := Lib.hid (VRp_47.out.set2 (R := L47) (x1 := .int .i64 n) (y1 := .slice p45 (wcount n) c45) NEp_L11.out)
          clear r0 r1 f0 f1
          generalize (wt47.setCell ⟨L47, 0, none⟩ (.int .i64 n)).setCell ⟨L47, 1, none⟩ (.slice p45 (wcount n) c45) = wt48 at *
          refine wpAnyH_ready (rs := [11]) (by kernel_rfl) (by simp) ?_
          refine held_cons rfl (fun K hK => ?_) AllReadyH.nil
          have r0 := (HT48.out.pr 1 rfl).1
          have r1 := (HT48.out.pr 1 rfl).2
          have f0 := (HT48.out.at 1 rfl).frz 0
          have f1 := (HT48.out.at 1 rfl).frz 1
          go_simp
          refine hK.out _ _ ?_ (fun hHeld2 => ?_)
          · exact ⟨(HT48.out.two 1 (x := .int .i64 n) (y := .slice p46 (wcount n) c46) rfl).pr 4 rfl, (HT48.out.two 1 (x := .int .i64 n) (y := .slice p46 (wcount n) c46) rfl).pr 3 rfl⟩
          clear hK K hHeld
          have hHeld := hHeld2
          clear hHeld2
          (try simp only [Act.put, List.setIfInBounds_toArray, List.set_cons_zero, List.set_cons_succ])
          have HT49 := Lib.hid (HT48.out.two 1 (x := .int .i64 n) (y := .slice p46 (wcount n) c46) rfl)
          have VRx_49 := Lib.hid (VRx_48.out.set2 (R := L44) (x1 := .int .i64 n) (y1 := .slice p46 (wcount n) c46) NEx_L12.out)
          have VRy_49 := Lib.hid (VRy_48.out.set2 (R := L44) (x1 := .int .i64 n) (y1 := .slice p46 (wcount n) c46) NEy_L12.out)
          have VRz_49 := Lib.hid (VRz_48.out.set2 (R := L44) (x1 := .int .i64 n) (y1 := .slice p46 (wcount n) c46) NEz_L12.out)
          have VRs_49 := Lib.hid (VRs_48.out.set2 (R := L44) (x1 := .int .i64 n) (y1 := .slice p46 (wcount n) c46) NEs_L12.out)
          have VRp_49 := Lib.hid (VRp_48.out.set2 (R := L44) (x1 := .int .i64 n) (y1 := .slice p46 (wcount n) c46) NEp_L12.out)
          clear r0 r1 f0 f1
          generalize (wt48.setCell ⟨L44, 0, none⟩ (.int .i64 n)).setCell ⟨L44, 1, none⟩ (.slice p46 (wcount n) c46) = wt49 at *
          refine wpAnyH_done (by kernel_rfl) ?_ _
          go_wp2_with fail
          go_meet
          exact ⟨L47, L44, p45, c45, p46, c46, rfl, rfl, HT49.out.subs (by simp) (by have := HT49.out.nd; simp only [List.set_cons_zero, List.set_cons_succ, List.map_cons, List.map_nil, List.nodup_cons, List.mem_cons, List.not_mem_nil, or_false, not_or, not_false_eq_true, List.nodup_nil, and_true] at this ⊢; omega), VRx_49.out, VRy_49.out, VRz_49.out, VRs_49.out, VRp_49.out⟩
        refine held_cons rfl (fun K hK => ?_) ?_
        · go_simp
          refine hK.out _ _ ?_ (fun hHeld2 => ?_)
          · exact ⟨(HT45.out.lay 26 [Value.int .i64 0, .slice none 0 0]).pr 4 rfl, (HT45.out.lay 26 [Value.int .i64 0, .slice none 0 0]).pr 3 rfl⟩
          clear hK K hHeld
          have hHeld := hHeld2
          clear hHeld2
          (try simp only [Act.put, List.setIfInBounds_toArray, List.set_cons_zero, List.set_cons_succ])
          have HT50 := Lib.hid (HT45.out.lay 26 [Value.int .i64 0, .slice none 0 0])
          have VRx_50 := Lib.hid (VRx_45.out.below (Below.new wt45 (.cells (List.toArray [Value.int .i64 0, .slice none 0 0]) 26)))
          have NEx_L11 := Lib.hid (VR.new_ne VRx_45.out HN.out.1)
          have VRy_50 := Lib.hid (VRy_45.out.below (Below.new wt45 (.cells (List.toArray [Value.int .i64 0, .slice none 0 0]) 26)))
          have NEy_L11 := Lib.hid (VR.new_ne VRy_45.out HN.out.1)
          have VRz_50 := Lib.hid (VRz_45.out.below (Below.new wt45 (.cells (List.toArray [Value.int .i64 0, .slice none 0 0]) 26)))
          have NEz_L11 := Lib.hid (VR.new_ne VRz_45.out HN.out.1)
          have VRs_50 := Lib.hid (VRs_45.out.below (Below.new wt45 (.cells (List.toArray [Value.int .i64 0, .slice none 0 0]) 26)))
          have NEs_L11 := Lib.hid (VR.new_ne VRs_45.out HN.out.1)
          generalize wt45.alloc (.cells (List.toArray [Value.int .i64 0, .slice none 0 0]) 26) = wt50 at *
          generalize wt45.heap.size = L50 at *
          refine wpAnyH_ready (rs := [7]) (by kernel_rfl) (by simp) ?_
          refine held_cons rfl (fun K hK => ?_) AllReadyH.nil
          go_simp
          refine (op_any (k := 2) VRx_50.out VRy_50.out fun w' hb => bin_2 (VRx_50.out.below hb) (VRy_50.out.below hb) HN.out.1).mono ?_; rintro e wt51 ⟨v51, rfl, hv51, hb51, hf51⟩
          obtain ⟨p51, c51, rfl, _⟩ := hv51.ex
          have HT51 := Lib.hid (HT50.out.below hb51)
          have VRx_51 := Lib.hid (VRx_50.out.below hb51)
          have VRy_51 := Lib.hid (VRy_50.out.below hb51)
          have VRz_51 := Lib.hid (VRz_50.out.below hb51)
          have VRs_51 := Lib.hid (VRs_50.out.below hb51)
          have VRp_51 := Lib.hid hv51
          have NEp_L12 := Lib.hid (Far.ne hf51 (HT50.out.at 1 rfl).lt)
          have NEp_L11 := Lib.hid (Far.ne hf51 (HT50.out.at 0 rfl).lt)
          clear hv51 hb51 hf51
          (try go_simp)
          refine hK.out _ _ ?_ (fun hHeld2 => ?_)
          · exact ⟨HT51.out.pr 4 rfl, HT51.out.pr 3 rfl⟩
          clear hK K hHeld
          have hHeld := hHeld2
          clear hHeld2
          (try simp only [Act.put, List.setIfInBounds_toArray, List.set_cons_zero, List.set_cons_succ])
          refine wpAnyH_ready (rs := [10]) (by kernel_rfl) (by simp) ?_
          refine held_cons rfl (fun K hK => ?_) AllReadyH.nil
          have r0 := (HT51.out.pr 0 rfl).1
          have r1 := (HT51.out.pr 0 rfl).2
          have f0 := (HT51.out.at 0 rfl).frz 0
          have f1 := (HT51.out.at 0 rfl).frz 1
          go_simp
          refine hK.out _ _ ?_ (fun hHeld2 => ?_)
          · exact ⟨(HT51.out.two 0 (x := .int .i64 n) (y := .slice p45 (wcount n) c45) rfl).pr 4 rfl, (HT51.out.two 0 (x := .int .i64 n) (y := .slice p45 (wcount n) c45) rfl).pr 3 rfl⟩
          clear hK K hHeld
          have hHeld := hHeld2
          clear hHeld2
          (try simp only [Act.put, List.setIfInBounds_toArray, List.set_cons_zero, List.set_cons_succ])
          have HT52 := Lib.hid (HT51.out.two 0 (x := .int .i64 n) (y := .slice p45 (wcount n) c45) rfl)
          have VRx_52 := Lib.hid (VRx_51.out.set2 (R := L50) (x1 := .int .i64 n) (y1 := .slice p45 (wcount n) c45) NEx_L11.out)
          have VRy_52 := Lib.hid (VRy_51.out.set2 (R := L50) (x1 := .int .i64 n) (y1 := .slice p45 (wcount n) c45) NEy_L11.out)
          have VRz_52 := Lib.hid (VRz_51.out.set2 (R := L50) (x1 := .int .i64 n) (y1 := .slice p45 (wcount n) c45) NEz_L11.out)
          have VRs_52 := Lib.hid (VRs_51.out.set2 (R := L50) (x1 := .int .i64 n) (y1 := .slice p45 (wcount n) c45) NEs_L11.out)
          have VRp_52 := Lib.hid (VRp_51.out.set2 (R := L50) (x1 := .int .i64 n) (y1 := .slice p45 (wcount n) c45) NEp_L11.out)
          clear r0 r1 f0 f1
          generalize (wt51.setCell ⟨L50, 0, none⟩ (.int .i64 n)).setCell ⟨L50, 1, none⟩ (.slice p45 (wcount n) c45) = wt52 at *
          refine wpAnyH_ready (rs := [11]) (by kernel_rfl) (by simp) ?_
          refine held_cons rfl (fun K hK => ?_) AllReadyH.nil
          have r0 := (HT52.out.pr 1 rfl).1
          have r1 := (HT52.out.pr 1 rfl).2
          have f0 := (HT52.out.at 1 rfl).frz 0
          have f1 := (HT52.out.at 1 rfl).frz 1
          go_simp
          refine hK.out _ _ ?_ (fun hHeld2 => ?_)
          · exact ⟨(HT52.out.two 1 (x := .int .i64 n) (y := .slice p51 (wcount n) c51) rfl).pr 4 rfl, (HT52.out.two 1 (x := .int .i64 n) (y := .slice p51 (wcount n) c51) rfl).pr 3 rfl⟩
          clear hK K hHeld
          have hHeld := hHeld2
          clear hHeld2
          (try simp only [Act.put, List.setIfInBounds_toArray, List.set_cons_zero, List.set_cons_succ])
          have HT53 := Lib.hid (HT52.out.two 1 (x := .int .i64 n) (y := .slice p51 (wcount n) c51) rfl)
          have VRx_53 := Lib.hid (VRx_52.out.set2 (R := L44) (x1 := .int .i64 n) (y1 := .slice p51 (wcount n) c51) NEx_L12.out)
          have VRy_53 := Lib.hid (VRy_52.out.set2 (R := L44) (x1 := .int .i64 n) (y1 := .slice p51 (wcount n) c51) NEy_L12.out)
          have VRz_53 := Lib.hid (VRz_52.out.set2 (R := L44) (x1 := .int .i64 n) (y1 := .slice p51 (wcount n) c51) NEz_L12.out)
          have VRs_53 := Lib.hid (VRs_52.out.set2 (R := L44) (x1 := .int .i64 n) (y1 := .slice p51 (wcount n) c51) NEs_L12.out)
          have VRp_53 := Lib.hid (VRp_52.out.set2 (R := L44) (x1 := .int .i64 n) (y1 := .slice p51 (wcount n) c51) NEp_L12.out)
          clear r0 r1 f0 f1
          generalize (wt52.setCell ⟨L44, 0, none⟩ (.int .i64 n)).setCell ⟨L44, 1, none⟩ (.slice p51 (wcount n) c51) = wt53 at *
          refine wpAnyH_done (by kernel_rfl) ?_ _
          go_wp2_with fail
          go_meet
          exact ⟨L50, L44, p45, c45, p51, c51, rfl, rfl, HT53.out.subs (by simp) (by have := HT53.out.nd; simp only [List.set_cons_zero, List.set_cons_succ, List.map_cons, List.map_nil, List.nodup_cons, List.mem_cons, List.not_mem_nil, or_false, not_or, not_false_eq_true, List.nodup_nil, and_true] at this ⊢; omega), VRx_53.out, VRy_53.out, VRz_53.out, VRs_53.out, VRp_53.out⟩
        exact AllReadyH.nil
      refine held_cons rfl (fun K hK => ?_) ?_
      · go_simp
        refine hK.out _ _ ?_ (fun hHeld2 => ?_)
        · exact ⟨(HT44.out.lay 26 [Value.int .i64 0, .slice none 0 0]).pr 4 rfl, (HT44.out.lay 26 [Value.int .i64 0, .slice none 0 0]).pr 3 rfl⟩
        clear hK K hHeld
        have hHeld := hHeld2
        clear hHeld2
        (try simp only [Act.put, List.setIfInBounds_toArray, List.set_cons_zero, List.set_cons_succ])
        have HT54 := Lib.hid (HT44.out.lay 26 [Value.int .i64 0, .slice none 0 0])
        have VRx_54 := Lib.hid (VRx_44.out.below (Below.new wt44 (.cells (List.toArray [Value.int .i64 0, .slice none 0 0]) 26)))
        have NEx_L11 := Lib.hid (VR.new_ne VRx_44.out HN.out.1)
        have VRy_54 := Lib.hid (VRy_44.out.below (Below.new wt44 (.cells (List.toArray [Value.int .i64 0, .slice none 0 0]) 26)))
        have NEy_L11 := Lib.hid (VR.new_ne VRy_44.out HN.out.1)
        have VRz_54 := Lib.hid (VRz_44.out.below (Below.new wt44 (.cells (List.toArray [Value.int .i64 0, .slice none 0 0]) 26)))
        have NEz_L11 := Lib.hid (VR.new_ne VRz_44.out HN.out.1)
        generalize wt44.alloc (.cells (List.toArray [Value.int .i64 0, .slice none 0 0]) 26) = wt54 at *
        generalize wt44.heap.size = L54 at *
        refine wpAnyH_ready (rs := [3]) (by kernel_rfl) (by simp) ?_
        refine held_cons rfl (fun K hK => ?_) AllReadyH.nil
        go_simp
        refine (op_any (k := 0) VRx_54.out VRy_54.out fun w' hb => bin_0 (VRx_54.out.below hb) (VRy_54.out.below hb) HN.out.1).mono ?_; rintro e wt55 ⟨v55, rfl, hv55, hb55, hf55⟩
        obtain ⟨p55, c55, rfl, _⟩ := hv55.ex
        have HT55 := Lib.hid (HT54.out.below hb55)
        have VRx_55 := Lib.hid (VRx_54.out.below hb55)
        have VRy_55 := Lib.hid (VRy_54.out.below hb55)
        have VRz_55 := Lib.hid (VRz_54.out.below hb55)
        have VRs_55 := Lib.hid hv55
        have NEs_L12 := Lib.hid (Far.ne hf55 (HT54.out.at 1 rfl).lt)
        have NEs_L11 := Lib.hid (Far.ne hf55 (HT54.out.at 0 rfl).lt)
        clear hv55 hb55 hf55
        (try go_simp)
        refine hK.out _ _ ?_ (fun hHeld2 => ?_)
        · exact ⟨HT55.out.pr 4 rfl, HT55.out.pr 3 rfl⟩
        clear hK K hHeld
        have hHeld := hHeld2
        clear hHeld2
        (try simp only [Act.put, List.setIfInBounds_toArray, List.set_cons_zero, List.set_cons_succ])
        refine wpAnyH_ready (rs := [7]) (by kernel_rfl) (by simp) ?_
        refine held_cons rfl (fun K hK => ?_) AllReadyH.nil
        go_simp
        refine (op_any (k := 2) VRx_55.out VRy_55.out fun w' hb => bin_2 (VRx_55.out.below hb) (VRy_55.out.below hb) HN.out.1).mono ?_; rintro e wt56 ⟨v56, rfl, hv56, hb56, hf56⟩
        obtain ⟨p56, c56, rfl, _⟩ := hv56.ex
        have HT56 := Lib.hid (HT55.out.below hb56)
        have VRx_56 := Lib.hid (VRx_55.out.below hb56)
        have VRy_56 := Lib.hid (VRy_55.out.below hb56)
        have VRz_56 := Lib.hid (VRz_55.out.below hb56)
        have VRs_56 := Lib.hid (VRs_55.out.below hb56)
        have VRp_56 := Lib.hid hv56
        have NEp_L12 := Lib.hid (Far.ne hf56 (HT55.out.at 1 rfl).lt)
        have NEp_L11 := Lib.hid (Far.ne hf56 (HT55.out.at 0 rfl).lt)
        clear hv56 hb56 hf56
        (try go_simp)
        refine hK.out _ _ ?_ (fun hHeld2 => ?_)
        · exact ⟨HT56.out.pr 4 rfl, HT56.out.pr 3 rfl⟩
        clear hK K hHeld
        have hHeld := hHeld2
        clear hHeld2
        (try simp only [Act.put, List.setIfInBounds_toArray, List.set_cons_zero, List.set_cons_succ])
        refine wpAnyH_ready (rs := [10]) (by kernel_rfl) (by simp) ?_
        refine held_cons rfl (fun K hK => ?_) AllReadyH.nil
        have r0 := (HT56.out.pr 0 rfl).1
        have r1 := (HT56.out.pr 0 rfl).2
        have f0 := (HT56.out.at 0 rfl).frz 0
        have f1 := (HT56.out.at 0 rfl).frz 1
        go_simp
        refine hK.out _ _ ?_ (fun hHeld2 => ?_)
        · exact ⟨(HT56.out.two 0 (x := .int .i64 n) (y := .slice p55 (wcount n) c55) rfl).pr 4 rfl, (HT56.out.two 0 (x := .int .i64 n) (y := .slice p55 (wcount n) c55) rfl).pr 3 rfl⟩
        clear hK K hHeld
        have hHeld := hHeld2
        clear hHeld2
        (try simp only [Act.put, List.setIfInBounds_toArray, List.set_cons_zero, List.set_cons_succ])
        have HT57 := Lib.hid (HT56.out.two 0 (x := .int .i64 n) (y := .slice p55 (wcount n) c55) rfl)
        have VRx_57 := Lib.hid (VRx_56.out.set2 (R := L54) (x1 := .int .i64 n) (y1 := .slice p55 (wcount n) c55) NEx_L11.out)
        have VRy_57 := Lib.hid (VRy_56.out.set2 (R := L54) (x1 := .int .i64 n) (y1 := .slice p55 (wcount n) c55) NEy_L11.out)
        have VRz_57 := Lib.hid (VRz_56.out.set2 (R := L54) (x1 := .int .i64 n) (y1 := .slice p55 (wcount n) c55) NEz_L11.out)
        have VRs_57 := Lib.hid (VRs_56.out.set2 (R := L54) (x1 := .int .i64 n) (y1 := .slice p55 (wcount n) c55) NEs_L11.out)
        have VRp_57 := Lib.hid (VRp_56.out.set2 (R := L54) (x1 := .int .i64 n) (y1 := .slice p55 (wcount n) c55) NEp_L11.out)
        clear r0 r1 f0 f1
        generalize (wt56.setCell ⟨L54, 0, none⟩ (.int .i64 n)).setCell ⟨L54, 1, none⟩ (.slice p55 (wcount n) c55) = wt57 at *
        refine wpAnyH_ready (rs := [11]) (by kernel_rfl) (by simp) ?_
        refine held_cons rfl (fun K hK => ?_) AllReadyH.nil
        have r0 := (HT57.out.pr 1 rfl).1
        have r1 := (HT57.out.pr 1 rfl).2
        have f0 := (HT57.out.at 1 rfl).frz 0
        have f1 := (HT57.out.at 1 rfl).frz 1
        go_simp
        refine hK.out _ _ ?_ (fun hHeld2 => ?_)
        · exact ⟨(HT57.out.two 1 (x := .int .i64 n) (y := .slice p56 (wcount n) c56) rfl).pr 4 rfl, (HT57.out.two 1 (x := .int .i64 n) (y := .slice p56 (wcount n) c56) rfl).pr 3 rfl⟩
        clear hK K hHeld
        have hHeld := hHeld2
        clear hHeld2
        (try simp only [Act.put, List.setIfInBounds_toArray, List.set_cons_zero, List.set_cons_succ])
        have HT58 := Lib.hid (HT57.out.two 1 (x := .int .i64 n) (y := .slice p56 (wcount n) c56) rfl)
        have VRx_58 := Lib.hid (VRx_57.out.set2 (R := L44) (x1 := .int .i64 n) (y1 := .slice p56 (wcount n) c56) NEx_L12.out)
        have VRy_58 := Lib.hid (VRy_57.out.set2 (R := L44) (x1 := .int .i64 n) (y1 := .slice p56 (wcount n) c56) NEy_L12.out)
        have VRz_58 := Lib.hid (VRz_57.out.set2 (R := L44) (x1 := .int .i64 n) (y1 := .slice p56 (wcount n) c56) NEz_L12.out)
        have VRs_58 := Lib.hid (VRs_57.out.set2 (R := L44) (x1 := .int .i64 n) (y1 := .slice p56 (wcount n) c56) NEs_L12.out)
        have VRp_58 := Lib.hid (VRp_57.out.set2 (R := L44) (x1 := .int .i64 n) (y1 := .slice p56 (wcount n) c56) NEp_L12.out)
        clear r0 r1 f0 f1
        generalize (wt57.setCell ⟨L44, 0, none⟩ (.int .i64 n)).setCell ⟨L44, 1, none⟩ (.slice p56 (wcount n) c56) = wt58 at *
        refine wpAnyH_done (by kernel_rfl) ?_ _
        go_wp2_with fail
        go_meet
        exact ⟨L54, L44, p55, c55, p56, c56, rfl, rfl, HT58.out.subs (by simp) (by have := HT58.out.nd; simp only [List.set_cons_zero, List.set_cons_succ, List.map_cons, List.map_nil, List.nodup_cons, List.mem_cons, List.not_mem_nil, or_false, not_or, not_false_eq_true, List.nodup_nil, and_true] at this ⊢; omega), VRx_58.out, VRy_58.out, VRz_58.out, VRs_58.out, VRp_58.out⟩
      exact AllReadyH.nil
    exact AllReadyH.nil
  case rest =>
    obtain ⟨L11, L12, ps, cs, pp, cp, rfl, rfl, hT, hx, hy, hz, hs, hp⟩ := hcut
    have HT0 := Lib.hid hT
    have VRx0 := Lib.hid hx
    have VRy0 := Lib.hid hy
    have VRz0 := Lib.hid hz
    have VRs0 := Lib.hid hs
    have VRp0 := Lib.hid hp
    clear hT hx hy hz hs hp HT6 HVX HVY HVZ
    obtain ⟨X, hX⟩ : ∃ X, ofB f n = X := ⟨_, rfl⟩
    obtain ⟨Y, hY⟩ : ∃ Y, ofB (fitF g m1) n = Y := ⟨_, rfl⟩
    obtain ⟨Z, hZ⟩ : ∃ Z, ofB (fitF h m2) n = Z := ⟨_, rfl⟩
    have hXl : X < 2 ^ n := by rw [← hX]; exact ofB_lt _ _
    have hYl : Y < 2 ^ n := by rw [← hY]; exact ofB_lt _ _
    have HXY := Lib.hid (And.intro hXl hYl)
    rw [hX] at VRx0 VRs0 VRp0
    rw [hY] at VRy0 VRs0 VRp0
    rw [hZ] at VRz0
    clear hX hY hZ hXl hYl
    go_upto_region 9 with fail
    have VRx1 := Lib.hid (VRx0.out.below (Below.refl _ _).drew)
    have VRy1 := Lib.hid (VRy0.out.below (Below.refl _ _).drew)
    have VRz1 := Lib.hid (VRz0.out.below (Below.refl _ _).drew)
    have VRs1 := Lib.hid (VRs0.out.below (Below.refl _ _).drew)
    have VRp1 := Lib.hid (VRp0.out.below (Below.refl _ _).drew)
    have HT1 := Lib.hid HT0.out.drew
    refine wp_region_held_drew (S := (fun w' => (w'.cell? ⟨w6.heap.size, 0, none⟩ = some (.int .i64 n) ∧ w'.cell? ⟨w6.heap.size, 1, none⟩ = some (.slice px (wcount n) cx)) ∧ (w'.cell? ⟨w6.heap.size + 1, 0, none⟩ = some (.int .i64 n) ∧ w'.cell? ⟨w6.heap.size + 1, 1, none⟩ = some (.slice py (wcount n) cy)) ∧ (w'.cell? ⟨w6.heap.size + 1 + 1, 0, none⟩ = some (.int .i64 n) ∧ w'.cell? ⟨w6.heap.size + 1 + 1, 1, none⟩ = some (.slice pz (wcount n) cz)) ∧ (w'.cell? ⟨L11, 0, none⟩ = some (.int .i64 n) ∧ w'.cell? ⟨L11, 1, none⟩ = some (.slice ps (wcount n) cs)) ∧ (w'.cell? ⟨L12, 0, none⟩ = some (.int .i64 n) ∧ w'.cell? ⟨L12, 1, none⟩ = some (.slice pp (wcount n) cp)))) (by kernel_rfl) ?_ (fun hHeld => ?_)
    · (try dsimp only)
      exact ⟨HT1.out.pr 4 rfl, HT1.out.pr 3 rfl, HT1.out.pr 2 rfl, HT1.out.pr 1 rfl, HT1.out.pr 0 rfl⟩
    refine held_take (i := 0) (v := ?_) rfl (by kernel_rfl) (by kernel_rfl) (by kernel_rfl) (fun _ _ _ h => h) (Or.inl ⟨by rfl, ?_⟩) (by assumption) ?_
    rotate_left
    · intro w hSw; (try dsimp only at hSw); go_simp; (try with_reducible rfl)
    (try simp only [Act.put, List.setIfInBounds_toArray, List.set_cons_zero, List.set_cons_succ])
    refine held_take (i := 1) (v := ?_) rfl (by kernel_rfl) (by kernel_rfl) (by kernel_rfl) (fun _ _ _ h => h) (Or.inl ⟨by rfl, ?_⟩) (by assumption) ?_
    rotate_left
    · intro w hSw; (try dsimp only at hSw); go_simp; (try with_reducible rfl)
    (try simp only [Act.put, List.setIfInBounds_toArray, List.set_cons_zero, List.set_cons_succ])
    refine held_take (i := 2) (v := ?_) rfl (by kernel_rfl) (by kernel_rfl) (by kernel_rfl) (fun _ _ _ h => h) (Or.inl ⟨by rfl, ?_⟩) (by assumption) ?_
    rotate_left
    · intro w hSw; (try dsimp only at hSw); go_simp; (try with_reducible rfl)
    (try simp only [Act.put, List.setIfInBounds_toArray, List.set_cons_zero, List.set_cons_succ])
    refine held_take (i := 3) (v := ?_) rfl (by kernel_rfl) (by kernel_rfl) (by kernel_rfl) (fun _ _ _ h => h) (Or.inl ⟨by rfl, ?_⟩) (by assumption) ?_
    rotate_left
    · intro w hSw; (try dsimp only at hSw); go_simp; (try with_reducible rfl)
    (try simp only [Act.put, List.setIfInBounds_toArray, List.set_cons_zero, List.set_cons_succ])
    refine wpAnyH_ready (rs := [4]) (by kernel_rfl) (by simp) ?_
    refine held_cons rfl (fun K hK => ?_) AllReadyH.nil
    go_simp
    refine (op_any (k := 0) VRy1.out VRx1.out fun w' hb => bin_0 (VRy1.out.below hb) (VRx1.out.below hb) HN.out.1).mono ?_; rintro e wk2 ⟨vk2, rfl, hvk2, hbk2, _⟩
    obtain ⟨pk2, ck2, rfl, _⟩ := hvk2.ex
    have VRx2 := Lib.hid (VRx1.out.below hbk2)
    have VRy2 := Lib.hid (VRy1.out.below hbk2)
    have VRz2 := Lib.hid (VRz1.out.below hbk2)
    have VRs2 := Lib.hid (VRs1.out.below hbk2)
    have VRp2 := Lib.hid (VRp1.out.below hbk2)
    have HT2 := Lib.hid (HT1.out.below hbk2)
    have VRt12 := Lib.hid hvk2
    clear hvk2 hbk2
    (try go_simp)
    refine hK.out _ _ ?_ (fun hHeld2 => ?_)
    · (try dsimp only)
      exact ⟨HT2.out.pr 4 rfl, HT2.out.pr 3 rfl, HT2.out.pr 2 rfl, HT2.out.pr 1 rfl, HT2.out.pr 0 rfl⟩
    clear hK K hHeld
    have hHeld := hHeld2
    clear hHeld2
    (try simp only [Act.put, List.setIfInBounds_toArray, List.set_cons_zero, List.set_cons_succ])
    refine wpAnyH_ready (rs := [5]) (by kernel_rfl) (by simp) ?_
    refine held_cons rfl (fun K hK => ?_) AllReadyH.nil
    go_simp
    have HE3 := equal_any VRs2.out VRt12.out
    rw [show decide (n = n ∧ (X + Y + 0) % 2 ^ n = (Y + X + 0) % 2 ^ n) = true by rw [ring_add n X Y]; simp] at HE3
    refine HE3.mono ?_; rintro e wk3 ⟨rfl, hbk3⟩
    have VRx3 := Lib.hid (VRx2.out.below hbk3)
    have VRy3 := Lib.hid (VRy2.out.below hbk3)
    have VRz3 := Lib.hid (VRz2.out.below hbk3)
    have VRs3 := Lib.hid (VRs2.out.below hbk3)
    have VRp3 := Lib.hid (VRp2.out.below hbk3)
    have VRt13 := Lib.hid (VRt12.out.below hbk3)
    have HT3 := Lib.hid (HT2.out.below hbk3)
    clear hbk3 HE3
    (try go_simp)
    refine hK.out _ _ ?_ (fun hHeld2 => ?_)
    · (try dsimp only)
      exact ⟨HT3.out.pr 4 rfl, HT3.out.pr 3 rfl, HT3.out.pr 2 rfl, HT3.out.pr 1 rfl, HT3.out.pr 0 rfl⟩
    clear hK K hHeld
    have hHeld := hHeld2
    clear hHeld2
    (try simp only [Act.put, List.setIfInBounds_toArray, List.set_cons_zero, List.set_cons_succ])
    refine held_take (i := 6) (v := ?_) rfl (by kernel_rfl) (by kernel_rfl) (by kernel_rfl) (fun _ _ _ h => h) (Or.inl ⟨by rfl, ?_⟩) (by assumption) ?_
    rotate_left
    · intro w hSw; (try dsimp only at hSw); go_simp; (try with_reducible rfl)
    (try simp only [Act.put, List.setIfInBounds_toArray, List.set_cons_zero, List.set_cons_succ])
    refine held_take (i := 7) (v := ?_) rfl (by kernel_rfl) (by kernel_rfl) (by kernel_rfl) (fun _ _ _ h => h) (Or.inl ⟨by rfl, ?_⟩) (by assumption) ?_
    rotate_left
    · intro w hSw; (try dsimp only at hSw); go_simp; (try with_reducible rfl)
    (try simp only [Act.put, List.setIfInBounds_toArray, List.set_cons_zero, List.set_cons_succ])
    refine held_take (i := 8) (v := ?_) rfl (by kernel_rfl) (by kernel_rfl) (by kernel_rfl) (fun _ _ _ h => h) (Or.inl ⟨by rfl, ?_⟩) (by assumption) ?_
    rotate_left
    · intro w hSw; (try dsimp only at hSw); go_simp; (try with_reducible rfl)
    (try simp only [Act.put, List.setIfInBounds_toArray, List.set_cons_zero, List.set_cons_succ])
    refine held_take (i := 9) (v := ?_) rfl (by kernel_rfl) (by kernel_rfl) (by kernel_rfl) (fun _ _ _ h => h) (Or.inl ⟨by rfl, ?_⟩) (by assumption) ?_
    rotate_left
    · intro w hSw; (try dsimp only at hSw); go_simp; (try with_reducible rfl)
    (try simp only [Act.put, List.setIfInBounds_toArray, List.set_cons_zero, List.set_cons_succ])
    refine held_take (i := 10) (v := ?_) rfl (by kernel_rfl) (by kernel_rfl) (by kernel_rfl) (fun _ _ _ h => h) (Or.inl ⟨by rfl, ?_⟩) (by assumption) ?_
    rotate_left
    · intro w hSw; (try dsimp only at hSw); go_simp; (try with_reducible rfl)
    (try simp only [Act.put, List.setIfInBounds_toArray, List.set_cons_zero, List.set_cons_succ])
    refine held_take (i := 11) (v := ?_) rfl (by kernel_rfl) (by kernel_rfl) (by kernel_rfl) (fun _ _ _ h => h) (Or.inl ⟨by rfl, ?_⟩) (by assumption) ?_
    rotate_left
    · intro w hSw; (try dsimp only at hSw); go_simp; (try with_reducible rfl)
    (try simp only [Act.put, List.setIfInBounds_toArray, List.set_cons_zero, List.set_cons_succ])
    refine wpAnyH_ready (rs := [12]) (by kernel_rfl) (by simp) ?_
    refine held_cons rfl (fun K hK => ?_) AllReadyH.nil
    go_simp
    refine (op_any (k := 2) VRy3.out VRx3.out fun w' hb => bin_2 (VRy3.out.below hb) (VRx3.out.below hb) HN.out.1).mono ?_; rintro e wk4 ⟨vk4, rfl, hvk4, hbk4, _⟩
    obtain ⟨pk4, ck4, rfl, _⟩ := hvk4.ex
    have VRx4 := Lib.hid (VRx3.out.below hbk4)
    have VRy4 := Lib.hid (VRy3.out.below hbk4)
    have VRz4 := Lib.hid (VRz3.out.below hbk4)
    have VRs4 := Lib.hid (VRs3.out.below hbk4)
    have VRp4 := Lib.hid (VRp3.out.below hbk4)
    have HT4 := Lib.hid (HT3.out.below hbk4)
    have VRt24 := Lib.hid hvk4
    clear hvk4 hbk4
    (try go_simp)
    refine hK.out _ _ ?_ (fun hHeld2 => ?_)
    · (try dsimp only)
      exact ⟨HT4.out.pr 4 rfl, HT4.out.pr 3 rfl, HT4.out.pr 2 rfl, HT4.out.pr 1 rfl, HT4.out.pr 0 rfl⟩
    clear hK K hHeld
    have hHeld := hHeld2
    clear hHeld2
    (try simp only [Act.put, List.setIfInBounds_toArray, List.set_cons_zero, List.set_cons_succ])
    refine wpAnyH_ready (rs := [13]) (by kernel_rfl) (by simp) ?_
    refine held_cons rfl (fun K hK => ?_) AllReadyH.nil
    go_simp
    have HE5 := equal_any VRp4.out VRt24.out
    rw [show decide (n = n ∧ X * Y % 2 ^ n = Y * X % 2 ^ n) = true by rw [ring_mul n X Y]; simp] at HE5
    refine HE5.mono ?_; rintro e wk5 ⟨rfl, hbk5⟩
    have VRx5 := Lib.hid (VRx4.out.below hbk5)
    have VRy5 := Lib.hid (VRy4.out.below hbk5)
    have VRz5 := Lib.hid (VRz4.out.below hbk5)
    have VRs5 := Lib.hid (VRs4.out.below hbk5)
    have VRp5 := Lib.hid (VRp4.out.below hbk5)
    have VRt25 := Lib.hid (VRt24.out.below hbk5)
    have HT5 := Lib.hid (HT4.out.below hbk5)
    clear hbk5 HE5
    (try go_simp)
    refine hK.out _ _ ?_ (fun hHeld2 => ?_)
    · (try dsimp only)
      exact ⟨HT5.out.pr 4 rfl, HT5.out.pr 3 rfl, HT5.out.pr 2 rfl, HT5.out.pr 1 rfl, HT5.out.pr 0 rfl⟩
    clear hK K hHeld
    have hHeld := hHeld2
    clear hHeld2
    (try simp only [Act.put, List.setIfInBounds_toArray, List.set_cons_zero, List.set_cons_succ])
    refine held_take (i := 14) (v := ?_) rfl (by kernel_rfl) (by kernel_rfl) (by kernel_rfl) (fun _ _ _ h => h) (Or.inl ⟨by rfl, ?_⟩) (by assumption) ?_
    rotate_left
    · intro w hSw; (try dsimp only at hSw); go_simp; (try with_reducible rfl)
    (try simp only [Act.put, List.setIfInBounds_toArray, List.set_cons_zero, List.set_cons_succ])
    refine held_take (i := 15) (v := ?_) rfl (by kernel_rfl) (by kernel_rfl) (by kernel_rfl) (fun _ _ _ h => h) (Or.inl ⟨by rfl, ?_⟩) (by assumption) ?_
    rotate_left
    · intro w hSw; (try dsimp only at hSw); go_simp; (try with_reducible rfl)
    (try simp only [Act.put, List.setIfInBounds_toArray, List.set_cons_zero, List.set_cons_succ])
    refine held_take (i := 16) (v := ?_) rfl (by kernel_rfl) (by kernel_rfl) (by kernel_rfl) (fun _ _ _ h => h) (Or.inl ⟨by rfl, ?_⟩) (by assumption) ?_
    rotate_left
    · intro w hSw; (try dsimp only at hSw); go_simp; (try with_reducible rfl)
    (try simp only [Act.put, List.setIfInBounds_toArray, List.set_cons_zero, List.set_cons_succ])
    refine held_take (i := 17) (v := ?_) rfl (by kernel_rfl) (by kernel_rfl) (by kernel_rfl) (fun _ _ _ h => h) (Or.inl ⟨by rfl, ?_⟩) (by assumption) ?_
    rotate_left
    · intro w hSw; (try dsimp only at hSw); go_simp; (try with_reducible rfl)
    (try simp only [Act.put, List.setIfInBounds_toArray, List.set_cons_zero, List.set_cons_succ])
    refine held_take (i := 18) (v := ?_) rfl (by kernel_rfl) (by kernel_rfl) (by kernel_rfl) (fun _ _ _ h => h) (Or.inl ⟨by rfl, ?_⟩) (by assumption) ?_
    rotate_left
    · intro w hSw; (try dsimp only at hSw); go_simp; (try with_reducible rfl)
    (try simp only [Act.put, List.setIfInBounds_toArray, List.set_cons_zero, List.set_cons_succ])
    refine held_take (i := 19) (v := ?_) rfl (by kernel_rfl) (by kernel_rfl) (by kernel_rfl) (fun _ _ _ h => h) (Or.inl ⟨by rfl, ?_⟩) (by assumption) ?_
    rotate_left
    · intro w hSw; (try dsimp only at hSw); go_simp; (try with_reducible rfl)
    (try simp only [Act.put, List.setIfInBounds_toArray, List.set_cons_zero, List.set_cons_succ])
    refine held_take (i := 21) (v := ?_) rfl (by kernel_rfl) (by kernel_rfl) (by kernel_rfl) (fun _ _ _ h => h) (Or.inl ⟨by rfl, ?_⟩) (by assumption) ?_
    rotate_left
    · intro w hSw; (try dsimp only at hSw); go_simp; (try with_reducible rfl)
    (try simp only [Act.put, List.setIfInBounds_toArray, List.set_cons_zero, List.set_cons_succ])
    refine wpAnyH_ready (rs := [20]) (by kernel_rfl) (by simp) ?_
    refine held_cons rfl (fun K hK => ?_) AllReadyH.nil
    go_simp
    refine (op_any (k := 1) VRs5.out VRy5.out fun w' hb => bin_1 (VRs5.out.below hb) (VRy5.out.below hb) HN.out.1).mono ?_; rintro e wk6 ⟨vk6, rfl, hvk6, hbk6, _⟩
    obtain ⟨pk6, ck6, rfl, _⟩ := hvk6.ex
    have VRx6 := Lib.hid (VRx5.out.below hbk6)
    have VRy6 := Lib.hid (VRy5.out.below hbk6)
    have VRz6 := Lib.hid (VRz5.out.below hbk6)
    have VRs6 := Lib.hid (VRs5.out.below hbk6)
    have VRp6 := Lib.hid (VRp5.out.below hbk6)
    have HT6 := Lib.hid (HT5.out.below hbk6)
    have VRt36 := Lib.hid hvk6
    clear hvk6 hbk6
    (try go_simp)
    refine hK.out _ _ ?_ (fun hHeld2 => ?_)
    · (try dsimp only)
      exact ⟨HT6.out.pr 4 rfl, HT6.out.pr 3 rfl, HT6.out.pr 2 rfl, HT6.out.pr 1 rfl, HT6.out.pr 0 rfl⟩
    clear hK K hHeld
    have hHeld := hHeld2
    clear hHeld2
    (try simp only [Act.put, List.setIfInBounds_toArray, List.set_cons_zero, List.set_cons_succ])
    refine wpAnyH_ready (rs := [22]) (by kernel_rfl) (by simp) ?_
    refine held_cons rfl (fun K hK => ?_) AllReadyH.nil
    go_simp
    have HE7 := equal_any VRt36.out VRx6.out
    rw [show decide (n = n ∧ ((X + Y + 0) % 2 ^ n + notN n Y + 1) % 2 ^ n = X) = true by rw [ring_back HXY.out.1 HXY.out.2]; simp] at HE7
    refine HE7.mono ?_; rintro e wk7 ⟨rfl, hbk7⟩
    have VRx7 := Lib.hid (VRx6.out.below hbk7)
    have VRy7 := Lib.hid (VRy6.out.below hbk7)
    have VRz7 := Lib.hid (VRz6.out.below hbk7)
    have VRs7 := Lib.hid (VRs6.out.below hbk7)
    have VRp7 := Lib.hid (VRp6.out.below hbk7)
    have VRt37 := Lib.hid (VRt36.out.below hbk7)
    have HT7 := Lib.hid (HT6.out.below hbk7)
    clear hbk7 HE7
    (try go_simp)
    refine hK.out _ _ ?_ (fun hHeld2 => ?_)
    · (try dsimp only)
      exact ⟨HT7.out.pr 4 rfl, HT7.out.pr 3 rfl, HT7.out.pr 2 rfl, HT7.out.pr 1 rfl, HT7.out.pr 0 rfl⟩
    clear hK K hHeld
    have hHeld := hHeld2
    clear hHeld2
    (try simp only [Act.put, List.setIfInBounds_toArray, List.set_cons_zero, List.set_cons_succ])
    refine held_take (i := 23) (v := ?_) rfl (by kernel_rfl) (by kernel_rfl) (by kernel_rfl) (fun _ _ _ h => h) (Or.inl ⟨by rfl, ?_⟩) (by assumption) ?_
    rotate_left
    · intro w hSw; (try dsimp only at hSw); go_simp; (try with_reducible rfl)
    (try simp only [Act.put, List.setIfInBounds_toArray, List.set_cons_zero, List.set_cons_succ])
    refine held_take (i := 24) (v := ?_) rfl (by kernel_rfl) (by kernel_rfl) (by kernel_rfl) (fun _ _ _ h => h) (Or.inl ⟨by rfl, ?_⟩) (by assumption) ?_
    rotate_left
    · intro w hSw; (try dsimp only at hSw); go_simp; (try with_reducible rfl)
    (try simp only [Act.put, List.setIfInBounds_toArray, List.set_cons_zero, List.set_cons_succ])
    refine wpAnyH_done (by kernel_rfl) ?_ _
    have c0 := (HT7.out.pr 3 rfl).1
    have c1 := (HT7.out.pr 3 rfl).2
    clear hHeld
    go_wp2_with fail
    refine (un_1 VRy7.out HN.out.1).mono ?_; rintro e wn ⟨vn, rfl, hvn, hbn, _⟩
    obtain ⟨pn, cn, rfl, _⟩ := hvn.ex
    have VRx8 := Lib.hid (VRx7.out.below hbn)
    have VRy8 := Lib.hid (VRy7.out.below hbn)
    have VRz8 := Lib.hid (VRz7.out.below hbn)
    have VRs8 := Lib.hid (VRs7.out.below hbn)
    have VRp8 := Lib.hid (VRp7.out.below hbn)
    have HT8 := Lib.hid (HT7.out.below hbn)
    have HBn := Lib.hid (Below.new wn (.cells #[.int .i64 n, .slice pn (wcount n) cn] 26))
    have hvn2 := hvn.below HBn.out
    have VRx9 := Lib.hid (VRx8.out.below HBn.out)
    have VRy9 := Lib.hid (VRy8.out.below HBn.out)
    have VRz9 := Lib.hid (VRz8.out.below HBn.out)
    have VRs9 := Lib.hid (VRs8.out.below HBn.out)
    have VRp9 := Lib.hid (VRp8.out.below HBn.out)
    have HT9 := Lib.hid (HT8.out.lay 26 [.int .i64 n, .slice pn (wcount n) cn])
    have VRn9 := Lib.hid hvn2
    clear hvn hvn2 hbn c0 c1
    go_upto_region 12 with fail
    generalize wn.alloc (.cells #[Value.int .i64 n, .slice pn (wcount n) cn] 26) = Wn at *
    have VRx10 := Lib.hid (VRx9.out.below (Below.refl _ _).drew)
    have VRy10 := Lib.hid (VRy9.out.below (Below.refl _ _).drew)
    have VRz10 := Lib.hid (VRz9.out.below (Below.refl _ _).drew)
    have VRs10 := Lib.hid (VRs9.out.below (Below.refl _ _).drew)
    have VRp10 := Lib.hid (VRp9.out.below (Below.refl _ _).drew)
    have VRn10 := Lib.hid (VRn9.out.below (Below.refl _ _).drew)
    have HT10 := Lib.hid HT9.out.drew
    refine wp_region_held_drew (S := (fun w' => (w'.cell? ⟨w6.heap.size, 0, none⟩ = some (.int .i64 n) ∧ w'.cell? ⟨w6.heap.size, 1, none⟩ = some (.slice px (wcount n) cx)) ∧ (w'.cell? ⟨w6.heap.size + 1, 0, none⟩ = some (.int .i64 n) ∧ w'.cell? ⟨w6.heap.size + 1, 1, none⟩ = some (.slice py (wcount n) cy)) ∧ (w'.cell? ⟨w6.heap.size + 1 + 1, 0, none⟩ = some (.int .i64 n) ∧ w'.cell? ⟨w6.heap.size + 1 + 1, 1, none⟩ = some (.slice pz (wcount n) cz)) ∧ (w'.cell? ⟨L11, 0, none⟩ = some (.int .i64 n) ∧ w'.cell? ⟨L11, 1, none⟩ = some (.slice ps (wcount n) cs)) ∧ (w'.cell? ⟨L12, 0, none⟩ = some (.int .i64 n) ∧ w'.cell? ⟨L12, 1, none⟩ = some (.slice pp (wcount n) cp)) ∧ (w'.cell? ⟨wn.heap.size, 0, none⟩ = some (.int .i64 n) ∧ w'.cell? ⟨wn.heap.size, 1, none⟩ = some (.slice pn (wcount n) cn)))) (by kernel_rfl) ?_ (fun hHeld => ?_)
    · (try dsimp only)
      exact ⟨HT10.out.pr 5 rfl, HT10.out.pr 4 rfl, HT10.out.pr 3 rfl, HT10.out.pr 2 rfl, HT10.out.pr 1 rfl, HT10.out.pr 0 rfl⟩
    refine held_take (i := 0) (v := ?_) rfl (by kernel_rfl) (by kernel_rfl) (by kernel_rfl) (fun _ _ _ h => h) (Or.inl ⟨by rfl, ?_⟩) (by assumption) ?_
    rotate_left
    · intro w hSw; (try dsimp only at hSw); go_simp; (try with_reducible rfl)
    (try simp only [Act.put, List.setIfInBounds_toArray, List.set_cons_zero, List.set_cons_succ])
    refine held_take (i := 1) (v := ?_) rfl (by kernel_rfl) (by kernel_rfl) (by kernel_rfl) (fun _ _ _ h => h) (Or.inl ⟨by rfl, ?_⟩) (by assumption) ?_
    rotate_left
    · intro w hSw; (try dsimp only at hSw); go_simp; (try with_reducible rfl)
    (try simp only [Act.put, List.setIfInBounds_toArray, List.set_cons_zero, List.set_cons_succ])
    refine held_take (i := 2) (v := ?_) rfl (by kernel_rfl) (by kernel_rfl) (by kernel_rfl) (fun _ _ _ h => h) (Or.inl ⟨by rfl, ?_⟩) (by assumption) ?_
    rotate_left
    · intro w hSw; (try dsimp only at hSw); go_simp; (try with_reducible rfl)
    (try simp only [Act.put, List.setIfInBounds_toArray, List.set_cons_zero, List.set_cons_succ])
    refine held_take (i := 3) (v := ?_) rfl (by kernel_rfl) (by kernel_rfl) (by kernel_rfl) (fun _ _ _ h => h) (Or.inl ⟨by rfl, ?_⟩) (by assumption) ?_
    rotate_left
    · intro w hSw; (try dsimp only at hSw); go_simp; (try with_reducible rfl)
    (try simp only [Act.put, List.setIfInBounds_toArray, List.set_cons_zero, List.set_cons_succ])
    refine held_take (i := 4) (v := ?_) rfl (by kernel_rfl) (by kernel_rfl) (by kernel_rfl) (fun _ _ _ h => h) (Or.inl ⟨by rfl, ?_⟩) (by assumption) ?_
    rotate_left
    · intro w hSw; (try dsimp only at hSw); go_simp; (try with_reducible rfl)
    (try simp only [Act.put, List.setIfInBounds_toArray, List.set_cons_zero, List.set_cons_succ])
    refine held_take (i := 5) (v := ?_) rfl (by kernel_rfl) (by kernel_rfl) (by kernel_rfl) (fun _ _ _ h => h) (Or.inl ⟨by rfl, ?_⟩) (by assumption) ?_
    rotate_left
    · intro w hSw; (try dsimp only at hSw); go_simp; (try with_reducible rfl)
    (try simp only [Act.put, List.setIfInBounds_toArray, List.set_cons_zero, List.set_cons_succ])
    refine held_take (i := 7) (v := ?_) rfl (by kernel_rfl) (by kernel_rfl) (by kernel_rfl) (fun _ _ _ h => h) (Or.inl ⟨by rfl, ?_⟩) (by assumption) ?_
    rotate_left
    · intro w hSw; (try dsimp only at hSw); go_simp; (try with_reducible rfl)
    (try simp only [Act.put, List.setIfInBounds_toArray, List.set_cons_zero, List.set_cons_succ])
    refine held_take (i := 8) (v := ?_) rfl (by kernel_rfl) (by kernel_rfl) (by kernel_rfl) (fun _ _ _ h => h) (Or.inl ⟨by rfl, ?_⟩) (by assumption) ?_
    rotate_left
    · intro w hSw; (try dsimp only at hSw); go_simp; (try with_reducible rfl)
    (try simp only [Act.put, List.setIfInBounds_toArray, List.set_cons_zero, List.set_cons_succ])
    refine held_take (i := 9) (v := ?_) rfl (by kernel_rfl) (by kernel_rfl) (by kernel_rfl) (fun _ _ _ h => h) (Or.inl ⟨by rfl, ?_⟩) (by assumption) ?_
    rotate_left
    · intro w hSw; (try dsimp only at hSw); go_simp; (try with_reducible rfl)
    (try simp only [Act.put, List.setIfInBounds_toArray, List.set_cons_zero, List.set_cons_succ])
    refine wpAnyH_ready (rs := [6]) (by kernel_rfl) (by simp) ?_
    refine held_cons rfl (fun K hK => ?_) AllReadyH.nil
    go_simp
    refine (op_any (k := 0) VRx10.out VRn10.out fun w' hb => bin_0 (VRx10.out.below hb) (VRn10.out.below hb) HN.out.1).mono ?_; rintro e wk11 ⟨vk11, rfl, hvk11, hbk11, _⟩
    obtain ⟨pk11, ck11, rfl, _⟩ := hvk11.ex
    have VRx11 := Lib.hid (VRx10.out.below hbk11)
    have VRy11 := Lib.hid (VRy10.out.below hbk11)
    have VRz11 := Lib.hid (VRz10.out.below hbk11)
    have VRs11 := Lib.hid (VRs10.out.below hbk11)
    have VRp11 := Lib.hid (VRp10.out.below hbk11)
    have VRn11 := Lib.hid (VRn10.out.below hbk11)
    have HT11 := Lib.hid (HT10.out.below hbk11)
    have VRt111 := Lib.hid hvk11
    clear hvk11 hbk11
    (try go_simp)
    refine hK.out _ _ ?_ (fun hHeld2 => ?_)
    · (try dsimp only)
      exact ⟨HT11.out.pr 5 rfl, HT11.out.pr 4 rfl, HT11.out.pr 3 rfl, HT11.out.pr 2 rfl, HT11.out.pr 1 rfl, HT11.out.pr 0 rfl⟩
    clear hK K hHeld
    have hHeld := hHeld2
    clear hHeld2
    (try simp only [Act.put, List.setIfInBounds_toArray, List.set_cons_zero, List.set_cons_succ])
    refine wpAnyH_ready (rs := [10]) (by kernel_rfl) (by simp) ?_
    refine held_cons rfl (fun K hK => ?_) AllReadyH.nil
    go_simp
    refine (op_any (k := 1) VRx11.out VRy11.out fun w' hb => bin_1 (VRx11.out.below hb) (VRy11.out.below hb) HN.out.1).mono ?_; rintro e wk12 ⟨vk12, rfl, hvk12, hbk12, _⟩
    obtain ⟨pk12, ck12, rfl, _⟩ := hvk12.ex
    have VRx12 := Lib.hid (VRx11.out.below hbk12)
    have VRy12 := Lib.hid (VRy11.out.below hbk12)
    have VRz12 := Lib.hid (VRz11.out.below hbk12)
    have VRs12 := Lib.hid (VRs11.out.below hbk12)
    have VRp12 := Lib.hid (VRp11.out.below hbk12)
    have VRn12 := Lib.hid (VRn11.out.below hbk12)
    have VRt112 := Lib.hid (VRt111.out.below hbk12)
    have HT12 := Lib.hid (HT11.out.below hbk12)
    have VRt212 := Lib.hid hvk12
    clear hvk12 hbk12
    (try go_simp)
    refine hK.out _ _ ?_ (fun hHeld2 => ?_)
    · (try dsimp only)
      exact ⟨HT12.out.pr 5 rfl, HT12.out.pr 4 rfl, HT12.out.pr 3 rfl, HT12.out.pr 2 rfl, HT12.out.pr 1 rfl, HT12.out.pr 0 rfl⟩
    clear hK K hHeld
    have hHeld := hHeld2
    clear hHeld2
    (try simp only [Act.put, List.setIfInBounds_toArray, List.set_cons_zero, List.set_cons_succ])
    refine wpAnyH_ready (rs := [11]) (by kernel_rfl) (by simp) ?_
    refine held_cons rfl (fun K hK => ?_) AllReadyH.nil
    go_simp
    have HE13 := equal_any VRt112.out VRt212.out
    rw [show decide (n = n ∧ (X + negN n Y + 0) % 2 ^ n = (X + notN n Y + 1) % 2 ^ n) = true by rw [ring_neg HXY.out.1 HXY.out.2]; simp] at HE13
    refine HE13.mono ?_; rintro e wk13 ⟨rfl, hbk13⟩
    have VRx13 := Lib.hid (VRx12.out.below hbk13)
    have VRy13 := Lib.hid (VRy12.out.below hbk13)
    have VRz13 := Lib.hid (VRz12.out.below hbk13)
    have VRs13 := Lib.hid (VRs12.out.below hbk13)
    have VRp13 := Lib.hid (VRp12.out.below hbk13)
    have VRn13 := Lib.hid (VRn12.out.below hbk13)
    have VRt113 := Lib.hid (VRt112.out.below hbk13)
    have VRt213 := Lib.hid (VRt212.out.below hbk13)
    have HT13 := Lib.hid (HT12.out.below hbk13)
    clear hbk13 HE13
    (try go_simp)
    refine hK.out _ _ ?_ (fun hHeld2 => ?_)
    · (try dsimp only)
      exact ⟨HT13.out.pr 5 rfl, HT13.out.pr 4 rfl, HT13.out.pr 3 rfl, HT13.out.pr 2 rfl, HT13.out.pr 1 rfl, HT13.out.pr 0 rfl⟩
    clear hK K hHeld
    have hHeld := hHeld2
    clear hHeld2
    (try simp only [Act.put, List.setIfInBounds_toArray, List.set_cons_zero, List.set_cons_succ])
    refine held_take (i := 12) (v := ?_) rfl (by kernel_rfl) (by kernel_rfl) (by kernel_rfl) (fun _ _ _ h => h) (Or.inl ⟨by rfl, ?_⟩) (by assumption) ?_
    rotate_left
    · intro w hSw; (try dsimp only at hSw); go_simp; (try with_reducible rfl)
    (try simp only [Act.put, List.setIfInBounds_toArray, List.set_cons_zero, List.set_cons_succ])
    refine held_take (i := 13) (v := ?_) rfl (by kernel_rfl) (by kernel_rfl) (by kernel_rfl) (fun _ _ _ h => h) (Or.inl ⟨by rfl, ?_⟩) (by assumption) ?_
    rotate_left
    · intro w hSw; (try dsimp only at hSw); go_simp; (try with_reducible rfl)
    (try simp only [Act.put, List.setIfInBounds_toArray, List.set_cons_zero, List.set_cons_succ])
    refine held_take (i := 14) (v := ?_) rfl (by kernel_rfl) (by kernel_rfl) (by kernel_rfl) (fun _ _ _ h => h) (Or.inl ⟨by rfl, ?_⟩) (by assumption) ?_
    rotate_left
    · intro w hSw; (try dsimp only at hSw); go_simp; (try with_reducible rfl)
    (try simp only [Act.put, List.setIfInBounds_toArray, List.set_cons_zero, List.set_cons_succ])
    refine held_take (i := 15) (v := ?_) rfl (by kernel_rfl) (by kernel_rfl) (by kernel_rfl) (fun _ _ _ h => h) (Or.inl ⟨by rfl, ?_⟩) (by assumption) ?_
    rotate_left
    · intro w hSw; (try dsimp only at hSw); go_simp; (try with_reducible rfl)
    (try simp only [Act.put, List.setIfInBounds_toArray, List.set_cons_zero, List.set_cons_succ])
    refine held_take (i := 16) (v := ?_) rfl (by kernel_rfl) (by kernel_rfl) (by kernel_rfl) (fun _ _ _ h => h) (Or.inl ⟨by rfl, ?_⟩) (by assumption) ?_
    rotate_left
    · intro w hSw; (try dsimp only at hSw); go_simp; (try with_reducible rfl)
    (try simp only [Act.put, List.setIfInBounds_toArray, List.set_cons_zero, List.set_cons_succ])
    refine held_take (i := 18) (v := ?_) rfl (by kernel_rfl) (by kernel_rfl) (by kernel_rfl) (fun _ _ _ h => h) (Or.inl ⟨by rfl, ?_⟩) (by assumption) ?_
    rotate_left
    · intro w hSw; (try dsimp only at hSw); go_simp; (try with_reducible rfl)
    (try simp only [Act.put, List.setIfInBounds_toArray, List.set_cons_zero, List.set_cons_succ])
    refine held_take (i := 19) (v := ?_) rfl (by kernel_rfl) (by kernel_rfl) (by kernel_rfl) (fun _ _ _ h => h) (Or.inl ⟨by rfl, ?_⟩) (by assumption) ?_
    rotate_left
    · intro w hSw; (try dsimp only at hSw); go_simp; (try with_reducible rfl)
    (try simp only [Act.put, List.setIfInBounds_toArray, List.set_cons_zero, List.set_cons_succ])
    refine held_take (i := 20) (v := ?_) rfl (by kernel_rfl) (by kernel_rfl) (by kernel_rfl) (fun _ _ _ h => h) (Or.inl ⟨by rfl, ?_⟩) (by assumption) ?_
    rotate_left
    · intro w hSw; (try dsimp only at hSw); go_simp; (try with_reducible rfl)
    (try simp only [Act.put, List.setIfInBounds_toArray, List.set_cons_zero, List.set_cons_succ])
    refine held_take (i := 21) (v := ?_) rfl (by kernel_rfl) (by kernel_rfl) (by kernel_rfl) (fun _ _ _ h => h) (Or.inl ⟨by rfl, ?_⟩) (by assumption) ?_
    rotate_left
    · intro w hSw; (try dsimp only at hSw); go_simp; (try with_reducible rfl)
    (try simp only [Act.put, List.setIfInBounds_toArray, List.set_cons_zero, List.set_cons_succ])
    refine held_take (i := 22) (v := ?_) rfl (by kernel_rfl) (by kernel_rfl) (by kernel_rfl) (fun _ _ _ h => h) (Or.inl ⟨by rfl, ?_⟩) (by assumption) ?_
    rotate_left
    · intro w hSw; (try dsimp only at hSw); go_simp; (try with_reducible rfl)
    (try simp only [Act.put, List.setIfInBounds_toArray, List.set_cons_zero, List.set_cons_succ])
    refine wpAnyH_ready (rs := [17]) (by kernel_rfl) (by simp) ?_
    refine held_cons rfl (fun K hK => ?_) AllReadyH.nil
    go_simp
    refine (op_any (k := 0) VRs13.out VRz13.out fun w' hb => bin_0 (VRs13.out.below hb) (VRz13.out.below hb) HN.out.1).mono ?_; rintro e wk14 ⟨vk14, rfl, hvk14, hbk14, _⟩
    obtain ⟨pk14, ck14, rfl, _⟩ := hvk14.ex
    have VRx14 := Lib.hid (VRx13.out.below hbk14)
    have VRy14 := Lib.hid (VRy13.out.below hbk14)
    have VRz14 := Lib.hid (VRz13.out.below hbk14)
    have VRs14 := Lib.hid (VRs13.out.below hbk14)
    have VRp14 := Lib.hid (VRp13.out.below hbk14)
    have VRn14 := Lib.hid (VRn13.out.below hbk14)
    have HT14 := Lib.hid (HT13.out.below hbk14)
    have VRt314 := Lib.hid hvk14
    clear hvk14 hbk14
    (try go_simp)
    refine hK.out _ _ ?_ (fun hHeld2 => ?_)
    · (try dsimp only)
      exact ⟨HT14.out.pr 5 rfl, HT14.out.pr 4 rfl, HT14.out.pr 3 rfl, HT14.out.pr 2 rfl, HT14.out.pr 1 rfl, HT14.out.pr 0 rfl⟩
    clear hK K hHeld
    have hHeld := hHeld2
    clear hHeld2
    (try simp only [Act.put, List.setIfInBounds_toArray, List.set_cons_zero, List.set_cons_succ])
    refine wpAnyH_ready (rs := [23]) (by kernel_rfl) (by simp) ?_
    refine held_cons rfl (fun K hK => ?_) AllReadyH.nil
    go_simp
    refine (op_any (k := 0) VRy14.out VRz14.out fun w' hb => bin_0 (VRy14.out.below hb) (VRz14.out.below hb) HN.out.1).mono ?_; rintro e wk15 ⟨vk15, rfl, hvk15, hbk15, _⟩
    obtain ⟨pk15, ck15, rfl, _⟩ := hvk15.ex
    have VRx15 := Lib.hid (VRx14.out.below hbk15)
    have VRy15 := Lib.hid (VRy14.out.below hbk15)
    have VRz15 := Lib.hid (VRz14.out.below hbk15)
    have VRs15 := Lib.hid (VRs14.out.below hbk15)
    have VRp15 := Lib.hid (VRp14.out.below hbk15)
    have VRn15 := Lib.hid (VRn14.out.below hbk15)
    have VRt315 := Lib.hid (VRt314.out.below hbk15)
    have HT15 := Lib.hid (HT14.out.below hbk15)
    have VRt415 := Lib.hid hvk15
    clear hvk15 hbk15
    (try go_simp)
    refine hK.out _ _ ?_ (fun hHeld2 => ?_)
    · (try dsimp only)
      exact ⟨HT15.out.pr 5 rfl, HT15.out.pr 4 rfl, HT15.out.pr 3 rfl, HT15.out.pr 2 rfl, HT15.out.pr 1 rfl, HT15.out.pr 0 rfl⟩
    clear hK K hHeld
    have hHeld := hHeld2
    clear hHeld2
    (try simp only [Act.put, List.setIfInBounds_toArray, List.set_cons_zero, List.set_cons_succ])
    refine wpAnyH_ready (rs := [24]) (by kernel_rfl) (by simp) ?_
    refine held_cons rfl (fun K hK => ?_) AllReadyH.nil
    go_simp
    refine (op_any (k := 0) VRx15.out VRt415.out fun w' hb => bin_0 (VRx15.out.below hb) (VRt415.out.below hb) HN.out.1).mono ?_; rintro e wk16 ⟨vk16, rfl, hvk16, hbk16, _⟩
    obtain ⟨pk16, ck16, rfl, _⟩ := hvk16.ex
    have VRx16 := Lib.hid (VRx15.out.below hbk16)
    have VRy16 := Lib.hid (VRy15.out.below hbk16)
    have VRz16 := Lib.hid (VRz15.out.below hbk16)
    have VRs16 := Lib.hid (VRs15.out.below hbk16)
    have VRp16 := Lib.hid (VRp15.out.below hbk16)
    have VRn16 := Lib.hid (VRn15.out.below hbk16)
    have VRt316 := Lib.hid (VRt315.out.below hbk16)
    have VRt416 := Lib.hid (VRt415.out.below hbk16)
    have HT16 := Lib.hid (HT15.out.below hbk16)
    have VRt516 := Lib.hid hvk16
    clear hvk16 hbk16
    (try go_simp)
    refine hK.out _ _ ?_ (fun hHeld2 => ?_)
    · (try dsimp only)
      exact ⟨HT16.out.pr 5 rfl, HT16.out.pr 4 rfl, HT16.out.pr 3 rfl, HT16.out.pr 2 rfl, HT16.out.pr 1 rfl, HT16.out.pr 0 rfl⟩
    clear hK K hHeld
    have hHeld := hHeld2
    clear hHeld2
    (try simp only [Act.put, List.setIfInBounds_toArray, List.set_cons_zero, List.set_cons_succ])
    refine wpAnyH_ready (rs := [25]) (by kernel_rfl) (by simp) ?_
    refine held_cons rfl (fun K hK => ?_) AllReadyH.nil
    go_simp
    have HE17 := equal_any VRt316.out VRt516.out
    rw [show decide (n = n ∧ ((X + Y + 0) % 2 ^ n + Z + 0) % 2 ^ n = (X + (Y + Z + 0) % 2 ^ n + 0) % 2 ^ n) = true by rw [ring_assoc n X Y Z]; simp] at HE17
    refine HE17.mono ?_; rintro e wk17 ⟨rfl, hbk17⟩
    have VRx17 := Lib.hid (VRx16.out.below hbk17)
    have VRy17 := Lib.hid (VRy16.out.below hbk17)
    have VRz17 := Lib.hid (VRz16.out.below hbk17)
    have VRs17 := Lib.hid (VRs16.out.below hbk17)
    have VRp17 := Lib.hid (VRp16.out.below hbk17)
    have VRn17 := Lib.hid (VRn16.out.below hbk17)
    have VRt317 := Lib.hid (VRt316.out.below hbk17)
    have VRt417 := Lib.hid (VRt416.out.below hbk17)
    have VRt517 := Lib.hid (VRt516.out.below hbk17)
    have HT17 := Lib.hid (HT16.out.below hbk17)
    clear hbk17 HE17
    (try go_simp)
    refine hK.out _ _ ?_ (fun hHeld2 => ?_)
    · (try dsimp only)
      exact ⟨HT17.out.pr 5 rfl, HT17.out.pr 4 rfl, HT17.out.pr 3 rfl, HT17.out.pr 2 rfl, HT17.out.pr 1 rfl, HT17.out.pr 0 rfl⟩
    clear hK K hHeld
    have hHeld := hHeld2
    clear hHeld2
    (try simp only [Act.put, List.setIfInBounds_toArray, List.set_cons_zero, List.set_cons_succ])
    refine held_take (i := 26) (v := ?_) rfl (by kernel_rfl) (by kernel_rfl) (by kernel_rfl) (fun _ _ _ h => h) (Or.inl ⟨by rfl, ?_⟩) (by assumption) ?_
    rotate_left
    · intro w hSw; (try dsimp only at hSw); go_simp; (try with_reducible rfl)
    (try simp only [Act.put, List.setIfInBounds_toArray, List.set_cons_zero, List.set_cons_succ])
    refine held_take (i := 27) (v := ?_) rfl (by kernel_rfl) (by kernel_rfl) (by kernel_rfl) (fun _ _ _ h => h) (Or.inl ⟨by rfl, ?_⟩) (by assumption) ?_
    rotate_left
    · intro w hSw; (try dsimp only at hSw); go_simp; (try with_reducible rfl)
    (try simp only [Act.put, List.setIfInBounds_toArray, List.set_cons_zero, List.set_cons_succ])
    refine held_take (i := 28) (v := ?_) rfl (by kernel_rfl) (by kernel_rfl) (by kernel_rfl) (fun _ _ _ h => h) (Or.inl ⟨by rfl, ?_⟩) (by assumption) ?_
    rotate_left
    · intro w hSw; (try dsimp only at hSw); go_simp; (try with_reducible rfl)
    (try simp only [Act.put, List.setIfInBounds_toArray, List.set_cons_zero, List.set_cons_succ])
    refine held_take (i := 29) (v := ?_) rfl (by kernel_rfl) (by kernel_rfl) (by kernel_rfl) (fun _ _ _ h => h) (Or.inl ⟨by rfl, ?_⟩) (by assumption) ?_
    rotate_left
    · intro w hSw; (try dsimp only at hSw); go_simp; (try with_reducible rfl)
    (try simp only [Act.put, List.setIfInBounds_toArray, List.set_cons_zero, List.set_cons_succ])
    refine held_take (i := 30) (v := ?_) rfl (by kernel_rfl) (by kernel_rfl) (by kernel_rfl) (fun _ _ _ h => h) (Or.inl ⟨by rfl, ?_⟩) (by assumption) ?_
    rotate_left
    · intro w hSw; (try dsimp only at hSw); go_simp; (try with_reducible rfl)
    (try simp only [Act.put, List.setIfInBounds_toArray, List.set_cons_zero, List.set_cons_succ])
    refine held_take (i := 32) (v := ?_) rfl (by kernel_rfl) (by kernel_rfl) (by kernel_rfl) (fun _ _ _ h => h) (Or.inl ⟨by rfl, ?_⟩) (by assumption) ?_
    rotate_left
    · intro w hSw; (try dsimp only at hSw); go_simp; (try with_reducible rfl)
    (try simp only [Act.put, List.setIfInBounds_toArray, List.set_cons_zero, List.set_cons_succ])
    refine held_take (i := 33) (v := ?_) rfl (by kernel_rfl) (by kernel_rfl) (by kernel_rfl) (fun _ _ _ h => h) (Or.inl ⟨by rfl, ?_⟩) (by assumption) ?_
    rotate_left
    · intro w hSw; (try dsimp only at hSw); go_simp; (try with_reducible rfl)
    (try simp only [Act.put, List.setIfInBounds_toArray, List.set_cons_zero, List.set_cons_succ])
    refine held_take (i := 34) (v := ?_) rfl (by kernel_rfl) (by kernel_rfl) (by kernel_rfl) (fun _ _ _ h => h) (Or.inl ⟨by rfl, ?_⟩) (by assumption) ?_
    rotate_left
    · intro w hSw; (try dsimp only at hSw); go_simp; (try with_reducible rfl)
    (try simp only [Act.put, List.setIfInBounds_toArray, List.set_cons_zero, List.set_cons_succ])
    refine held_take (i := 35) (v := ?_) rfl (by kernel_rfl) (by kernel_rfl) (by kernel_rfl) (fun _ _ _ h => h) (Or.inl ⟨by rfl, ?_⟩) (by assumption) ?_
    rotate_left
    · intro w hSw; (try dsimp only at hSw); go_simp; (try with_reducible rfl)
    (try simp only [Act.put, List.setIfInBounds_toArray, List.set_cons_zero, List.set_cons_succ])
    refine held_take (i := 37) (v := ?_) rfl (by kernel_rfl) (by kernel_rfl) (by kernel_rfl) (fun _ _ _ h => h) (Or.inl ⟨by rfl, ?_⟩) (by assumption) ?_
    rotate_left
    · intro w hSw; (try dsimp only at hSw); go_simp; (try with_reducible rfl)
    (try simp only [Act.put, List.setIfInBounds_toArray, List.set_cons_zero, List.set_cons_succ])
    refine held_take (i := 38) (v := ?_) rfl (by kernel_rfl) (by kernel_rfl) (by kernel_rfl) (fun _ _ _ h => h) (Or.inl ⟨by rfl, ?_⟩) (by assumption) ?_
    rotate_left
    · intro w hSw; (try dsimp only at hSw); go_simp; (try with_reducible rfl)
    (try simp only [Act.put, List.setIfInBounds_toArray, List.set_cons_zero, List.set_cons_succ])
    refine held_take (i := 39) (v := ?_) rfl (by kernel_rfl) (by kernel_rfl) (by kernel_rfl) (fun _ _ _ h => h) (Or.inl ⟨by rfl, ?_⟩) (by assumption) ?_
    rotate_left
    · intro w hSw; (try dsimp only at hSw); go_simp; (try with_reducible rfl)
    (try simp only [Act.put, List.setIfInBounds_toArray, List.set_cons_zero, List.set_cons_succ])
    refine wpAnyH_ready (rs := [31]) (by kernel_rfl) (by simp) ?_
    refine held_cons rfl (fun K hK => ?_) AllReadyH.nil
    go_simp
    refine (op_any (k := 2) VRs17.out VRz17.out fun w' hb => bin_2 (VRs17.out.below hb) (VRz17.out.below hb) HN.out.1).mono ?_; rintro e wk18 ⟨vk18, rfl, hvk18, hbk18, _⟩
    obtain ⟨pk18, ck18, rfl, _⟩ := hvk18.ex
    have VRx18 := Lib.hid (VRx17.out.below hbk18)
    have VRy18 := Lib.hid (VRy17.out.below hbk18)
    have VRz18 := Lib.hid (VRz17.out.below hbk18)
    have VRs18 := Lib.hid (VRs17.out.below hbk18)
    have VRp18 := Lib.hid (VRp17.out.below hbk18)
    have VRn18 := Lib.hid (VRn17.out.below hbk18)
    have VRt418 := Lib.hid (VRt417.out.below hbk18)
    have HT18 := Lib.hid (HT17.out.below hbk18)
    have VRt618 := Lib.hid hvk18
    clear hvk18 hbk18
    (try go_simp)
    refine hK.out _ _ ?_ (fun hHeld2 => ?_)
    · (try dsimp only)
      exact ⟨HT18.out.pr 5 rfl, HT18.out.pr 4 rfl, HT18.out.pr 3 rfl, HT18.out.pr 2 rfl, HT18.out.pr 1 rfl, HT18.out.pr 0 rfl⟩
    clear hK K hHeld
    have hHeld := hHeld2
    clear hHeld2
    (try simp only [Act.put, List.setIfInBounds_toArray, List.set_cons_zero, List.set_cons_succ])
    refine wpAnyH_ready (rs := [36]) (by kernel_rfl) (by simp) ?_
    refine held_cons rfl (fun K hK => ?_) AllReadyH.nil
    go_simp
    refine (op_any (k := 2) VRx18.out VRz18.out fun w' hb => bin_2 (VRx18.out.below hb) (VRz18.out.below hb) HN.out.1).mono ?_; rintro e wk19 ⟨vk19, rfl, hvk19, hbk19, _⟩
    obtain ⟨pk19, ck19, rfl, _⟩ := hvk19.ex
    have VRx19 := Lib.hid (VRx18.out.below hbk19)
    have VRy19 := Lib.hid (VRy18.out.below hbk19)
    have VRz19 := Lib.hid (VRz18.out.below hbk19)
    have VRs19 := Lib.hid (VRs18.out.below hbk19)
    have VRp19 := Lib.hid (VRp18.out.below hbk19)
    have VRn19 := Lib.hid (VRn18.out.below hbk19)
    have VRt419 := Lib.hid (VRt418.out.below hbk19)
    have VRt619 := Lib.hid (VRt618.out.below hbk19)
    have HT19 := Lib.hid (HT18.out.below hbk19)
    have VRt719 := Lib.hid hvk19
    clear hvk19 hbk19
    (try go_simp)
    refine hK.out _ _ ?_ (fun hHeld2 => ?_)
    · (try dsimp only)
      exact ⟨HT19.out.pr 5 rfl, HT19.out.pr 4 rfl, HT19.out.pr 3 rfl, HT19.out.pr 2 rfl, HT19.out.pr 1 rfl, HT19.out.pr 0 rfl⟩
    clear hK K hHeld
    have hHeld := hHeld2
    clear hHeld2
    (try simp only [Act.put, List.setIfInBounds_toArray, List.set_cons_zero, List.set_cons_succ])
    refine wpAnyH_ready (rs := [40]) (by kernel_rfl) (by simp) ?_
    refine held_cons rfl (fun K hK => ?_) AllReadyH.nil
    go_simp
    refine (op_any (k := 2) VRy19.out VRz19.out fun w' hb => bin_2 (VRy19.out.below hb) (VRz19.out.below hb) HN.out.1).mono ?_; rintro e wk20 ⟨vk20, rfl, hvk20, hbk20, _⟩
    obtain ⟨pk20, ck20, rfl, _⟩ := hvk20.ex
    have VRx20 := Lib.hid (VRx19.out.below hbk20)
    have VRy20 := Lib.hid (VRy19.out.below hbk20)
    have VRz20 := Lib.hid (VRz19.out.below hbk20)
    have VRs20 := Lib.hid (VRs19.out.below hbk20)
    have VRp20 := Lib.hid (VRp19.out.below hbk20)
    have VRn20 := Lib.hid (VRn19.out.below hbk20)
    have VRt420 := Lib.hid (VRt419.out.below hbk20)
    have VRt620 := Lib.hid (VRt619.out.below hbk20)
    have VRt720 := Lib.hid (VRt719.out.below hbk20)
    have HT20 := Lib.hid (HT19.out.below hbk20)
    have VRt820 := Lib.hid hvk20
    clear hvk20 hbk20
    (try go_simp)
    refine hK.out _ _ ?_ (fun hHeld2 => ?_)
    · (try dsimp only)
      exact ⟨HT20.out.pr 5 rfl, HT20.out.pr 4 rfl, HT20.out.pr 3 rfl, HT20.out.pr 2 rfl, HT20.out.pr 1 rfl, HT20.out.pr 0 rfl⟩
    clear hK K hHeld
    have hHeld := hHeld2
    clear hHeld2
    (try simp only [Act.put, List.setIfInBounds_toArray, List.set_cons_zero, List.set_cons_succ])
    refine wpAnyH_ready (rs := [41]) (by kernel_rfl) (by simp) ?_
    refine held_cons rfl (fun K hK => ?_) AllReadyH.nil
    go_simp
    refine (op_any (k := 0) VRt720.out VRt820.out fun w' hb => bin_0 (VRt720.out.below hb) (VRt820.out.below hb) HN.out.1).mono ?_; rintro e wk21 ⟨vk21, rfl, hvk21, hbk21, _⟩
    obtain ⟨pk21, ck21, rfl, _⟩ := hvk21.ex
    have VRx21 := Lib.hid (VRx20.out.below hbk21)
    have VRy21 := Lib.hid (VRy20.out.below hbk21)
    have VRz21 := Lib.hid (VRz20.out.below hbk21)
    have VRs21 := Lib.hid (VRs20.out.below hbk21)
    have VRp21 := Lib.hid (VRp20.out.below hbk21)
    have VRn21 := Lib.hid (VRn20.out.below hbk21)
    have VRt421 := Lib.hid (VRt420.out.below hbk21)
    have VRt621 := Lib.hid (VRt620.out.below hbk21)
    have VRt721 := Lib.hid (VRt720.out.below hbk21)
    have VRt821 := Lib.hid (VRt820.out.below hbk21)
    have HT21 := Lib.hid (HT20.out.below hbk21)
    have VRt921 := Lib.hid hvk21
    clear hvk21 hbk21
    (try go_simp)
    refine hK.out _ _ ?_ (fun hHeld2 => ?_)
    · (try dsimp only)
      exact ⟨HT21.out.pr 5 rfl, HT21.out.pr 4 rfl, HT21.out.pr 3 rfl, HT21.out.pr 2 rfl, HT21.out.pr 1 rfl, HT21.out.pr 0 rfl⟩
    clear hK K hHeld
    have hHeld := hHeld2
    clear hHeld2
    (try simp only [Act.put, List.setIfInBounds_toArray, List.set_cons_zero, List.set_cons_succ])
    refine wpAnyH_ready (rs := [42]) (by kernel_rfl) (by simp) ?_
    refine held_cons rfl (fun K hK => ?_) AllReadyH.nil
    go_simp
    have HE22 := equal_any VRt621.out VRt921.out
    rw [show decide (n = n ∧ (X + Y + 0) % 2 ^ n * Z % 2 ^ n = (X * Z % 2 ^ n + Y * Z % 2 ^ n + 0) % 2 ^ n) = true by rw [ring_dist n X Y Z]; simp] at HE22
    refine HE22.mono ?_; rintro e wk22 ⟨rfl, hbk22⟩
    have VRx22 := Lib.hid (VRx21.out.below hbk22)
    have VRy22 := Lib.hid (VRy21.out.below hbk22)
    have VRz22 := Lib.hid (VRz21.out.below hbk22)
    have VRs22 := Lib.hid (VRs21.out.below hbk22)
    have VRp22 := Lib.hid (VRp21.out.below hbk22)
    have VRn22 := Lib.hid (VRn21.out.below hbk22)
    have VRt422 := Lib.hid (VRt421.out.below hbk22)
    have VRt622 := Lib.hid (VRt621.out.below hbk22)
    have VRt722 := Lib.hid (VRt721.out.below hbk22)
    have VRt822 := Lib.hid (VRt821.out.below hbk22)
    have VRt922 := Lib.hid (VRt921.out.below hbk22)
    have HT22 := Lib.hid (HT21.out.below hbk22)
    clear hbk22 HE22
    (try go_simp)
    refine hK.out _ _ ?_ (fun hHeld2 => ?_)
    · (try dsimp only)
      exact ⟨HT22.out.pr 5 rfl, HT22.out.pr 4 rfl, HT22.out.pr 3 rfl, HT22.out.pr 2 rfl, HT22.out.pr 1 rfl, HT22.out.pr 0 rfl⟩
    clear hK K hHeld
    have hHeld := hHeld2
    clear hHeld2
    (try simp only [Act.put, List.setIfInBounds_toArray, List.set_cons_zero, List.set_cons_succ])
    refine held_take (i := 43) (v := ?_) rfl (by kernel_rfl) (by kernel_rfl) (by kernel_rfl) (fun _ _ _ h => h) (Or.inl ⟨by rfl, ?_⟩) (by assumption) ?_
    rotate_left
    · intro w hSw; (try dsimp only at hSw); go_simp; (try with_reducible rfl)
    (try simp only [Act.put, List.setIfInBounds_toArray, List.set_cons_zero, List.set_cons_succ])
    refine held_take (i := 44) (v := ?_) rfl (by kernel_rfl) (by kernel_rfl) (by kernel_rfl) (fun _ _ _ h => h) (Or.inl ⟨by rfl, ?_⟩) (by assumption) ?_
    rotate_left
    · intro w hSw; (try dsimp only at hSw); go_simp; (try with_reducible rfl)
    (try simp only [Act.put, List.setIfInBounds_toArray, List.set_cons_zero, List.set_cons_succ])
    refine wpAnyH_done (by kernel_rfl) ?_ _
    go_wp2_with fail
    go_ret
    exact ⟨rfl, HT22.out.bel⟩
end Go.Proofs.Ytmimafbedbohiaa
