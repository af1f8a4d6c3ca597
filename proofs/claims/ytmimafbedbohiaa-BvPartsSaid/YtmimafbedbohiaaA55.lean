import Derived.Test.YtmimafbedbohiaaK4
import Derived.Test.YtmimafbedbohiaaA43
import Derived.Test.YtmimafbedbohiaaB11
namespace Go.Proofs.Ytmimafbedbohiaa
set_option linter.unusedVariables false
open Go.RowKit

/-- signed numbers' quotient and rest -/
def sdivN (n A B : Nat) : Nat := if topB n A != topB n B then negN n (magN n A / magN n B) else magN n A / magN n B
def sremN (n A B : Nat) : Nat := if topB n A then negN n (magN n A % magN n B) else magN n A % magN n B
theorem magN_ne {n B : Nat} (hB : B < 2 ^ n) (h : B ≠ 0) : magN n B ≠ 0 := by
  unfold magN
  split
  · unfold negN
    rw [Nat.mod_eq_of_lt (by omega)]; omega
  · exact h

theorem VR.box_ne {w : World} {p q : Option Addr} {c n x L t m d : Nat} {a : Int} (h : VR w (.agg #[.int .i64 n, .slice p (wcount n) c]) n x) (hn : 0 < n) (hk : Blk w L t [.int .i64 a, .slice q m d]) : ∀ b o, p = some ⟨b, o, none⟩ → b ≠ L := by
  rintro b o rfl rfl
  obtain ⟨⟨p', c', e, r⟩, _, _⟩ := h
  simp at e
  obtain ⟨rfl, rfl⟩ := e
  have hc := r.cell (wordsV_at (show 0 < wcount n by unfold wcount; omega))
  unfold Blk at hk
  simp [World.cell?, hk] at hc
  match o with
  | 0 => simp at hc
  | 1 => simp at hc
  | o + 2 => simp at hc
theorem VR.two_keep {w : World} {p q : Option Addr} {c n x L t m d : Nat} {a : Int} {x1 y1 : Value} (h : VR w (.agg #[.int .i64 n, .slice p (wcount n) c]) n x) (hn : 0 < n) (hk : Blk w L t [.int .i64 a, .slice q m d]) :
    VR ((w.setCell ⟨L, 0, none⟩ x1).setCell ⟨L, 1, none⟩ y1) (.agg #[.int .i64 n, .slice p (wcount n) c]) n x := h.set2 (h.box_ne hn hk)

set_option maxRecDepth 100000 in
set_option maxHeartbeats 8000000 in
theorem signed_pos {w : World} {va vb : Value} {n A B : Nat} (hA : VR w va n A) (hB : VR w vb n B) (hn : 0 < n) (h0 : B ≠ 0) :
    Calls Try.prog 84 #[va, vb] w (RetP w n (sdivN n A B) (sremN n A B)) := by
  have HA := Lib.hid hA
  have HB := Lib.hid hB
  have HN := Lib.hid hn
  obtain ⟨X, hX⟩ : ∃ X, magN n A = X := ⟨_, rfl⟩
  obtain ⟨Y, hY⟩ : ∃ Y, magN n B = Y := ⟨_, rfl⟩
  have H0 : Hid (Y ≠ 0) := Lib.hid (hY ▸ magN_ne hB.lt h0)
  have HX := Lib.hid hX
  have HY := Lib.hid hY
  have hn128 := hA.le
  have hni : (n : Int) ≤ 128 := by omega
  obtain ⟨pa, ca, rfl, ra⟩ := hA.ex
  have HAny : Hid (∀ w', Below w.heap.size w w' → Calls Try.prog 74 #[vb] w' fun e w'' => e = .returned (.bool true) ∧ Below w'.heap.size w' w'') := Lib.hid fun w' hb => by
    have := any_any (hB.below hb); rwa [show nz B = true by simp [nz, h0]] at this
  obtain ⟨pb, cb, rfl, rb⟩ := hB.ex
  clear hA hB ra rb hn128 hn h0 hX hY
  go_enter Try.func84, Try.ntmps84
  go_wp2_with fail
  have hT := ((((Tr.nil w).lay 26 [.int .i64 n, .slice pa (wcount n) ca]).lay 26 [.int .i64 n, .slice pb (wcount n) cb]).lay 26 [.int .i64 0, .slice none 0 0]).lay 26 [.int .i64 0, .slice none 0 0]
  simp only [World.size_alloc] at hT
  generalize (((w.alloc (.cells [Value.int .i64 n, .slice pa (wcount n) ca].toArray 26)).alloc (.cells [Value.int .i64 n, .slice pb (wcount n) cb].toArray 26)).alloc (.cells [Value.int .i64 0, .slice none 0 0].toArray 26)).alloc (.cells [Value.int .i64 0, .slice none 0 0].toArray 26) = W at *
  have HT := Lib.hid hT
  clear hT
  refine (HAny.out _ HT.out.bel).mono ?_; rintro e w1 ⟨rfl, hb1⟩
  have HT1 := Lib.hid (HT.out.below hb1)
  clear hb1
  go_upto_region 3 with fail
  refine wp_region_webC (w0 := w) [.known (.agg #[.int .i64 n, .slice pa (wcount n) ca]), .rel (fun v W => ∃ p c, v = .agg #[.int .i64 n, .slice p (wcount n) c] ∧ VR W (.agg #[.int .i64 n, .slice p (wcount n) c]) n (X)) (fun _ => []), .known (.agg #[.int .i64 n, .slice pb (wcount n) cb]), .rel (fun v W => ∃ p c, v = .agg #[.int .i64 n, .slice p (wcount n) c] ∧ VR W (.agg #[.int .i64 n, .slice p (wcount n) c]) n (Y)) (fun _ => []), .rel (fun v W => ∃ p c p2 c2, v = .tuple #[.agg #[.int .i64 n, .slice p (wcount n) c], .agg #[.int .i64 n, .slice p2 (wcount n) c2]] ∧ VR W (.agg #[.int .i64 n, .slice p (wcount n) c]) n (X / Y) ∧ VR W (.agg #[.int .i64 n, .slice p2 (wcount n) c2]) n (X % Y)) (fun _ => []), .rel (fun v W => ∃ p c p2 c2, v = .tuple #[.agg #[.int .i64 n, .slice p (wcount n) c], .agg #[.int .i64 n, .slice p2 (wcount n) c2]] ∧ VR W (.agg #[.int .i64 n, .slice p (wcount n) c]) n (X / Y) ∧ VR W (.agg #[.int .i64 n, .slice p2 (wcount n) c2]) n (X % Y)) (fun _ => []), .rel (fun v W => ∃ p c, v = .agg #[.int .i64 n, .slice p (wcount n) c] ∧ VR W (.agg #[.int .i64 n, .slice p (wcount n) c]) n (X / Y)) (fun _ => []), .rel (fun v W => ∃ p c, v = .agg #[.int .i64 n, .slice p (wcount n) c] ∧ VR W (.agg #[.int .i64 n, .slice p (wcount n) c]) n (X % Y)) (fun _ => []), .box 26 [Value.int .i64 0, .slice none 0 0], .box 26 [Value.int .i64 0, .slice none 0 0]] [1, 1, 1, 1, 1, 1, 1, 2, 1, 1] [(w.heap.size + 1 + 1 + 1, 26, [Value.int .i64 0, .slice none 0 0]), (w.heap.size + 1 + 1, 26, [Value.int .i64 0, .slice none 0 0]), (w.heap.size + 1, 26, [.int .i64 n, .slice pb (wcount n) cb]), (w.heap.size, 26, [.int .i64 n, .slice pa (wcount n) ca])] 24 2 #[true, true, true, true, true, true, true, true, true, true, false, false] (by kernel_rfl) (by kernel_rfl) rfl rfl rfl (Nat.le_of_ble_eq_true rfl) ⟨Sp.Mono.known, (fun _ _ _ hb ⟨p, c, e, h⟩ => ⟨p, c, e, h.below hb⟩), Sp.Mono.known, (fun _ _ _ hb ⟨p, c, e, h⟩ => ⟨p, c, e, h.below hb⟩), (fun _ _ _ hb ⟨p, c, p2, c2, e, h, h2⟩ => ⟨p, c, p2, c2, e, h.below hb, h2.below hb⟩), (fun _ _ _ hb ⟨p, c, p2, c2, e, h, h2⟩ => ⟨p, c, p2, c2, e, h.below hb, h2.below hb⟩), (fun _ _ _ hb ⟨p, c, e, h⟩ => ⟨p, c, e, h.below hb⟩), (fun _ _ _ hb ⟨p, c, e, h⟩ => ⟨p, c, e, h.below hb⟩), Sp.Mono.box, Sp.Mono.box, trivial⟩ HT1.out.drew (fun _ _ _ _ _ h => h) (A := ?_) ?_ ?_ ?_
  rotate_left
  · intro u
    simp only [fillC, Sp.val, Sp.box, Nat.reduceBEq, cond_false, Act.put, List.setIfInBounds_toArray, List.set_cons_zero, List.set_cons_succ]
    rfl
  refine ob_yes (web_op (o := _) rfl (fun u W hT hd Q K hK => ?_)) ?_
  · (try simp only [Act.put, List.setIfInBounds_toArray, List.set_cons_zero, List.set_cons_succ] at hK)
    have ca0 := (hT.pr 3 rfl).1
    have ca1 := (hT.pr 3 rfl).2
    have cb0 := (hT.pr 2 rfl).1
    have cb1 := (hT.pr 2 rfl).2
    go_simp
    exact hK.out _ _ (Below.refl _ _) rfl (fun p hp => by cases hp) List.nodup_nil
  refine ob_yes (web_op (o := _) rfl (fun u W hT hd Q K hK => ?_)) ?_
  · (try simp only [Act.put, List.setIfInBounds_toArray, List.set_cons_zero, List.set_cons_succ] at hK)
    have ca0 := (hT.pr 3 rfl).1
    have ca1 := (hT.pr 3 rfl).2
    have cb0 := (hT.pr 2 rfl).1
    have cb1 := (hT.pr 2 rfl).2
    go_simp
    refine (magnitude_any (HA.out.below hT.bel) HN.out).mono ?_; rintro e W2 ⟨v2, rfl, hv2, hb2⟩
    obtain ⟨p2, c2, rfl, _⟩ := hv2.ex
    rw [HX.out] at hv2
    (try go_simp)
    exact hK.out _ _ hb2 ⟨_, _, rfl, hv2⟩ (fun p hp => by cases hp) List.nodup_nil
  refine ob_yes (web_op (o := _) rfl (fun u W hT hd Q K hK => ?_)) ?_
  · (try simp only [Act.put, List.setIfInBounds_toArray, List.set_cons_zero, List.set_cons_succ] at hK)
    have ca0 := (hT.pr 3 rfl).1
    have ca1 := (hT.pr 3 rfl).2
    have cb0 := (hT.pr 2 rfl).1
    have cb1 := (hT.pr 2 rfl).2
    go_simp
    exact hK.out _ _ (Below.refl _ _) rfl (fun p hp => by cases hp) List.nodup_nil
  refine ob_yes (web_op (o := _) rfl (fun u W hT hd Q K hK => ?_)) ?_
  · have d1 := hd 1 (by kernel_rfl)
    generalize u 1 = x1 at *
    obtain ⟨p1, c1, rfl, v1⟩ := d1
    (try simp only [Act.put, List.setIfInBounds_toArray, List.set_cons_zero, List.set_cons_succ] at hK)
    have ca0 := (hT.pr 3 rfl).1
    have ca1 := (hT.pr 3 rfl).2
    have cb0 := (hT.pr 2 rfl).1
    have cb1 := (hT.pr 2 rfl).2
    go_simp
    refine (magnitude_any (HB.out.below hT.bel) HN.out).mono ?_; rintro e W2 ⟨v2, rfl, hv2, hb2⟩
    obtain ⟨p2, c2, rfl, _⟩ := hv2.ex
    rw [HY.out] at hv2
    (try go_simp)
    exact hK.out _ _ hb2 ⟨_, _, rfl, hv2⟩ (fun p hp => by cases hp) List.nodup_nil
  refine ob_yes (web_op (o := _) rfl (fun u W hT hd Q K hK => ?_)) ?_
  · have d1 := hd 1 (by kernel_rfl)
    generalize u 1 = x1 at *
    obtain ⟨p1, c1, rfl, v1⟩ := d1
    have d3 := hd 3 (by kernel_rfl)
    generalize u 3 = x3 at *
    obtain ⟨p3, c3, rfl, v3⟩ := d3
    (try simp only [Act.put, List.setIfInBounds_toArray, List.set_cons_zero, List.set_cons_succ] at hK)
    have ca0 := (hT.pr 3 rfl).1
    have ca1 := (hT.pr 3 rfl).2
    have cb0 := (hT.pr 2 rfl).1
    have cb1 := (hT.pr 2 rfl).2
    go_simp
    refine (split_pos v1 v3 HN.out H0.out).mono ?_; rintro e W2 ⟨v2, u2, rfl, hv2, hu2, hb2⟩
    obtain ⟨p2, c2, rfl, _⟩ := hv2.ex
    obtain ⟨p4, c4, rfl, _⟩ := hu2.ex
    (try go_simp)
    exact hK.out _ _ hb2 ⟨_, _, _, _, rfl, hv2, hu2⟩ (fun p hp => by cases hp) List.nodup_nil
  refine ob_yes (web_op (o := _) rfl (fun u W hT hd Q K hK => ?_)) ?_
  · have d4 := hd 4 (by kernel_rfl)
    generalize u 4 = x4 at *
    obtain ⟨p4, c4, q4, e4, rfl, v4, w4⟩ := d4
    (try simp only [Act.put, List.setIfInBounds_toArray, List.set_cons_zero, List.set_cons_succ] at hK)
    have ca0 := (hT.pr 3 rfl).1
    have ca1 := (hT.pr 3 rfl).2
    have cb0 := (hT.pr 2 rfl).1
    have cb1 := (hT.pr 2 rfl).2
    go_simp
    exact hK.out _ _ (Below.refl _ _) ⟨_, _, _, _, rfl, v4, w4⟩ (fun p hp => by cases hp) List.nodup_nil
  refine ob_yes (web_op (o := _) rfl (fun u W hT hd Q K hK => ?_)) ?_
  · have d5 := hd 5 (by kernel_rfl)
    generalize u 5 = x5 at *
    obtain ⟨p5, c5, q5, e5, rfl, v5, w5⟩ := d5
    (try simp only [Act.put, List.setIfInBounds_toArray, List.set_cons_zero, List.set_cons_succ] at hK)
    have ca0 := (hT.pr 3 rfl).1
    have ca1 := (hT.pr 3 rfl).2
    have cb0 := (hT.pr 2 rfl).1
    have cb1 := (hT.pr 2 rfl).2
    go_simp
    exact hK.out _ _ (Below.refl _ _) ⟨_, _, rfl, v5⟩ (fun p hp => by cases hp) List.nodup_nil
  refine ob_pure (web_pure (o := _) rfl (fun u W hT hd => ?_)) ?_
  · have d5 := hd 5 (by kernel_rfl)
    generalize u 5 = x5 at *
    obtain ⟨p5, c5, q5, e5, rfl, v5, w5⟩ := d5
    have ca0 := (hT.pr 3 rfl).1
    have ca1 := (hT.pr 3 rfl).2
    have cb0 := (hT.pr 2 rfl).1
    have cb1 := (hT.pr 2 rfl).2
    exact ⟨_, Or.inl ⟨rfl, fun w => rfl⟩, ⟨_, _, rfl, w5⟩, rfl⟩
  refine ob_yes (web_op (o := _) rfl (fun u W hT hd Q K hK => ?_)) ?_
  · (try simp only [Act.put, List.setIfInBounds_toArray, List.set_cons_zero, List.set_cons_succ] at hK)
    have ca0 := (hT.pr 3 rfl).1
    have ca1 := (hT.pr 3 rfl).2
    have cb0 := (hT.pr 2 rfl).1
    have cb1 := (hT.pr 2 rfl).2
    go_simp
    exact hK.out _ _ (Below.new _ _) ⟨_, rfl⟩ (fun p hp => by cases hp with | head => exact ⟨Blk.new 26 [Value.int .i64 0, .slice none 0 0], Nat.le_refl _⟩ | tail _ hp => cases hp) (by simp [ownAt, spAt, Sp.own, Sp.box])
  refine ob_yes (web_op (o := _) rfl (fun u W hT hd Q K hK => ?_)) ?_
  · (try simp only [Act.put, List.setIfInBounds_toArray, List.set_cons_zero, List.set_cons_succ] at hK)
    have ca0 := (hT.pr 3 rfl).1
    have ca1 := (hT.pr 3 rfl).2
    have cb0 := (hT.pr 2 rfl).1
    have cb1 := (hT.pr 2 rfl).2
    go_simp
    exact hK.out _ _ (Below.new _ _) ⟨_, rfl⟩ (fun p hp => by cases hp with | head => exact ⟨Blk.new 26 [Value.int .i64 0, .slice none 0 0], Nat.le_refl _⟩ | tail _ hp => cases hp) (by simp [ownAt, spAt, Sp.own, Sp.box])
  exact ob_nil
  intro u wx hT hok
  obtain ⟨h0, h1, h2, h3, h4, h5, h6, h7, h8, h9, _⟩ := hok
  clear h0 h1 h2 h3 h4 h5
  simp only [ownsC, Sp.own, Sp.box, Nat.reduceBEq, cond_false, List.nil_append, List.append_nil, Nat.zero_add, Nat.reduceAdd] at hT
  have d6 := h6 (by kernel_rfl)
  clear h6
  generalize u 6 = x6 at *
  obtain ⟨p6, c6, rfl, v6⟩ := d6
  have d7 := h7 (by kernel_rfl)
  clear h7
  generalize u 7 = x7 at *
  obtain ⟨p7, c7, rfl, v7⟩ := d7
  have d8 := h8 (by kernel_rfl)
  clear h8
  generalize u 8 = x8 at *
  obtain ⟨L8, rfl⟩ := d8
  have d9 := h9 (by kernel_rfl)
  clear h9
  generalize u 9 = x9 at *
  obtain ⟨L9, rfl⟩ := d9
  (try dsimp only [List.nil_append, List.cons_append] at hT)
  have HTE := Lib.hid hT
  clear hT
  have HV := Lib.hid (And.intro v6 v7)
  clear v6 v7 HT1 HT HAny
  refine wpAny_of_held (S := fun _ => True) _ _ _ _ ?_
  have r0 := (HTE.out.pr 0 rfl).1
  have r1 := (HTE.out.pr 0 rfl).2
  have f0 := (HTE.out.at 0 rfl).frz 0
  have f1 := (HTE.out.at 0 rfl).frz 1
  refine wpAnyH_ready (rs := [10]) (by kernel_rfl) (by simp) ?_
  refine held_cons rfl (fun K hK => ?_) AllReadyH.nil
  go_simp
  refine hK.out _ _ trivial (fun _ => ?_)
  clear hK K
  (try simp only [List.setIfInBounds_toArray, List.set_cons_zero, List.set_cons_succ])
  have Hs1 := Lib.hid (HTE.out.two 0 (x := .int .i64 n) (y := .slice p6 (wcount n) c6) rfl)
  clear r0 r1 f0 f1
  have r0 := (Hs1.out.pr 1 rfl).1
  have r1 := (Hs1.out.pr 1 rfl).2
  have f0 := (Hs1.out.at 1 rfl).frz 0
  have f1 := (Hs1.out.at 1 rfl).frz 1
  refine wpAnyH_ready (rs := [11]) (by kernel_rfl) (by simp) ?_
  refine held_cons rfl (fun K hK => ?_) AllReadyH.nil
  go_simp
  refine hK.out _ _ trivial (fun _ => ?_)
  clear hK K
  (try simp only [List.setIfInBounds_toArray, List.set_cons_zero, List.set_cons_succ])
  have Hs2 := Lib.hid (Hs1.out.two 1 (x := .int .i64 n) (y := .slice p7 (wcount n) c7) rfl)
  clear r0 r1 f0 f1
  refine wpAnyH_done (by kernel_rfl) ?_ _
  have v6 := (HV.out.1.two_keep HN.out (HTE.out.at 0 rfl)).two_keep HN.out (Hs1.out.at 1 rfl) (x1 := .int .i64 n) (y1 := .slice p7 (wcount n) c7)
  have v7 := (HV.out.2.two_keep HN.out (HTE.out.at 0 rfl) (x1 := .int .i64 n) (y1 := .slice p6 (wcount n) c6)).two_keep HN.out (Hs1.out.at 1 rfl) (x1 := .int .i64 n) (y1 := .slice p7 (wcount n) c7)
  generalize (((wx.setCell ⟨L8, 0, none⟩ (.int .i64 n)).setCell ⟨L8, 1, none⟩ (.slice p6 (wcount n) c6)).setCell ⟨L9, 0, none⟩ (.int .i64 n)).setCell ⟨L9, 1, none⟩ (.slice p7 (wcount n) c7) = W3 at *
  have HV3 := Lib.hid (And.intro v6 v7)
  clear v6 v7 HV HTE Hs1
  obtain ⟨qa, hqa⟩ : ∃ q, topB n A = q := ⟨_, rfl⟩
  obtain ⟨qb, hqb⟩ : ∃ q, topB n B = q := ⟨_, rfl⟩
  have K1 : Hid (∀ s : After W3, Calls Try.prog 77 #[.agg #[.int .i64 n, .slice pa (wcount n) ca]] s.val fun e w' => e = .returned (.bool qa) ∧ Below s.val.heap.size s.val w') := Lib.hid fun s => by rw [← hqa]; exact negative_any ((HA.out.below Hs2.out.bel).below s.below)
  have K2 : Hid (∀ s : After W3, Calls Try.prog 77 #[.agg #[.int .i64 n, .slice pb (wcount n) cb]] s.val fun e w' => e = .returned (.bool qb) ∧ Below s.val.heap.size s.val w') := Lib.hid fun s => by rw [← hqb]; exact negative_any ((HB.out.below Hs2.out.bel).below s.below)
  have K3 : Hid (∀ w', Below w.heap.size w w' → Calls Try.prog 77 #[.agg #[.int .i64 n, .slice pa (wcount n) ca]] w' fun e w'' => e = .returned (.bool qa) ∧ Below w'.heap.size w' w'') := Lib.hid fun w' hb => by rw [← hqa]; exact negative_any (HA.out.below hb)
  have HQA := Lib.hid hqa
  have HQB := Lib.hid hqb
  clear hqa hqb
  have a0 := After.cell (Hs2.out.pr 5 rfl).1
  have a1 := After.cell (Hs2.out.pr 5 rfl).2
  have b0 := After.cell (Hs2.out.pr 4 rfl).1
  have b1 := After.cell (Hs2.out.pr 4 rfl).2
  go_upto_region 4 with fail
  refine wp_region_after (by kernel_rfl) (by kernel_rfl) ?_
  repeat (go_big_quiet_step ((first | (with_reducible exact Calls.after_of (K1.out _)) | (with_reducible exact Calls.after_of (K2.out _)))))
  refine wpQuiet_nil ?_
  rintro _ ⟨s, rfl⟩
  have HT4 := Lib.hid (Hs2.out.below s.below)
  have HV4 := Lib.hid (And.intro (HV3.out.1.below s.below) (HV3.out.2.below s.below))
  generalize s.val = W4 at *
  clear a0 a1 b0 b1 K1 K2 HV3 Hs2
  by_cases hab : qa = false ∧ qb = false
  · obtain ⟨rfl, rfl⟩ := hab
    have c0 := (HT4.out.pr 5 rfl).1
    have c1 := (HT4.out.pr 5 rfl).2
    go_wp2_with fail
    refine (K3.out _ HT4.out.bel).mono ?_; rintro e W7 ⟨rfl, hb7⟩
    have HT7 := Lib.hid (HT4.out.below hb7)
    have HR7 := Lib.hid (HV4.out.2.below hb7)
    have HQ7 := Lib.hid (HV4.out.1.below hb7)
    clear hb7 c0 c1
    go_upto_region 8 with fail
    have HE := Lib.hid HT7.out.drew
    refine wp_region_held_drew (S := (fun w' => (w'.cell? ⟨L8, 0, none⟩ = some (.int .i64 n) ∧ w'.cell? ⟨L8, 1, none⟩ = some (.slice p6 (wcount n) c6)) ∧ (w'.cell? ⟨L9, 0, none⟩ = some (.int .i64 n) ∧ w'.cell? ⟨L9, 1, none⟩ = some (.slice p7 (wcount n) c7)))) (by kernel_rfl) ⟨HE.out.pr 0 rfl, HE.out.pr 1 rfl⟩ (fun hHeld => ?_)
    have HQd := Lib.hid (HQ7.out.below (Below.refl _ _).drew)
    have HRd := Lib.hid (HR7.out.below (Below.refl _ _).drew)
    generalize W7.drew = D at *
    refine held_take (i := 0) (v := ?_) rfl (by kernel_rfl) (by kernel_rfl) (by kernel_rfl) (fun _ _ _ h => h) (Or.inl ⟨by rfl, ?_⟩) (by assumption) ?_
    rotate_left
    · intro w hSw; (try dsimp only at hSw); go_simp; (try with_reducible rfl)
    (try simp only [Act.put, List.setIfInBounds_toArray, List.set_cons_zero, List.set_cons_succ])
    refine held_take (i := 1) (v := ?_) rfl (by kernel_rfl) (by kernel_rfl) (by kernel_rfl) (fun _ _ _ h => h) (Or.inl ⟨by rfl, ?_⟩) (by assumption) ?_
    rotate_left
    · intro w hSw; (try dsimp only at hSw); go_simp; (try with_reducible rfl)
    (try simp only [Act.put, List.setIfInBounds_toArray, List.set_cons_zero, List.set_cons_succ])
    have r0 := (HE.out.pr 3 rfl).1
    have r1 := (HE.out.pr 3 rfl).2
    have f0 := (HE.out.at 3 rfl).frz 0
    have f1 := (HE.out.at 3 rfl).frz 1
    refine wpAnyH_ready (rs := [2]) (by kernel_rfl) (by simp) ?_
    refine held_cons rfl (fun K hK => ?_) AllReadyH.nil
    go_simp
    have HF0 := Lib.hid (HE.out.two 3 (x := .int .i64 n) (y := .slice p6 (wcount n) c6) rfl)
    refine hK.out _ _ ⟨HF0.out.pr 0 rfl, HF0.out.pr 1 rfl⟩ (fun hHeld2 => ?_)
    clear hK K hHeld r0 r1 f0 f1
    have hHeld := hHeld2
    clear hHeld2
    (try simp only [Act.put, List.setIfInBounds_toArray, List.set_cons_zero, List.set_cons_succ])
    have HFQ0 := Lib.hid (HQd.out.two_keep HN.out (HE.out.at 3 rfl) (x1 := .int .i64 n) (y1 := .slice p6 (wcount n) c6))
    have HFR0 := Lib.hid (HRd.out.two_keep HN.out (HE.out.at 3 rfl) (x1 := .int .i64 n) (y1 := .slice p6 (wcount n) c6))
    have r0 := (HF0.out.pr 2 rfl).1
    have r1 := (HF0.out.pr 2 rfl).2
    have f0 := (HF0.out.at 2 rfl).frz 0
    have f1 := (HF0.out.at 2 rfl).frz 1
    refine wpAnyH_ready (rs := [3]) (by kernel_rfl) (by simp) ?_
    refine held_cons rfl (fun K hK => ?_) AllReadyH.nil
    go_simp
    have HF1 := Lib.hid (HF0.out.two 2 (x := .int .i64 n) (y := .slice p7 (wcount n) c7) rfl)
    refine hK.out _ _ ⟨HF1.out.pr 0 rfl, HF1.out.pr 1 rfl⟩ (fun hHeld2 => ?_)
    clear hK K hHeld r0 r1 f0 f1
    have hHeld := hHeld2
    clear hHeld2
    (try simp only [Act.put, List.setIfInBounds_toArray, List.set_cons_zero, List.set_cons_succ])
    have HFQ1 := Lib.hid (HFQ0.out.two_keep HN.out (HF0.out.at 2 rfl) (x1 := .int .i64 n) (y1 := .slice p7 (wcount n) c7))
    have HFR1 := Lib.hid (HFR0.out.two_keep HN.out (HF0.out.at 2 rfl) (x1 := .int .i64 n) (y1 := .slice p7 (wcount n) c7))
    refine wpAnyH_done (by kernel_rfl) ?_ _
    go_wp2_with fail
    have e0 := (HF1.out.pr 3 rfl).1
    have e1 := (HF1.out.pr 3 rfl).2
    have e2 := (HF1.out.pr 2 rfl).1
    have e3 := (HF1.out.pr 2 rfl).2
    have v1 := HFQ1.out
    have v2 := HFR1.out
    rw [show X / Y = sdivN n A B by unfold sdivN; rw [HQA.out, HQB.out, HX.out, HY.out]; rfl] at v1
    rw [show X % Y = sremN n A B by unfold sremN; rw [HQA.out, HX.out, HY.out]; rfl] at v2
    exact bodyPost_ret (v := .tuple #[.agg #[.int .i64 n, .slice p6 (wcount n) c6], .agg #[.int .i64 n, .slice p7 (wcount n) c7]]) (by simp [results, Try.results84, go_sem, e0, e1, e2, e3]) rfl ⟨_, _, rfl, v1, v2, HF1.out.bel⟩
  by_cases hab : qa = false ∧ qb = true
  · obtain ⟨rfl, rfl⟩ := hab
    have c0 := (HT4.out.pr 0 rfl).1
    have c1 := (HT4.out.pr 0 rfl).2
    go_wp2_with fail
    refine (neg_any HV4.out.1 HN.out).mono ?_; rintro e W5 ⟨v5, b5, rfl, hv5, hge5, hb5⟩
    obtain rfl := hv5.e
    have HT5 := Lib.hid (HT4.out.cons hb5 hv5.blk hge5)
    have HL5 := Lib.hid hv5.lt
    have HR5 := Lib.hid (HV4.out.2.below hb5)
    clear hv5 hge5 hb5 c0 c1
    have r0 := (HT5.out.pr 1 rfl).1
    have r1 := (HT5.out.pr 1 rfl).2
    have f0 := (HT5.out.at 1 rfl).frz 0
    have f1 := (HT5.out.at 1 rfl).frz 1
    have HT6 := Lib.hid (HT5.out.two 1 (x := .int .i64 n) (y := .slice (some ⟨b5, 0, none⟩) (wcount n) (wcount n)) rfl)
    have HR6 := Lib.hid (HR5.out.two_keep HN.out (HT5.out.at 1 rfl) (x1 := .int .i64 n) (y1 := .slice (some ⟨b5, 0, none⟩) (wcount n) (wcount n)))
    have c0 := (HT6.out.pr 6 rfl).1
    have c1 := (HT6.out.pr 6 rfl).2
    go_wp2_with fail
    clear r0 r1 f0 f1
    generalize (W5.setCell ⟨L8, 0, none⟩ (.int .i64 n)).setCell ⟨L8, 1, none⟩ (.slice (some ⟨b5, 0, none⟩) (wcount n) (wcount n)) = W6 at *
    refine (K3.out _ HT6.out.bel).mono ?_; rintro e W7 ⟨rfl, hb7⟩
    have HT7 := Lib.hid (HT6.out.below hb7)
    have HR7 := Lib.hid (HR6.out.below hb7)
    clear hb7 c0 c1
    go_upto_region 8 with fail
    have HE := Lib.hid HT7.out.drew
    refine wp_region_held_drew (S := (fun w' => (w'.cell? ⟨L8, 0, none⟩ = some (.int .i64 n) ∧ w'.cell? ⟨L8, 1, none⟩ = some (.slice (some ⟨b5, 0, none⟩) (wcount n) (wcount n))) ∧ (w'.cell? ⟨L9, 0, none⟩ = some (.int .i64 n) ∧ w'.cell? ⟨L9, 1, none⟩ = some (.slice p7 (wcount n) c7)))) (by kernel_rfl) ⟨HE.out.pr 1 rfl, HE.out.pr 2 rfl⟩ (fun hHeld => ?_)
    have HRd := Lib.hid (HR7.out.below (Below.refl _ _).drew)
    generalize W7.drew = D at *
    refine held_take (i := 0) (v := ?_) rfl (by kernel_rfl) (by kernel_rfl) (by kernel_rfl) (fun _ _ _ h => h) (Or.inl ⟨by rfl, ?_⟩) (by assumption) ?_
    rotate_left
    · intro w hSw; (try dsimp only at hSw); go_simp; (try with_reducible rfl)
    (try simp only [Act.put, List.setIfInBounds_toArray, List.set_cons_zero, List.set_cons_succ])
    refine held_take (i := 1) (v := ?_) rfl (by kernel_rfl) (by kernel_rfl) (by kernel_rfl) (fun _ _ _ h => h) (Or.inl ⟨by rfl, ?_⟩) (by assumption) ?_
    rotate_left
    · intro w hSw; (try dsimp only at hSw); go_simp; (try with_reducible rfl)
    (try simp only [Act.put, List.setIfInBounds_toArray, List.set_cons_zero, List.set_cons_succ])
    have r0 := (HE.out.pr 4 rfl).1
    have r1 := (HE.out.pr 4 rfl).2
    have f0 := (HE.out.at 4 rfl).frz 0
    have f1 := (HE.out.at 4 rfl).frz 1
    refine wpAnyH_ready (rs := [2]) (by kernel_rfl) (by simp) ?_
    refine held_cons rfl (fun K hK => ?_) AllReadyH.nil
    go_simp
    have HF0 := Lib.hid (HE.out.two 4 (x := .int .i64 n) (y := .slice (some ⟨b5, 0, none⟩) (wcount n) (wcount n)) rfl)
    refine hK.out _ _ ⟨HF0.out.pr 1 rfl, HF0.out.pr 2 rfl⟩ (fun hHeld2 => ?_)
    clear hK K hHeld r0 r1 f0 f1
    have hHeld := hHeld2
    clear hHeld2
    (try simp only [Act.put, List.setIfInBounds_toArray, List.set_cons_zero, List.set_cons_succ])
    have HFR0 := Lib.hid (HRd.out.two_keep HN.out (HE.out.at 4 rfl) (x1 := .int .i64 n) (y1 := .slice (some ⟨b5, 0, none⟩) (wcount n) (wcount n)))
    have r0 := (HF0.out.pr 3 rfl).1
    have r1 := (HF0.out.pr 3 rfl).2
    have f0 := (HF0.out.at 3 rfl).frz 0
    have f1 := (HF0.out.at 3 rfl).frz 1
    refine wpAnyH_ready (rs := [3]) (by kernel_rfl) (by simp) ?_
    refine held_cons rfl (fun K hK => ?_) AllReadyH.nil
    go_simp
    have HF1 := Lib.hid (HF0.out.two 3 (x := .int .i64 n) (y := .slice p7 (wcount n) c7) rfl)
    refine hK.out _ _ ⟨HF1.out.pr 1 rfl, HF1.out.pr 2 rfl⟩ (fun hHeld2 => ?_)
    clear hK K hHeld r0 r1 f0 f1
    have hHeld := hHeld2
    clear hHeld2
    (try simp only [Act.put, List.setIfInBounds_toArray, List.set_cons_zero, List.set_cons_succ])
    have HFR1 := Lib.hid (HFR0.out.two_keep HN.out (HF0.out.at 3 rfl) (x1 := .int .i64 n) (y1 := .slice p7 (wcount n) c7))
    refine wpAnyH_done (by kernel_rfl) ?_ _
    go_wp2_with fail
    have e0 := (HF1.out.pr 4 rfl).1
    have e1 := (HF1.out.pr 4 rfl).2
    have e2 := (HF1.out.pr 3 rfl).1
    have e3 := (HF1.out.pr 3 rfl).2
    have v1 := ((HF1.out.vo 0 rfl HL5.out HA.out.le).vr (negN_lt _ _))
    have v2 := HFR1.out
    rw [show negN n (X / Y) = sdivN n A B by unfold sdivN; rw [HQA.out, HQB.out, HX.out, HY.out]; rfl] at v1
    rw [show X % Y = sremN n A B by unfold sremN; rw [HQA.out, HX.out, HY.out]; rfl] at v2
    exact bodyPost_ret (v := .tuple #[.agg #[.int .i64 n, .slice (some ⟨b5, 0, none⟩) (wcount n) (wcount n)], .agg #[.int .i64 n, .slice p7 (wcount n) c7]]) (by simp [results, Try.results84, go_sem, e0, e1, e2, e3]) rfl ⟨_, _, rfl, v1, v2, HF1.out.bel⟩
  by_cases hab : qa = true ∧ qb = false
  · obtain ⟨rfl, rfl⟩ := hab
    have c0 := (HT4.out.pr 0 rfl).1
    have c1 := (HT4.out.pr 0 rfl).2
    go_wp2_with fail
    refine (neg_any HV4.out.1 HN.out).mono ?_; rintro e W5 ⟨v5, b5, rfl, hv5, hge5, hb5⟩
    obtain rfl := hv5.e
    have HT5 := Lib.hid (HT4.out.cons hb5 hv5.blk hge5)
    have HL5 := Lib.hid hv5.lt
    have HR5 := Lib.hid (HV4.out.2.below hb5)
    clear hv5 hge5 hb5 c0 c1
    have r0 := (HT5.out.pr 1 rfl).1
    have r1 := (HT5.out.pr 1 rfl).2
    have f0 := (HT5.out.at 1 rfl).frz 0
    have f1 := (HT5.out.at 1 rfl).frz 1
    have HT6 := Lib.hid (HT5.out.two 1 (x := .int .i64 n) (y := .slice (some ⟨b5, 0, none⟩) (wcount n) (wcount n)) rfl)
    have HR6 := Lib.hid (HR5.out.two_keep HN.out (HT5.out.at 1 rfl) (x1 := .int .i64 n) (y1 := .slice (some ⟨b5, 0, none⟩) (wcount n) (wcount n)))
    have c0 := (HT6.out.pr 6 rfl).1
    have c1 := (HT6.out.pr 6 rfl).2
    go_wp2_with fail
    clear r0 r1 f0 f1
    generalize (W5.setCell ⟨L8, 0, none⟩ (.int .i64 n)).setCell ⟨L8, 1, none⟩ (.slice (some ⟨b5, 0, none⟩) (wcount n) (wcount n)) = W6 at *
    refine (K3.out _ HT6.out.bel).mono ?_; rintro e W7 ⟨rfl, hb7⟩
    have HT7 := Lib.hid (HT6.out.below hb7)
    have HR7 := Lib.hid (HR6.out.below hb7)
    clear hb7 c0 c1
    have c0 := (HT7.out.pr 2 rfl).1
    have c1 := (HT7.out.pr 2 rfl).2
    go_wp2_with fail
    refine (neg_any HR7.out HN.out).mono ?_; rintro e W8 ⟨v8, b8, rfl, hv8, hge8, hb8⟩
    obtain rfl := hv8.e
    have HT8 := Lib.hid (HT7.out.cons hb8 hv8.blk hge8)
    have HL8 := Lib.hid hv8.lt
    clear hv8 hge8 hb8 c0 c1
    have r0 := (HT8.out.pr 3 rfl).1
    have r1 := (HT8.out.pr 3 rfl).2
    have f0 := (HT8.out.at 3 rfl).frz 0
    have f1 := (HT8.out.at 3 rfl).frz 1
    have HT9 := Lib.hid (HT8.out.two 3 (x := .int .i64 n) (y := .slice (some ⟨b8, 0, none⟩) (wcount n) (wcount n)) rfl)
    go_upto_region 8 with fail
    clear r0 r1 f0 f1
    generalize (W8.setCell ⟨L9, 0, none⟩ (.int .i64 n)).setCell ⟨L9, 1, none⟩ (.slice (some ⟨b8, 0, none⟩) (wcount n) (wcount n)) = W9 at *
    have HE := Lib.hid HT9.out.drew
    refine wp_region_held_drew (S := (fun w' => (w'.cell? ⟨L8, 0, none⟩ = some (.int .i64 n) ∧ w'.cell? ⟨L8, 1, none⟩ = some (.slice (some ⟨b5, 0, none⟩) (wcount n) (wcount n))) ∧ (w'.cell? ⟨L9, 0, none⟩ = some (.int .i64 n) ∧ w'.cell? ⟨L9, 1, none⟩ = some (.slice (some ⟨b8, 0, none⟩) (wcount n) (wcount n))))) (by kernel_rfl) ⟨HE.out.pr 2 rfl, HE.out.pr 3 rfl⟩ (fun hHeld => ?_)
    generalize W9.drew = D at *
    refine held_take (i := 0) (v := ?_) rfl (by kernel_rfl) (by kernel_rfl) (by kernel_rfl) (fun _ _ _ h => h) (Or.inl ⟨by rfl, ?_⟩) (by assumption) ?_
    rotate_left
    · intro w hSw; (try dsimp only at hSw); go_simp; (try with_reducible rfl)
    (try simp only [Act.put, List.setIfInBounds_toArray, List.set_cons_zero, List.set_cons_succ])
    refine held_take (i := 1) (v := ?_) rfl (by kernel_rfl) (by kernel_rfl) (by kernel_rfl) (fun _ _ _ h => h) (Or.inl ⟨by rfl, ?_⟩) (by assumption) ?_
    rotate_left
    · intro w hSw; (try dsimp only at hSw); go_simp; (try with_reducible rfl)
    (try simp only [Act.put, List.setIfInBounds_toArray, List.set_cons_zero, List.set_cons_succ])
    have r0 := (HE.out.pr 5 rfl).1
    have r1 := (HE.out.pr 5 rfl).2
    have f0 := (HE.out.at 5 rfl).frz 0
    have f1 := (HE.out.at 5 rfl).frz 1
    refine wpAnyH_ready (rs := [2]) (by kernel_rfl) (by simp) ?_
    refine held_cons rfl (fun K hK => ?_) AllReadyH.nil
    go_simp
    have HF0 := Lib.hid (HE.out.two 5 (x := .int .i64 n) (y := .slice (some ⟨b5, 0, none⟩) (wcount n) (wcount n)) rfl)
    refine hK.out _ _ ⟨HF0.out.pr 2 rfl, HF0.out.pr 3 rfl⟩ (fun hHeld2 => ?_)
    clear hK K hHeld r0 r1 f0 f1
    have hHeld := hHeld2
    clear hHeld2
    (try simp only [Act.put, List.setIfInBounds_toArray, List.set_cons_zero, List.set_cons_succ])
    have r0 := (HF0.out.pr 4 rfl).1
    have r1 := (HF0.out.pr 4 rfl).2
    have f0 := (HF0.out.at 4 rfl).frz 0
    have f1 := (HF0.out.at 4 rfl).frz 1
    refine wpAnyH_ready (rs := [3]) (by kernel_rfl) (by simp) ?_
    refine held_cons rfl (fun K hK => ?_) AllReadyH.nil
    go_simp
    have HF1 := Lib.hid (HF0.out.two 4 (x := .int .i64 n) (y := .slice (some ⟨b8, 0, none⟩) (wcount n) (wcount n)) rfl)
    refine hK.out _ _ ⟨HF1.out.pr 2 rfl, HF1.out.pr 3 rfl⟩ (fun hHeld2 => ?_)
    clear hK K hHeld r0 r1 f0 f1
    have hHeld := hHeld2
    clear hHeld2
    (try simp only [Act.put, List.setIfInBounds_toArray, List.set_cons_zero, List.set_cons_succ])
    refine wpAnyH_done (by kernel_rfl) ?_ _
    go_wp2_with fail
    have e0 := (HF1.out.pr 5 rfl).1
    have e1 := (HF1.out.pr 5 rfl).2
    have e2 := (HF1.out.pr 4 rfl).1
    have e3 := (HF1.out.pr 4 rfl).2
    have v1 := ((HF1.out.vo 1 rfl HL5.out HA.out.le).vr (negN_lt _ _))
    have v2 := ((HF1.out.vo 0 rfl HL8.out HA.out.le).vr (negN_lt _ _))
    rw [show negN n (X / Y) = sdivN n A B by unfold sdivN; rw [HQA.out, HQB.out, HX.out, HY.out]; rfl] at v1
    rw [show negN n (X % Y) = sremN n A B by unfold sremN; rw [HQA.out, HX.out, HY.out]; rfl] at v2
    exact bodyPost_ret (v := .tuple #[.agg #[.int .i64 n, .slice (some ⟨b5, 0, none⟩) (wcount n) (wcount n)], .agg #[.int .i64 n, .slice (some ⟨b8, 0, none⟩) (wcount n) (wcount n)]]) (by simp [results, Try.results84, go_sem, e0, e1, e2, e3]) rfl ⟨_, _, rfl, v1, v2, HF1.out.bel⟩
  by_cases hab : qa = true ∧ qb = true
  · obtain ⟨rfl, rfl⟩ := hab
    have c0 := (HT4.out.pr 5 rfl).1
    have c1 := (HT4.out.pr 5 rfl).2
    go_wp2_with fail
    refine (K3.out _ HT4.out.bel).mono ?_; rintro e W7 ⟨rfl, hb7⟩
    have HT7 := Lib.hid (HT4.out.below hb7)
    have HR7 := Lib.hid (HV4.out.2.below hb7)
    have HQ7 := Lib.hid (HV4.out.1.below hb7)
    clear hb7 c0 c1
    have c0 := (HT7.out.pr 1 rfl).1
    have c1 := (HT7.out.pr 1 rfl).2
    go_wp2_with fail
    refine (neg_any HR7.out HN.out).mono ?_; rintro e W8 ⟨v8, b8, rfl, hv8, hge8, hb8⟩
    obtain rfl := hv8.e
    have HT8 := Lib.hid (HT7.out.cons hb8 hv8.blk hge8)
    have HL8 := Lib.hid hv8.lt
    have HQ8 := Lib.hid (HQ7.out.below hb8)
    clear hv8 hge8 hb8 c0 c1
    have r0 := (HT8.out.pr 2 rfl).1
    have r1 := (HT8.out.pr 2 rfl).2
    have f0 := (HT8.out.at 2 rfl).frz 0
    have f1 := (HT8.out.at 2 rfl).frz 1
    have HT9 := Lib.hid (HT8.out.two 2 (x := .int .i64 n) (y := .slice (some ⟨b8, 0, none⟩) (wcount n) (wcount n)) rfl)
    have HQ9 := Lib.hid (HQ8.out.two_keep HN.out (HT8.out.at 2 rfl) (x1 := .int .i64 n) (y1 := .slice (some ⟨b8, 0, none⟩) (wcount n) (wcount n)))
    go_upto_region 8 with fail
    clear r0 r1 f0 f1
    generalize (W8.setCell ⟨L9, 0, none⟩ (.int .i64 n)).setCell ⟨L9, 1, none⟩ (.slice (some ⟨b8, 0, none⟩) (wcount n) (wcount n)) = W9 at *
    have HE := Lib.hid HT9.out.drew
    refine wp_region_held_drew (S := (fun w' => (w'.cell? ⟨L8, 0, none⟩ = some (.int .i64 n) ∧ w'.cell? ⟨L8, 1, none⟩ = some (.slice p6 (wcount n) c6)) ∧ (w'.cell? ⟨L9, 0, none⟩ = some (.int .i64 n) ∧ w'.cell? ⟨L9, 1, none⟩ = some (.slice (some ⟨b8, 0, none⟩) (wcount n) (wcount n))))) (by kernel_rfl) ⟨HE.out.pr 1 rfl, HE.out.pr 2 rfl⟩ (fun hHeld => ?_)
    have HQd := Lib.hid (HQ9.out.below (Below.refl _ _).drew)
    generalize W9.drew = D at *
    refine held_take (i := 0) (v := ?_) rfl (by kernel_rfl) (by kernel_rfl) (by kernel_rfl) (fun _ _ _ h => h) (Or.inl ⟨by rfl, ?_⟩) (by assumption) ?_
    rotate_left
    · intro w hSw; (try dsimp only at hSw); go_simp; (try with_reducible rfl)
    (try simp only [Act.put, List.setIfInBounds_toArray, List.set_cons_zero, List.set_cons_succ])
    refine held_take (i := 1) (v := ?_) rfl (by kernel_rfl) (by kernel_rfl) (by kernel_rfl) (fun _ _ _ h => h) (Or.inl ⟨by rfl, ?_⟩) (by assumption) ?_
    rotate_left
    · intro w hSw; (try dsimp only at hSw); go_simp; (try with_reducible rfl)
    (try simp only [Act.put, List.setIfInBounds_toArray, List.set_cons_zero, List.set_cons_succ])
    have r0 := (HE.out.pr 4 rfl).1
    have r1 := (HE.out.pr 4 rfl).2
    have f0 := (HE.out.at 4 rfl).frz 0
    have f1 := (HE.out.at 4 rfl).frz 1
    refine wpAnyH_ready (rs := [2]) (by kernel_rfl) (by simp) ?_
    refine held_cons rfl (fun K hK => ?_) AllReadyH.nil
    go_simp
    have HF0 := Lib.hid (HE.out.two 4 (x := .int .i64 n) (y := .slice p6 (wcount n) c6) rfl)
    refine hK.out _ _ ⟨HF0.out.pr 1 rfl, HF0.out.pr 2 rfl⟩ (fun hHeld2 => ?_)
    clear hK K hHeld r0 r1 f0 f1
    have hHeld := hHeld2
    clear hHeld2
    (try simp only [Act.put, List.setIfInBounds_toArray, List.set_cons_zero, List.set_cons_succ])
    have HFQ0 := Lib.hid (HQd.out.two_keep HN.out (HE.out.at 4 rfl) (x1 := .int .i64 n) (y1 := .slice p6 (wcount n) c6))
    have r0 := (HF0.out.pr 3 rfl).1
    have r1 := (HF0.out.pr 3 rfl).2
    have f0 := (HF0.out.at 3 rfl).frz 0
    have f1 := (HF0.out.at 3 rfl).frz 1
    refine wpAnyH_ready (rs := [3]) (by kernel_rfl) (by simp) ?_
    refine held_cons rfl (fun K hK => ?_) AllReadyH.nil
    go_simp
    have HF1 := Lib.hid (HF0.out.two 3 (x := .int .i64 n) (y := .slice (some ⟨b8, 0, none⟩) (wcount n) (wcount n)) rfl)
    refine hK.out _ _ ⟨HF1.out.pr 1 rfl, HF1.out.pr 2 rfl⟩ (fun hHeld2 => ?_)
    clear hK K hHeld r0 r1 f0 f1
    have hHeld := hHeld2
    clear hHeld2
    (try simp only [Act.put, List.setIfInBounds_toArray, List.set_cons_zero, List.set_cons_succ])
    have HFQ1 := Lib.hid (HFQ0.out.two_keep HN.out (HF0.out.at 3 rfl) (x1 := .int .i64 n) (y1 := .slice (some ⟨b8, 0, none⟩) (wcount n) (wcount n)))
    refine wpAnyH_done (by kernel_rfl) ?_ _
    go_wp2_with fail
    have e0 := (HF1.out.pr 4 rfl).1
    have e1 := (HF1.out.pr 4 rfl).2
    have e2 := (HF1.out.pr 3 rfl).1
    have e3 := (HF1.out.pr 3 rfl).2
    have v1 := HFQ1.out
    have v2 := ((HF1.out.vo 0 rfl HL8.out HA.out.le).vr (negN_lt _ _))
    rw [show X / Y = sdivN n A B by unfold sdivN; rw [HQA.out, HQB.out, HX.out, HY.out]; rfl] at v1
    rw [show negN n (X % Y) = sremN n A B by unfold sremN; rw [HQA.out, HX.out, HY.out]; rfl] at v2
    exact bodyPost_ret (v := .tuple #[.agg #[.int .i64 n, .slice p6 (wcount n) c6], .agg #[.int .i64 n, .slice (some ⟨b8, 0, none⟩) (wcount n) (wcount n)]]) (by simp [results, Try.results84, go_sem, e0, e1, e2, e3]) rfl ⟨_, _, rfl, v1, v2, HF1.out.bel⟩
  cases qa <;> cases qb <;> simp at *
end Go.Proofs.Ytmimafbedbohiaa
