import Derived.Test.YtmimafbedbohiaaA8
namespace Go.Proofs.Ytmimafbedbohiaa
set_option linter.unusedVariables false
open Go.RowKit

theorem two_step {w w' w'' : World} {a : Nat} {u v : Value} (h : w'.cell? ⟨a, 0, none⟩ = some u ∧ w'.cell? ⟨a, 1, none⟩ = some v ∧ Below w.heap.size w w') (hb : Below w'.heap.size w' w'') :
    w''.cell? ⟨a, 0, none⟩ = some u ∧ w''.cell? ⟨a, 1, none⟩ = some v ∧ Below w.heap.size w w'' :=
  ⟨(hb.cell (World.block_lt_of_cell? _ _ h.1)).trans h.1, (hb.cell (World.block_lt_of_cell? _ _ h.2.1)).trans h.2.1, h.2.2.trans (hb.mono h.2.2.size)⟩
theorem two_set {w w' : World} {a R : Nat} {u v x y : Value} (h : w'.cell? ⟨a, 0, none⟩ = some u ∧ w'.cell? ⟨a, 1, none⟩ = some v ∧ Below w.heap.size w w') (hne : R ≠ a) (hR : w.heap.size ≤ R) :
    ((w'.setCell ⟨R, 0, none⟩ x).setCell ⟨R, 1, none⟩ y).cell? ⟨a, 0, none⟩ = some u ∧ ((w'.setCell ⟨R, 0, none⟩ x).setCell ⟨R, 1, none⟩ y).cell? ⟨a, 1, none⟩ = some v ∧ Below w.heap.size w ((w'.setCell ⟨R, 0, none⟩ x).setCell ⟨R, 1, none⟩ y) :=
  ⟨(World.cell?_setCell_far _ _ _ _ hne).trans ((World.cell?_setCell_far _ _ _ _ hne).trans h.1), (World.cell?_setCell_far _ _ _ _ hne).trans ((World.cell?_setCell_far _ _ _ _ hne).trans h.2.1), (h.2.2.setCell hR _).setCell hR _⟩
theorem Blk.next {w w' : World} {b t l} (h : Blk w b t l) (hb : Below w.heap.size w w') : Blk w' b t l := h.below hb h.lt
/-- .. behind the store of a result: the block R has n and the slice -/
theorem ret2 {w w3 : World} {R n b x : Nat} {u v : Value} (hR : Blk w3 R 26 [u, v]) (hb : Below w.heap.size w w3) (hge : w.heap.size ≤ R) (hv : VO w3 (vecO n b) n x b) (hne : R ≠ b) :
    ((w3.setCell ⟨R, 0, none⟩ (.int .i64 n)).setCell ⟨R, 1, none⟩ (.slice (some ⟨b, 0, none⟩) (wcount n) (wcount n))).cell? ⟨R, 0, none⟩ = some (.int .i64 n) ∧
    ((w3.setCell ⟨R, 0, none⟩ (.int .i64 n)).setCell ⟨R, 1, none⟩ (.slice (some ⟨b, 0, none⟩) (wcount n) (wcount n))).cell? ⟨R, 1, none⟩ = some (.slice (some ⟨b, 0, none⟩) (wcount n) (wcount n)) ∧
    VO ((w3.setCell ⟨R, 0, none⟩ (.int .i64 n)).setCell ⟨R, 1, none⟩ (.slice (some ⟨b, 0, none⟩) (wcount n) (wcount n))) (vecO n b) n x b ∧
    Below w.heap.size w ((w3.setCell ⟨R, 0, none⟩ (.int .i64 n)).setCell ⟨R, 1, none⟩ (.slice (some ⟨b, 0, none⟩) (wcount n) (wcount n))) := by
  have hk := (hR.set 0 (.int .i64 n)).set 1 (.slice (some ⟨b, 0, none⟩) (wcount n) (wcount n))
  exact ⟨hk.cell (i := 0) rfl, hk.cell (i := 1) rfl, (hv.other (Ne.symm hne) _).other (Ne.symm hne) _, (hb.setCell hge _).setCell hge _⟩

set_option maxRecDepth 100000 in
set_option maxHeartbeats 4000000 in
theorem neg_any {w : World} {va : Value} {n A : Nat} (hA : VR w va n A) (hn : 0 < n) :
    Calls Try.prog 73 #[va] w (Fresh w n (negN n A)) := by
  have HA := Lib.hid hA
  have hn128 := hA.le
  have hni : (n : Int) ≤ 128 := by omega
  obtain ⟨pa, ca, rfl, ra⟩ := hA.ex
  have HNt : Hid (∀ w', Below w.heap.size w w' → Calls Try.prog 48 #[.agg #[.int .i64 n, .slice pa (wcount n) ca]] w' (Fresh w' n (notN n A))) := Lib.hid fun w' hb => not_any (hA.below hb) hn
  have HBl := Lib.hid (fun w => blank_any (w := w) n hn128)
  have HPl := Lib.hid (fun w va vb h1 h2 => plus_any (w := w) (va := va) (vb := vb) (n := n) (A := notN n A) (B := 0) h1 h2 hn 1 (Nat.le_refl _))
  have HE := Lib.hid (negN_eq hA.lt)
  have HN := Lib.hid hn
  clear hA ra hn128 hn
  go_enter Try.func73, Try.ntmps73
  go_wp2_with fail
  have k0 := (Blk.new (w := w) 26 [.int .i64 n, .slice pa (wcount n) ca]).alloc (.cells #[.int .i64 0, .slice none 0 0] 26)
  have k2 := Blk.new (w := (w.alloc (.cells #[.int .i64 n, .slice pa (wcount n) ca] 26))) 26 [.int .i64 0, .slice none 0 0]
  have hb3 : Below w.heap.size w ((w.alloc (.cells #[.int .i64 n, .slice pa (wcount n) ca] 26)).alloc (.cells #[.int .i64 0, .slice none 0 0] 26)) := (Below.new _ _).alloc (by simp) _
  simp only [World.size_alloc] at k2
  generalize (w.alloc (.cells #[.int .i64 n, .slice pa (wcount n) ca] 26)).alloc (.cells #[.int .i64 0, .slice none 0 0] 26) = W at *
  have s0 : W.drew.cell? ⟨w.heap.size, 0, none⟩ = some (.int .i64 n) ∧ W.drew.cell? ⟨w.heap.size, 1, none⟩ = some (.slice pa (wcount n) ca) ∧ Below w.heap.size w W.drew := ⟨k0.cell (i := 0) rfl, k0.cell (i := 1) rfl, hb3.drew⟩
  have K0 := Lib.hid k2.drew
  clear k0 k2 hb3
  go_region_held3 (fun w' => w'.cell? ⟨w.heap.size, 0, none⟩ = some (.int .i64 n) ∧ w'.cell? ⟨w.heap.size, 1, none⟩ = some (.slice pa (wcount n) ca) ∧ Below w.heap.size w w')
    (first | assumption | exact two_set s6 (Nat.succ_ne_self _) (Nat.le_succ _))
    (first
      | (go_at_call 48; refine (HNt.out _ s0.2.2).mono ?_; rintro e w4 ⟨v4, b4, rfl, hv4, hge4, hb4⟩; have s4 := two_step s0 hb4; have K4 := Lib.hid (K0.out.next hb4); have V4 := Lib.hid (hv4.vr (notN_lt _ _)); clear hv4 hge4 hb4)
      | (go_at_call 45; refine (HBl.out _).mono ?_; rintro e w5 ⟨v5, b5, rfl, hv5, hge5, hb5⟩; have s5 := two_step s4 hb5; have K5 := Lib.hid (K4.out.next hb5); have V5 := Lib.hid (And.intro (V4.out.below hb5) (hv5.vr (Nat.pow_pos (by decide)))); clear hv5 hge5 hb5)
      | (go_at_call 47; refine (HPl.out _ _ _ V5.out.1 V5.out.2).mono ?_; rintro e w6 ⟨v6, b6, rfl, hv6, hge6, hb6⟩; obtain rfl := hv6.e; have s6 := two_step s5 hb6; have k6 := K5.out.next hb6; have r0 := k6.cell (i := 0) rfl; have r1 := k6.cell (i := 1) rfl; have f0 := k6.frz 0; have f1 := k6.frz 1; have H6 := Lib.hid (And.intro hv6 (And.intro hge6 k6)); clear hv6 hge6 k6 hb6))
  go_wp2_with fail
  obtain ⟨e0, e1, hv, hbl⟩ := ret2 H6.out.2.2 s6.2.2 (Nat.le_succ _) H6.out.1 (by have := H6.out.2.1; have := K5.out.lt; omega)
  rw [HE.out] at hv
  exact bodyPost_ret (v := vecO n b6) (by simp [results, Try.results73, go_sem, e0, e1, vecO]) rfl ⟨_, _, rfl, hv, Nat.le_trans s5.2.2.size H6.out.2.1, hbl⟩
theorem negative_any {w : World} {v : Value} {n x : Nat} (h : VR w v n x) : Calls Try.prog 77 #[v] w fun e w' => e = .returned (.bool (bitI x ((n : Int) - 1))) ∧ Below w.heap.size w w' := by
  have hn : (n : Int) ≤ 128 := by have := h.le; omega
  have HB := Lib.hid (fun o => bit_any (h.below (Below.new w o)) ((n : Int) - 1))
  obtain ⟨⟨p, c, rfl, _⟩, _, _⟩ := h
  go_enter Try.func77, Try.ntmps77
  go_wp2_with fail
  refine (HB.out _).mono ?_; rintro e w1 ⟨rfl, hb⟩
  have HH := Lib.hid (Below.then (Below.new _ _) hb (Nat.le_refl _))
  clear hb
  go_wp2_with fail
  go_ret
  exact ⟨rfl, HH.out⟩

theorem ne0_any (y : Nat) (w : World) : Calls Try.prog 90 #[.int .u64 y] w fun e w' => e = .returned (.bool ((y : Int) != 0)) ∧ w = w' := by
  go_enter Try.func90, Try.ntmps90
  go_wp2_with fail
  go_ret
  exact ⟨rfl, rfl⟩

set_option maxHeartbeats 1000000 in
set_option maxRecDepth 100000 in
theorem indexf_any {w : World} (v : Value) (m x : Nat) (hr : RO w v 1 m (wordsV m x)) (hm : m ≤ 100) : Calls Try.prog 93 #[v, .func (Fn.func 90) #[] #[]] w fun e w' => (∃ r : Int, e = .returned (.int .i64 r) ∧ (0 ≤ r ↔ ∃ i, i < m ∧ word x i ≠ 0)) ∧ w = w' := by
  obtain ⟨p, c, rfl⟩ := hr.form
  have hm' : (m : Int) ≤ 100 := by omega
  have H := Lib.hid hr
  clear hr
  go_enter Try.func93, Try.ntmps93
  go_wp2_with fail
  go_loop [8] (fun i => ∃ k : Nat, k ≤ m ∧ i = .int .i64 k ∧ ∀ j, j < k → word x j = 0) (fun i => m - (intOf i).toNat)
  case atStart => exact ⟨0, Nat.zero_le _, rfl, fun j hj => absurd hj (Nat.not_lt_zero _)⟩
  case round =>
    obtain ⟨k, hk, rfl, hno⟩ := hrel
    have HN := Lib.hid hno
    clear hno
    by_cases hlt : k < m
    · obtain ⟨b, o, rfl⟩ := H.out.sl (wordsV_at hlt)
      have f0 := H.out.cell (wordsV_at hlt)
      have hki : (k : Int) < m := by omega
      have hc := fun w => ne0_any (word x k) w
      by_cases h0 : word x k = 0
      · have h0' : (((word x k : Nat) : Int) != 0) = false := by simp [h0]
        have HC : Hid (∀ w, Calls Try.prog 90 #[.int .u64 ((word x k : Nat) : Int)] w fun e w' => e = .returned (.bool false) ∧ w = w') := Lib.hid fun w => by have := hc w; rwa [h0'] at this
        have H0 := Lib.hid (show (fun j => word x j) k = 0 from h0)
        generalize word x k = y at *
        clear hc h0 h0'
        go_wp2_with fail
        refine (HC.out _).mono ?_; rintro e w' ⟨rfl, rfl⟩
        go_wp2_with fail
        go_round
        case rel => exact ⟨k + 1, by omega, by go_num, fun j hj => by
                      by_cases e : j = k
                      · subst e; exact H0.out
                      · exact HN.out j (by omega)⟩
        case measure => simp [intOf]; omega
      · have h0' : (((word x k : Nat) : Int) != 0) = true := by simp [h0]
        have HC : Hid (∀ w, Calls Try.prog 90 #[.int .u64 ((word x k : Nat) : Int)] w fun e w' => e = .returned (.bool true) ∧ w = w') := Lib.hid fun w => by have := hc w; rwa [h0'] at this
        have H0 := Lib.hid (show (fun j => word x j) k ≠ 0 from h0)
        generalize word x k = y at *
        clear hc h0 h0'
        go_wp2_with fail
        refine (HC.out _).mono ?_; rintro e w' ⟨rfl, rfl⟩
        go_wp2_with fail
        go_ret
        exact ⟨⟨k, rfl, ⟨fun _ => ⟨k, hlt, H0.out⟩, fun _ => by omega⟩⟩, rfl⟩
    · obtain rfl : k = m := by omega
      clear hlt
      go_wp2_with fail
      go_ret
      exact ⟨⟨-1, rfl, ⟨fun h => by omega, fun ⟨i, hi, h⟩ => absurd (HN.out i hi) h⟩⟩, rfl⟩

theorem zero_words {x n : Nat} (hx : x < 2 ^ n) : x ≠ 0 ↔ ∃ i, i < wcount n ∧ word x i ≠ 0 := by
  constructor
  · intro h
    rcases Classical.em (∃ i, i < wcount n ∧ word x i ≠ 0) with h' | h'
    · exact h'
    · exact absurd (words_ext (m := wcount n) (Nat.lt_of_lt_of_le hx (Nat.pow_le_pow_right (by decide) (n_le_words n))) (Nat.pow_pos (by decide)) fun i hi => by
        rw [word_zero]
        rcases Nat.eq_zero_or_pos (word x i) with e | e
        · exact e
        · exact absurd ⟨i, hi, by omega⟩ h') h
  · rintro ⟨i, _, h⟩ rfl
    exact h (word_zero i)

def nz (x : Nat) : Bool := x != 0
theorem any_any {w : World} {v : Value} {n x : Nat} (h : VR w v n x) : Calls Try.prog 74 #[v] w fun e w' => e = .returned (.bool (nz x)) ∧ Below w.heap.size w w' := by
  have hz := zero_words h.lt
  obtain ⟨⟨p, c, rfl, hr⟩, _, hle⟩ := h
  have HI := Lib.hid (fun o => indexf_any _ (wcount n) x (hr.below (Below.new w o)) (by unfold wcount; omega))
  have HZ := Lib.hid hz
  clear hr hz
  go_enter Try.func74, Try.ntmps74
  go_wp2_with fail
  have hc : Calls Try.prog 89 #[.slice p (wcount n) c, .func (Fn.func 90) #[] #[]] (w.alloc (.cells #[.int .i64 n, .slice p (wcount n) c] 26)) fun e w' => e = .returned (.bool (nz x)) ∧ w.alloc (.cells #[.int .i64 n, .slice p (wcount n) c] 26) = w' := by
    go_enter Try.func89, Try.ntmps89
    go_wp2_with fail
    refine (HI.out _).mono ?_; rintro e w1 ⟨⟨r, rfl, hr⟩, rfl⟩
    have HR := Lib.hid hr
    clear hr
    go_wp2_with fail
    go_ret
    refine ⟨?_, rfl⟩
    have : decide (0 ≤ r) = nz x := by
      rw [Bool.eq_iff_iff, decide_eq_true_eq, HR.out, ← HZ.out]; simp [nz]
    rw [← this]; rfl
  refine hc.mono ?_; rintro e w1 ⟨rfl, rfl⟩
  clear hc
  go_wp2_with fail
  go_ret
  exact ⟨rfl, Below.new _ _⟩
end Go.Proofs.Ytmimafbedbohiaa
