import Derived.Test.YtmimafbedbohiaaA13
namespace Go.Proofs.Ytmimafbedbohiaa
set_option linter.unusedVariables false
open Go.RowKit

/-- a vector is returned -/
def Ret (w : World) (n x : Nat) (e : Ending) (w' : World) : Prop := ∃ v, e = .returned v ∧ VR w' v n x ∧ Below w.heap.size w w'
theorem Fresh.ret {w : World} {n x : Nat} {e : Ending} {w' : World} (hx : x < 2 ^ n) (h : Fresh w n x e w') : Ret w n x e w' := by
  obtain ⟨v, b, he, hv, _, hb⟩ := h
  exact ⟨v, he, hv.vr hx, hb⟩
/-- the highest bit -/
def topB (n x : Nat) : Bool := bitI x ((n : Int) - 1)

/-- behind the store of a result that is read -/
theorem ret3 {w w3 : World} {R n x : Nat} {u v : Value} {p : Option Addr} {c : Nat} (hR : Blk w3 R 26 [u, v]) (hb : Below w.heap.size w w3) (hge : w.heap.size ≤ R) (hv : VR w3 (.agg #[.int .i64 n, .slice p (wcount n) c]) n x) (hne : ∀ b o, p = some ⟨b, o, none⟩ → b ≠ R) :
    ((w3.setCell ⟨R, 0, none⟩ (.int .i64 n)).setCell ⟨R, 1, none⟩ (.slice p (wcount n) c)).cell? ⟨R, 0, none⟩ = some (.int .i64 n) ∧
    ((w3.setCell ⟨R, 0, none⟩ (.int .i64 n)).setCell ⟨R, 1, none⟩ (.slice p (wcount n) c)).cell? ⟨R, 1, none⟩ = some (.slice p (wcount n) c) ∧
    VR ((w3.setCell ⟨R, 0, none⟩ (.int .i64 n)).setCell ⟨R, 1, none⟩ (.slice p (wcount n) c)) (.agg #[.int .i64 n, .slice p (wcount n) c]) n x ∧
    Below w.heap.size w ((w3.setCell ⟨R, 0, none⟩ (.int .i64 n)).setCell ⟨R, 1, none⟩ (.slice p (wcount n) c)) := by
  have hk := (hR.set 0 (.int .i64 n)).set 1 (.slice p (wcount n) c)
  refine ⟨hk.cell (i := 0) rfl, hk.cell (i := 1) rfl, ⟨?_, hv.lt, hv.le⟩, (hb.setCell hge _).setCell hge _⟩
  obtain ⟨⟨p', c', e, hl, p2, c2, e2, hcs⟩, _, _⟩ := hv
  simp only [Value.agg.injEq, Array.mk.injEq, List.cons.injEq, Value.slice.injEq, true_and, and_true] at e
  obtain ⟨rfl, rfl⟩ := e
  refine ⟨p, c, rfl, hl, p2, c2, e2, fun j y hj => ?_⟩
  obtain ⟨b, o, h1, h2⟩ := hcs j y hj
  simp only [Value.slice.injEq] at e2
  obtain ⟨rfl, _⟩ := e2
  exact ⟨b, o, h1, (World.cell?_setCell_far _ _ _ _ (Ne.symm (hne b o h1))).trans ((World.cell?_setCell_far _ _ _ _ (Ne.symm (hne b o h1))).trans h2)⟩

theorem big_word {x i : Nat} (hi : 0 < i) (h : word x i ≠ 0) : 2 ^ 64 ≤ x := by
  rcases Nat.lt_or_ge x (2 ^ 64) with hx | hx
  · exact absurd (by rw [word, Nat.div_eq_of_lt (Nat.lt_of_lt_of_le hx (Nat.pow_le_pow_right (by decide) (by omega)))]) h
  · exact hx
theorem small_word {x n : Nat} (hx : x < 2 ^ n) (h : ∀ i, 0 < i → i < wcount n → word x i = 0) (hn : 0 < n) : x = word x 0 ∧ word x 0 < 2 ^ 64 := by
  refine ⟨?_, word_lt _ _⟩
  have hm : 0 < wcount n := by unfold wcount; omega
  refine words_ext (m := wcount n) (Nat.lt_of_lt_of_le hx (Nat.pow_le_pow_right (by decide) (n_le_words n))) (Nat.lt_of_lt_of_le (word_lt x 0) (Nat.pow_le_pow_right (by decide) (by omega))) fun i hi => ?_
  by_cases e : i = 0
  · subst e
    have := word_lt x 0
    have e2 : word (word x 0) 0 = word x 0 := by
      rw [word]; simp only [Nat.mul_zero, Nat.pow_zero, Nat.div_one]; exact Nat.mod_eq_of_lt this
    exact e2.symm
  · rw [h i (by omega) hi]
    have := word_lt x 0
    rw [word, Nat.div_eq_of_lt (Nat.lt_of_lt_of_le this (Nat.pow_le_pow_right (by decide) (by omega)))]

set_option maxRecDepth 100000 in
set_option maxHeartbeats 2000000 in
theorem num_any {w : World} {v : Value} {n x : Nat} (h : VR w v n x) (most : Int) (hm : -9223372036854775808 ≤ most ∧ most ≤ 9223372036854775807) : Calls Try.prog 16 #[v, .int .i64 most] w fun e w' => e = .returned (.int .i64 (min (x : Int) (max most 0))) ∧ Below w.heap.size w w' := by
  have hlt := h.lt
  have hle := h.le
  obtain ⟨p, c, rfl, hr⟩ := h.ex
  have H := Lib.hid (And.intro (hr.below (Below.new w (.cells #[.int .i64 n, .slice p (wcount n) c] 26))) hlt)
  have hmi : (wcount n : Int) ≤ 3 := by unfold wcount; omega
  have hni : (n : Int) ≤ 128 := by omega
  have hM0 : 0 ≤ max most 0 := by omega
  have hM1 : max most 0 ≤ 9223372036854775807 := by omega
  have HBe := Lib.hid (Below.new w (.cells #[.int .i64 n, .slice p (wcount n) c] 26))
  have HM := Lib.hid (show wcount n ≤ 3 by unfold wcount; omega)
  obtain ⟨M, hMe⟩ : ∃ M, max most 0 = M := ⟨_, rfl⟩
  rw [hMe] at hM0 hM1 ⊢
  have hMc : (0 < most ∧ M = most) ∨ (most < 0 ∧ M = 0) ∨ (most = 0 ∧ M = 0) := by omega
  clear hr hlt hm h hle hMe
  rcases hMc with ⟨hmc, rfl⟩ | ⟨hmc, rfl⟩ | ⟨rfl, rfl⟩
  all_goals
    go_enter Try.func16, Try.ntmps16
    go_wp2_with fail
    have p0 := (Blk.new (w := w) 26 [.int .i64 n, .slice p (wcount n) c]).cell (i := 0) rfl
    have p1 := (Blk.new (w := w) 26 [.int .i64 n, .slice p (wcount n) c]).cell (i := 1) rfl
    generalize w.alloc (.cells #[.int .i64 n, .slice p (wcount n) c] 26) = W at *
    go_loop [12] (fun i => ∃ k : Nat, k ≤ wcount n ∧ i = .int .i64 k ∧ ∀ j, 0 < j → j < k → word x j = 0) (fun i => wcount n - (intOf i).toNat)
    case atStart => exact ⟨0, Nat.zero_le _, rfl, fun j _ hj => absurd hj (Nat.not_lt_zero _)⟩
    case round =>
      obtain ⟨k, hk, rfl, hno⟩ := hrel
      have HN := Lib.hid hno
      clear hno
      by_cases hlt : k < wcount n
      · obtain ⟨b, o, rfl⟩ := H.out.1.sl (wordsV_at hlt)
        have f0 := H.out.1.cell (wordsV_at hlt)
        have hki : (k : Int) < wcount n := by omega
        rcases Nat.eq_zero_or_pos k with rfl | hkp
        · rw [Nat.add_zero] at f0
          generalize word x 0 = y at *
          clear hlt
          go_wp2_with fail
          go_round
          case rel => exact ⟨1, by omega, by go_num, fun j h1 h2 => by omega⟩
          case measure => simp [intOf]; omega
        · have hkp' : 0 < (k : Int) := by omega
          by_cases h0 : word x k = 0
          · have h0' : (((word x k : Nat) : Int) != 0) = false := by simp [h0]
            have H0 := Lib.hid (show (fun j => word x j) k = 0 from h0)
            generalize word x k = y at *
            clear h0
            go_wp2_with fail
            go_round
            case rel => exact ⟨k + 1, by omega, by go_num, fun j h1 h2 => by
                          by_cases e : j = k
                          · subst e; exact H0.out
                          · exact HN.out j h1 (by omega)⟩
            case measure => simp [intOf]; omega
          · have h0' : (((word x k : Nat) : Int) != 0) = true := by simp [h0]
            have hbig := Lib.hid (big_word hkp h0)
            generalize word x k = y at *
            clear h0
            go_wp2_with fail
            go_ret
            have hb := hbig.out
            exact ⟨by rw [Int.min_eq_right (by omega)]; rfl, HBe.out⟩
      · obtain rfl : k = wcount n := by omega
        clear hlt
        rcases Nat.eq_zero_or_pos n with rfl | hn
        · have hx0 : x = 0 := by have := H.out.2; omega
          have HX := Lib.hid hx0
          have hn0 : (((0 : Nat) : Int) == 0) = true := rfl
          clear hx0
          go_wp2_with fail
          go_ret
          exact ⟨by rw [HX.out]; first | (simp; done) | (simp; omega), HBe.out⟩
        · have hn0 : ((n : Int) == 0) = false := by simp; omega
          have hni0 : 0 < (n : Int) := by omega
          have hm0 : 0 < wcount n := by unfold wcount; omega
          have hm0i : 0 < (wcount n : Int) := by omega
          obtain ⟨b, o, rfl⟩ := H.out.1.sl (wordsV_at hm0)
          have f0 := H.out.1.cell (wordsV_at hm0)
          rw [Nat.add_zero] at f0
          obtain ⟨hx0, hy⟩ := small_word H.out.2 HN.out hn
          have HX := Lib.hid hx0
          generalize word x 0 = y at *
          clear hx0 hy hm0 hn
          go_wp2_with fail
          all_goals
            go_ret
            refine ⟨congrArg (fun z => Ending.returned (Value.int .i64 z)) (?_ : _ = min (x : Int) _), HBe.out⟩
            rw [HX.out]
            omega
end Go.Proofs.Ytmimafbedbohiaa
