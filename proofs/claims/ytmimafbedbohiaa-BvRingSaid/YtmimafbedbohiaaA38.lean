import Derived.Test.YtmimafbedbohiaaA35
namespace Go.Proofs.Ytmimafbedbohiaa
set_option linter.unusedVariables false
open Go.RowKit

/-- as VO, with cells behind the words -/
structure VOc (w : World) (v : Value) (n x b cap : Nat) (rest : List Value) : Prop where
  e : v = .agg #[.int .i64 n, .slice (some ⟨b, 0, none⟩) (wcount n) cap]
  blk : Blk w b 22 (wordsV (wcount n) x ++ rest)
  lt : x < 2 ^ (64 * wcount n)
  le : n ≤ 128
theorem VOc.below {w w' : World} {v n x b cap rest} (h : VOc w v n x b cap rest) (hb : Below w.heap.size w w') : VOc w' v n x b cap rest := ⟨h.e, h.blk.below hb h.blk.lt, h.lt, h.le⟩
theorem VOc.other {w : World} {v n x b cap rest} (h : VOc w v n x b cap rest) {a : Addr} (ha : b ≠ a.block) (u : Value) : VOc (w.setCell a u) v n x b cap rest := ⟨h.e, h.blk.other u ha, h.lt, h.le⟩
theorem VOc.at {m x i : Nat} {rest : List Value} (h : i < m) : (wordsV m x ++ rest)[i]? = some (.int .u64 (word x i)) := by
  rw [List.getElem?_append_left (by rw [wordsV_length]; exact h)]; exact wordsV_at h
theorem VOc.vr {w v n x b cap rest} (h : VOc w v n x b cap rest) (hx : x < 2 ^ n) : VR w v n x := by
  refine ⟨⟨_, _, h.e, by rw [wordsV_length, Nat.mul_one], _, _, rfl, fun j u hj => ⟨b, 0, rfl, ?_⟩⟩, hx, h.le⟩
  rw [Nat.zero_add]
  refine h.blk.cell ?_
  rw [List.getElem?_append_left (by rcases Nat.lt_or_ge j (wordsV (wcount n) x).length with h | h; exact h; rw [List.getElem?_eq_none h] at hj; cases hj)]; exact hj
theorem VOc.set {w : World} {v n x b cap rest} (h : VOc w v n x b cap rest) {i y : Nat} (hi : i < wcount n) (hy : y < 2 ^ 64) : VOc (w.setCell ⟨b, i, none⟩ (.int .u64 y)) v n (setW x i y) b cap rest :=
  ⟨h.e, by have := h.blk.set i (.int .u64 y); rwa [List.set_append_left _ _ (by rw [wordsV_length]; exact hi), wordsV_set hy] at this, setW_lt h.lt hi hy, h.le⟩
theorem VOc.congr {w : World} {v n x y b cap rest} (h : VOc w v n x b cap rest) (hy : y < 2 ^ (64 * wcount n)) (he : ∀ i, i < wcount n → word x i = word y i) : VOc w v n y b cap rest := by
  obtain rfl := words_ext h.lt hy he; exact h
theorem VOc.setBit {w : World} {v : Value} {n x b cap rest} (h : VOc w v n x b cap rest) (i : Nat) (is : Bool) (hi : i < n) : VOc (w.setCell ⟨b, i / 64, none⟩ (.int .u64 ((setB (word x (i / 64)) (i % 64) is : Nat) : Int))) v n (setB x i is) b cap rest := by
  have hk : i / 64 < wcount n := by unfold wcount; omega
  have hy : setB (word x (i / 64)) (i % 64) is < 2 ^ 64 := setB_lt is (word_lt _ _) (Nat.mod_lt _ (by decide))
  refine (h.set hk hy).congr (setB_lt is h.lt (by have := n_le_words n; omega)) fun j _ => ?_
  rw [setW_word _ _ _ _ hy, setB_word]
  by_cases e : j = i / 64
  · subst e; rfl
  · rw [if_neg e, if_neg e]

set_option maxRecDepth 100000 in
set_option maxHeartbeats 1000000 in
theorem setc_any {w : World} {v : Value} {n x b cap rest} (h : VOc w v n x b cap rest) (i : Nat) (is : Bool) (hi : i < n) :
    Calls Try.prog 61 #[v, .int .i64 i, .bool is] w fun e w' => e = .returned (.tuple #[]) ∧ VOc w' v n (setB x i is) b cap rest ∧ w.grownBy w' (some b) := by
  have HV := Lib.hid (fun o => h.below (Below.new w o))
  obtain ⟨rfl, hb, hx, hn⟩ := h
  have hk : i / 64 < wcount n := by unfold wcount; omega
  have hlt := hb.lt
  have hc := (hb.alloc (.cells #[.int .i64 n, .slice (some ⟨b, 0, none⟩) (wcount n) cap] 26)).cell (VOc.at hk)
  have hf := (hb.alloc (.cells #[.int .i64 n, .slice (some ⟨b, 0, none⟩) (wcount n) cap] 26)).frz (i / 64)
  have hp0 := (Blk.new (w := w) 26 [.int .i64 n, .slice (some ⟨b, 0, none⟩) (wcount n) cap]).cell (i := 0) rfl
  have hp1 := (Blk.new (w := w) 26 [.int .i64 n, .slice (some ⟨b, 0, none⟩) (wcount n) cap]).cell (i := 1) rfl
  have hi' : (i : Int) ≤ 128 := by omega
  have q1 : (0 : Int) ≤ (i : Int) / 64 := by omega
  have q2 : (i : Int) / 64 < (wcount n : Int) := by omega
  have q3 : ((i : Int) / 64).toNat = i / 64 := by omega
  have q4 : (0 : Int) ≤ (i : Int) % 64 := by omega
  have q5 : ((i : Int) % 64).toNat = i % 64 := by omega
  have q6 : (i : Int).tmod 64 = (i : Int) % 64 := Int.tmod_eq_emod_of_nonneg (by omega)
  have q0 : IntKind.i64.wrap ((i : Int) / 64) = (i : Int) / 64 := IntWalk.i64_in _ (by omega)
  go_enter Try.func61, Try.ntmps61
  have hu0 := Lib.hid (u64_clr (word x (i / 64)) (i % 64) (word_lt _ _) (Nat.mod_lt _ (by decide)))
  have hu1 := Lib.hid (u64_put (word x (i / 64)) (i % 64) (word_lt _ _) (Nat.mod_lt _ (by decide)))
  have HG := Lib.hid (fun o y => grown_set w o b (i / 64) y hlt)
  have HI := Lib.hid hi
  clear hb hx hi hn hk
  cases is
  all_goals
    go_wp2_with fail
    have HV2 := Lib.hid ((HV.out (.cells #[.int .i64 n, .slice (some ⟨b, 0, none⟩) (wcount n) cap] 26)).setBit i)
    have HG2 := Lib.hid (HG.out (.cells #[.int .i64 n, .slice (some ⟨b, 0, none⟩) (wcount n) cap] 26))
    generalize w.alloc (.cells #[.int .i64 n, .slice (some ⟨b, 0, none⟩) (wcount n) cap] 26) = W at *
    refine wp_region_still_tail 11 (by kernel_rfl) (by kernel_rfl) ?_
    simp only [List.take_succ_cons, List.take_zero, List.drop_succ_cons, List.drop_zero]
    change wpStill _ _ W.drew (fun a' => wpList _ _ _ _ a' W.drew) _ _
    repeat still_step
    refine wpStill_nil ?_
    go_wp2_with fail
    first | rw [hu0.out] | rw [hu1.out]
    go_end0
    exact ⟨rfl, (HV2.out _ HI.out).below ((Below.refl _ _).drew), HG2.out _⟩

set_option maxRecDepth 100000 in
set_option maxHeartbeats 4000000 in
theorem put_bad {w : World} {va vb : Value} {n m A B : Nat} (hA : VR w va n A) (hB : VR w vb m B) (lo : Int) (hb : lo < 0 ∨ m < 1 ∨ n < m ∨ (n : Int) - m < lo) :
    Calls Try.prog 31 #[va, .int .i64 lo, vb] w (RetE w 0 0 3) := by
  have hni : (n : Int) ≤ 128 := by have := hA.le; omega
  have hmi : (m : Int) ≤ 128 := by have := hB.le; omega
  obtain ⟨pa, ca, rfl, _⟩ := hA.ex
  obtain ⟨pb, cb, rfl, _⟩ := hB.ex
  have hbel : Below w.heap.size w (((w.alloc (.cells #[.int .i64 n, .slice pa (wcount n) ca] 26)).alloc (.cells #[.int .i64 m, .slice pb (wcount m) cb] 26)).alloc (.cells #[.int .i64 0, .slice none 0 0] 26)) := ((Below.new _ _).alloc (by simp) _).alloc (by simp; omega) _
  have HBel := Lib.hid hbel
  clear hA hB hbel
  by_cases h0 : lo < 0
  · clear hb
    go_enter Try.func31, Try.ntmps31
    go_wp2_with fail
    exact bodyPost_ret (v := .tuple #[.agg #[.int .i64 0, .slice none 0 0], .int .i64 3]) (by simp [results, Try.results31, go_sem]) rfl ⟨_, rfl, VR.zero _, HBel.out, Far.zero _ _⟩
  have g0 : decide (lo < 0) = false := by simp; omega
  by_cases h1 : m < 1
  · have h1i : (m : Int) < 1 := by omega
    clear hb h0 h1
    go_enter Try.func31, Try.ntmps31
    go_wp2_with fail
    exact bodyPost_ret (v := .tuple #[.agg #[.int .i64 0, .slice none 0 0], .int .i64 3]) (by simp [results, Try.results31, go_sem]) rfl ⟨_, rfl, VR.zero _, HBel.out, Far.zero _ _⟩
  have g1 : decide ((m : Int) < 1) = false := by simp; omega
  by_cases h2 : n < m
  · have h2i : (n : Int) < m := by omega
    clear hb h0 h1 h2
    go_enter Try.func31, Try.ntmps31
    go_wp2_with fail
    exact bodyPost_ret (v := .tuple #[.agg #[.int .i64 0, .slice none 0 0], .int .i64 3]) (by simp [results, Try.results31, go_sem]) rfl ⟨_, rfl, VR.zero _, HBel.out, Far.zero _ _⟩
  · have g2 : decide (n < m) = false := decide_eq_false h2
    have g2i : decide ((n : Int) < m) = false := by simp; omega
    have h3 : (n : Int) - m < lo := by omega
    have hw : IntKind.i64.wrap ((n : Int) - m) = (n : Int) - m := IntWalk.i64_in _ (by omega)
    clear hb h0 h1 h2
    go_enter Try.func31, Try.ntmps31
    go_wp2_with fail
    exact bodyPost_ret (v := .tuple #[.agg #[.int .i64 0, .slice none 0 0], .int .i64 3]) (by simp [results, Try.results31, go_sem]) rfl ⟨_, rfl, VR.zero _, HBel.out, Far.zero _ _⟩
end Go.Proofs.Ytmimafbedbohiaa
