
import Derived.Test.YtcdjkbgedmehjaaGreatDoorVB2
namespace Go.Proofs.YtcdjkbgedmehjaaGreatDoor
set_option linter.unusedVariables false
open Go.RowKit
end Go.Proofs.YtcdjkbgedmehjaaGreatDoor
namespace Go.Proofs.YtcdjkbgedmehjaaGreatDoor
set_option linter.unusedVariables false
open Go.RowKit
end Go.Proofs.YtcdjkbgedmehjaaGreatDoor
namespace Go.Proofs.YtcdjkbgedmehjaaGreatDoor
set_option linter.unusedVariables false
open Go.RowKit
theorem setB_ofB (f : Nat → Bool) (k : Nat) : setB (ofB f k) k (f k) = ofB f (k + 1) := by
  apply eq_bits; intro j
  rw [setB_bit, testBit_ofB, testBit_ofB]
  by_cases e : j = k
  · subst e; simp
  · rw [if_neg e]
    by_cases h : j < k
    · simp [h, Nat.lt_succ_of_lt h]
    · have : ¬ j < k + 1 := by omega
      simp [h, this]
theorem ofB_none (f : Nat → Bool) (k : Nat) (h : ∀ j, j < k → f j = false) : ofB f k = 0 := by
  apply eq_bits; intro j
  rw [testBit_ofB, Nat.zero_testBit]
  by_cases hj : j < k
  · simp [h j hj]
  · simp [hj]
/-- the block L of the variable out, and the block a of a boxed vector -/
theorem four_step {w' w'' : World} {L a : Nat} {x y u v : Value} (h : w'.cell? ⟨L, 0, none⟩ = some x ∧ w'.cell? ⟨L, 1, none⟩ = some y ∧ w'.cell? ⟨a, 0, none⟩ = some u ∧ w'.cell? ⟨a, 1, none⟩ = some v) (hb : Below w'.heap.size w' w'') :
    w''.cell? ⟨L, 0, none⟩ = some x ∧ w''.cell? ⟨L, 1, none⟩ = some y ∧ w''.cell? ⟨a, 0, none⟩ = some u ∧ w''.cell? ⟨a, 1, none⟩ = some v :=
  ⟨(hb.cell (World.block_lt_of_cell? _ _ h.1)).trans h.1, (hb.cell (World.block_lt_of_cell? _ _ h.2.1)).trans h.2.1, (hb.cell (World.block_lt_of_cell? _ _ h.2.2.1)).trans h.2.2.1, (hb.cell (World.block_lt_of_cell? _ _ h.2.2.2)).trans h.2.2.2⟩
theorem Bld.four {w bs n x b wr} (h : Bld w bs n x b wr) {L a : Nat} {p q u v : Value} (hL : (L, [p, q]) ∈ bs) (ha : (a, [u, v]) ∈ bs) :
    wr.cell? ⟨L, 0, none⟩ = some p ∧ wr.cell? ⟨L, 1, none⟩ = some q ∧ wr.cell? ⟨a, 0, none⟩ = some u ∧ wr.cell? ⟨a, 1, none⟩ = some v :=
  ⟨(h.box hL).cell (i := 0) rfl, (h.box hL).cell (i := 1) rfl, (h.box ha).cell (i := 0) rfl, (h.box ha).cell (i := 1) rfl⟩
/-- what up gives: bit j is bit j - s of A -/
def upF (A s : Nat) (j : Nat) : Bool := decide (s ≤ j) && A.testBit (j - s)
theorem bitI_sub (A s k : Nat) (h : s ≤ k) : bitI A ((k : Int) - (s : Int)) = upF A s k := by
  unfold bitI upF
  rw [decide_eq_true (by omega), decide_eq_true h, show ((k : Int) - (s : Int)).toNat = k - s by omega]
end Go.Proofs.YtcdjkbgedmehjaaGreatDoor
namespace Go.Proofs.YtcdjkbgedmehjaaGreatDoor
set_option linter.unusedVariables false
open Go.RowKit
/-- what down gives: bit j is bit j + s of A, or q -/
def downF (A n s : Nat) (q : Bool) (j : Nat) : Bool := if j < n - s then A.testBit (j + s) else q
def b2n (b : Bool) : Nat := if b then 1 else 0
theorem setB_one (b : Bool) : setB 0 0 b = b2n b := by cases b <;> rfl
end Go.Proofs.YtcdjkbgedmehjaaGreatDoor
namespace Go.Proofs.YtcdjkbgedmehjaaGreatDoor
set_option linter.unusedVariables false
open Go.RowKit
/-- a vector is returned -/
def Ret (w : World) (n x : Nat) (e : Ending) (w' : World) : Prop := ∃ v, e = .returned v ∧ VR w' v n x ∧ Below w.heap.size w w'
theorem Fresh.ret {w : World} {n x : Nat} {e : Ending} {w' : World} (hx : x < 2 ^ n) (h : Fresh w n x e w') : Ret w n x e w' := by
  obtain ⟨v, b, he, hv, _, hb⟩ := h
  exact ⟨v, he, hv.vr hx, hb⟩
/-- the highest bit -/
def topB (n x : Nat) : Bool := bitI x ((n : Int) - 1)
/-- behind the store of a result that is read -/
theorem ret3 {w w3 : World} {R n x : Nat} {u v : Value} {p : Option Addr} {c : Nat} (hR : Blk w3 R 46 [u, v]) (hb : Below w.heap.size w w3) (hge : w.heap.size ≤ R) (hv : VR w3 (.agg #[.int .i64 n, .slice p (wcount n) c]) n x) (hne : ∀ b o, p = some ⟨b, o, none⟩ → b ≠ R) :
    ((w3.setCell ⟨R, 0, none⟩ (.int .i64 n)).setCell ⟨R, 1, none⟩ (.slice p (wcount n) c)).cell? ⟨R, 0, none⟩ = some (.int .i64 n) ∧
    ((w3.setCell ⟨R, 0, none⟩ (.int .i64 n)).setCell ⟨R, 1, none⟩ (.slice p (wcount n) c)).cell? ⟨R, 1, none⟩ = some (.slice p (wcount n) c) ∧
    VR ((w3.setCell ⟨R, 0, none⟩ (.int .i64 n)).setCell ⟨R, 1, none⟩ (.slice p (wcount n) c)) (.agg #[.int .i64 n, .slice p (wcount n) c]) n x ∧
    Below w.heap.size w ((w3.setCell ⟨R, 0, none⟩ (.int .i64 n)).setCell ⟨R, 1, none⟩ (.slice p (wcount n) c)) := by
  have hk := (hR.set 0 (.int .i64 n)).set 1 (.slice p (wcount n) c)
  refine ⟨hk.cell (i := 0) rfl, hk.cell (i := 1) rfl, ⟨?_, hv.lt, hv.le⟩, (hb.setCell hge _).setCell hge _⟩
  obtain ⟨⟨p', c', e, hl, p2, c2, e2, hcs⟩, _, _⟩ := hv
  simp only [Value.agg.injEq, Array.mk.injEq, List.cons.injEq, Value.slice.injEq, true_and, and_true] at e
  obtain ⟨rfl, rfl⟩ := e
  refine ⟨p, c, rfl, hl, p2, c2, e2, fun j y hj => ?_⟩
  obtain ⟨b, o, h1, h2⟩ := hcs j y hj
  simp only [Value.slice.injEq] at e2
  obtain ⟨rfl, _⟩ := e2
  exact ⟨b, o, h1, (World.cell?_setCell_far _ _ _ _ (Ne.symm (hne b o h1))).trans ((World.cell?_setCell_far _ _ _ _ (Ne.symm (hne b o h1))).trans h2)⟩
theorem big_word {x i : Nat} (hi : 0 < i) (h : word x i ≠ 0) : 2 ^ 64 ≤ x := by
  rcases Nat.lt_or_ge x (2 ^ 64) with hx | hx
  · exact absurd (by rw [word, Nat.div_eq_of_lt (Nat.lt_of_lt_of_le hx (Nat.pow_le_pow_right (by decide) (by omega)))]) h
  · exact hx
theorem small_word {x n : Nat} (hx : x < 2 ^ n) (h : ∀ i, 0 < i → i < wcount n → word x i = 0) (hn : 0 < n) : x = word x 0 ∧ word x 0 < 2 ^ 64 := by
  refine ⟨?_, word_lt _ _⟩
  have hm : 0 < wcount n := by unfold wcount; omega
  refine words_ext (m := wcount n) (Nat.lt_of_lt_of_le hx (Nat.pow_le_pow_right (by decide) (n_le_words n))) (Nat.lt_of_lt_of_le (word_lt x 0) (Nat.pow_le_pow_right (by decide) (by omega))) fun i hi => ?_
  by_cases e : i = 0
  · subst e
    have := word_lt x 0
    have e2 : word (word x 0) 0 = word x 0 := by
      rw [word]; simp only [Nat.mul_zero, Nat.pow_zero, Nat.div_one]; exact Nat.mod_eq_of_lt this
    exact e2.symm
  · rw [h i (by omega) hi]
    have := word_lt x 0
    rw [word, Nat.div_eq_of_lt (Nat.lt_of_lt_of_le this (Nat.pow_le_pow_right (by decide) (by omega)))]
end Go.Proofs.YtcdjkbgedmehjaaGreatDoor
namespace Go.Proofs.YtcdjkbgedmehjaaGreatDoor
set_option linter.unusedVariables false
theorem up_one (R n : Nat) : ofB (upF R 1) n = 2 * R % 2 ^ n := by
  apply eq_bits; intro j
  rw [testBit_ofB, mod_bit, show 2 * R = R * 2 ^ 1 by omega, Nat.testBit_mul_two_pow]
  unfold upF
  congr 2
theorem set_zero (x : Nat) (b : Bool) (hx : x % 2 = 0) : setB x 0 b = x + (if b then 1 else 0) := by
  have h0 : x.testBit 0 = false := by rw [Nat.testBit_zero]; simp [hx]
  cases b
  · apply eq_bits; intro j
    rw [setB_bit]
    by_cases e : j = 0
    · subst e; simp [h0]
    · simp [e]
  · have := Nat.two_pow_add_eq_or_of_lt (i := 1) (b := 1) (by decide) (x / 2)
    rw [← setB_or]
    have e : 2 ^ 1 * (x / 2) = x := by omega
    rw [e] at this
    simpa using this.symm
theorem set_high (h i : Nat) : setB (h * 2 ^ (i + 1)) i true = h * 2 ^ (i + 1) + 2 ^ i := by
  have := Nat.two_pow_add_eq_or_of_lt (i := i + 1) (b := 2 ^ i) (Nat.pow_lt_pow_right (by decide) (Nat.lt_succ_self i)) h
  rw [← setB_or, Nat.mul_comm h]; exact this.symm
theorem top_eq {n R : Nat} (hn : 0 < n) (hR : R < 2 ^ n) : topB n R = decide (2 ^ n ≤ 2 * R) := by
  unfold topB bitI
  rw [decide_eq_true (by omega), Bool.true_and, show ((n : Int) - 1).toNat = n - 1 by omega, Nat.testBit_eq_decide_div_mod_eq]
  obtain ⟨m, rfl⟩ : ∃ m, n = m + 1 := ⟨n - 1, by omega⟩
  rw [Nat.pow_succ] at *
  simp only [Nat.add_sub_cancel]
  have hp : 0 < 2 ^ m := Nat.pow_pos (by decide)
  have h1 : R / 2 ^ m < 2 := by rw [Nat.div_lt_iff_lt_mul hp]; omega
  congr 1
  apply propext
  have h2 : (R / 2 ^ m % 2 = 1) ↔ 1 ≤ R / 2 ^ m := by generalize R / 2 ^ m = q at h1 ⊢; omega
  rw [h2, Nat.le_div_iff_mul_le hp]
  omega
/-- after the bits from k on: the rest is R, the quotient's bits Q -/
def SP (A B k Q R : Nat) : Prop := R = A / 2 ^ k % B ∧ Q = A / 2 ^ k / B * 2 ^ k
theorem sp_start {A B n : Nat} (hA : A < 2 ^ n) : SP A B n 0 0 := by
  unfold SP; rw [Nat.div_eq_of_lt hA]; simp
theorem sp_end {A B Q R : Nat} (h : SP A B 0 Q R) : Q = A / B ∧ R = A % B := by
  unfold SP at h; simp at h; exact ⟨h.2, h.1⟩
theorem sp_R2 {R n a : Nat} {b : Bool} (hn : 0 < n) : setB (ofB (upF R 1) n) 0 b = 2 * R % 2 ^ n + (if b then 1 else 0) := by
  rw [up_one]
  refine set_zero _ _ ?_
  obtain ⟨m, rfl⟩ : ∃ m, n = m + 1 := ⟨n - 1, by omega⟩
  rw [Nat.pow_succ, Nat.mul_comm (2 ^ m) 2, Nat.mul_mod_mul_left]; omega
theorem sp_step {A B n i Q R : Nat} (hn : 0 < n) (hB : 0 < B) (hBn : B < 2 ^ n) (h : SP A B (i + 1) Q R) :
    ((topB n R || !(decide (setB (ofB (upF R 1) n) 0 (A.testBit i) < B))) = true → SP A B i (setB Q i true) ((setB (ofB (upF R 1) n) 0 (A.testBit i) + notN n B + 1) % 2 ^ n)) ∧
    ((topB n R || !(decide (setB (ofB (upF R 1) n) 0 (A.testBit i) < B))) = false → SP A B i Q (setB (ofB (upF R 1) n) 0 (A.testBit i))) := by
  obtain ⟨hR, hQ⟩ := h
  have hRB : R < B := by rw [hR]; exact Nat.mod_lt _ hB
  have hdm := Nat.div_add_mod (A / 2 ^ (i + 1)) B
  rw [← hR] at hdm
  have hA : A / 2 ^ i = 2 * (A / 2 ^ (i + 1)) + (if A.testBit i then 1 else 0) := by
    have h1 : A / 2 ^ (i + 1) = A / 2 ^ i / 2 := by rw [Nat.pow_succ, Nat.div_div_eq_div_mul]
    rw [h1, Nat.testBit_eq_decide_div_mod_eq]
    generalize A / 2 ^ i = q
    simp only [decide_eq_true_eq]
    split <;> omega
  rw [sp_R2 (a := 0) hn, top_eq hn (by omega)]
  generalize hh : A / 2 ^ (i + 1) / B = hq at *
  generalize A / 2 ^ (i + 1) = H at *
  generalize hb : (if A.testBit i = true then 1 else 0) = b at *
  have hb2 : b ≤ 1 := by rw [← hb]; split <;> omega
  have hpar : ∃ m, 2 ^ n = 2 * m := by
    obtain ⟨m, rfl⟩ : ∃ m, n = m + 1 := ⟨n - 1, by omega⟩
    exact ⟨2 ^ m, by rw [Nat.pow_succ]; omega⟩
  obtain ⟨m, hm⟩ := hpar
  unfold notN SP
  have hmod : 2 * R % 2 ^ n = if 2 ^ n ≤ 2 * R then 2 * R - 2 ^ n else 2 * R := by
    split
    · rw [Nat.mod_eq_sub_mod (by omega), Nat.mod_eq_of_lt (by omega)]
    · exact Nat.mod_eq_of_lt (by omega)
  rw [hmod]
  have key : A / 2 ^ i = B * (2 * hq) + (2 * R + b) := by
    rw [hA, ← hdm]; rw [Nat.mul_left_comm B 2]; omega
  constructor
  · intro hc
    have hge : B ≤ 2 * R + b := by
      simp only [Bool.or_eq_true, decide_eq_true_eq, Bool.not_eq_true', decide_eq_false_iff_not, Nat.not_lt] at hc
      rcases hc with h | h
      · omega
      · split at h <;> omega
    have key2 : A / 2 ^ i = B * (2 * hq + 1) + (2 * R + b - B) := by rw [key, Nat.mul_add B (2 * hq) 1]; omega
    have e1 : A / 2 ^ i % B = 2 * R + b - B := by rw [key2, Nat.mul_add_mod, Nat.mod_eq_of_lt (by omega)]
    have e2 : A / 2 ^ i / B = 2 * hq + 1 := by rw [key2, Nat.mul_add_div hB, Nat.div_eq_of_lt (by omega)]
    rw [e1, e2, hQ, set_high]
    refine ⟨?_, ?_⟩
    · split
      · rw [show 2 * R - 2 ^ n + b + (2 ^ n - 1 - B) + 1 = 2 * R + b - B by omega, Nat.mod_eq_of_lt (by omega)]
      · rw [show 2 * R + b + (2 ^ n - 1 - B) + 1 = 2 * R + b - B + 2 ^ n by omega, Nat.add_mod_right, Nat.mod_eq_of_lt (by omega)]
    · rw [Nat.pow_succ, Nat.add_mul, Nat.one_mul, Nat.mul_comm (2 ^ i) 2, ← Nat.mul_assoc, Nat.mul_comm hq 2]
  · intro hc
    simp only [Bool.or_eq_false_iff, decide_eq_false_iff_not, Bool.not_eq_false', decide_eq_true_eq, Nat.not_le] at hc
    obtain ⟨hc1, hc2⟩ := hc
    rw [if_neg (by omega)] at hc2 ⊢
    have e1 : A / 2 ^ i % B = 2 * R + b := by rw [key, Nat.mul_add_mod, Nat.mod_eq_of_lt (by omega)]
    have e2 : A / 2 ^ i / B = 2 * hq := by rw [key, Nat.mul_add_div hB, Nat.div_eq_of_lt (by omega)]; omega
    rw [e1, e2, hQ]
    exact ⟨rfl, by rw [Nat.pow_succ, Nat.mul_comm (2 ^ i) 2, ← Nat.mul_assoc, Nat.mul_comm hq 2]⟩
end Go.Proofs.YtcdjkbgedmehjaaGreatDoor
