
import Derived.Test.YtcdjkbgedmehjaaGreatDoorVB1
namespace Go.Proofs.YtcdjkbgedmehjaaGreatDoor
set_option linter.unusedVariables false
open Go.RowKit
/-- after k rounds the words of the sum stand -/
def PlusRel (w : World) (bs : List (Nat × List Value)) (n b S : Nat) (k : Nat) (wr : World) : Prop := ∃ X, Bld w bs n X b wr ∧ ∀ i, i < wcount n → word X i = if i < k then word S i else 0
theorem PlusRel.step {w bs n b S k wr w'} {y : Nat} (h : PlusRel w bs n b S k wr) (hk : k < wcount n) (hy : y = word S k) (hw : w' = (wr.setCell ⟨b, k, none⟩ (.int .u64 y)).drew) : PlusRel w bs n b S (k + 1) w' := by
  obtain ⟨X, hB, hX⟩ := h
  subst hw
  have hlt : y < 2 ^ 64 := hy ▸ word_lt _ _
  refine ⟨_, (hB.word hk hlt).drew, fun i hi => ?_⟩
  rw [setW_word _ _ _ _ hlt, hX i hi]
  by_cases e : i = k
  · subst e; rw [if_pos rfl, if_pos (Nat.lt_succ_self _), hy]
  · by_cases e2 : i < k
    · rw [if_neg e, if_pos e2, if_pos (by omega)]
    · rw [if_neg e, if_neg e2, if_neg (by omega)]
theorem PlusRel.done {w bs n b S wr} (h : PlusRel w bs n b S (wcount n) wr) : ∃ X, Bld w bs n X b wr ∧ X % 2 ^ n = S % 2 ^ n := by
  obtain ⟨X, hB, hX⟩ := h
  exact ⟨X, hB, cut_of_words (n_le_words n) fun i hi => by rw [hX i hi, if_pos hi]⟩
end Go.Proofs.YtcdjkbgedmehjaaGreatDoor
namespace Go.Proofs.YtcdjkbgedmehjaaGreatDoor
set_option linter.unusedVariables false
open Go.RowKit
theorem u64_turn (a : Nat) (ha : a < 2 ^ 64) : bits .xor .u64 (if IntKind.u64.signed = true then -1 else IntKind.u64.max) (a : Int) = ((18446744073709551615 - a : Nat) : Int) := by
  have e : (if IntKind.u64.signed = true then (-1 : Int) else IntKind.u64.max) = ((18446744073709551615 : Nat) : Int) := rfl
  have h2 : (18446744073709551615 : Nat) ^^^ a = 18446744073709551615 - a := by
    apply eq_bits; intro j
    rw [show 18446744073709551615 - a = 2 ^ 64 - (a + 1) by omega, Nat.testBit_two_pow_sub_succ ha, Nat.testBit_xor, show (18446744073709551615 : Nat) = 2 ^ 64 - (0 + 1) from rfl, Nat.testBit_two_pow_sub_succ (by decide)]
    by_cases hj : j < 64
    · simp [hj]
    · rw [bit_big ha (by omega)]; simp [hj]
  rw [e, u64_xor_nat _ a (by decide) ha, h2]
theorem PlusRel.step0 {w bs n b S k wr} {y : Nat} (h : PlusRel w bs n b S k wr) (hk : k < wcount n) (hy : y = word S k) : PlusRel w bs n b S (k + 1) (wr.setCell ⟨b, k, none⟩ (.int .u64 y)) := by
  obtain ⟨X, hB, hX⟩ := h
  have hlt : y < 2 ^ 64 := hy ▸ word_lt _ _
  refine ⟨_, hB.word hk hlt, fun i hi => ?_⟩
  rw [setW_word _ _ _ _ hlt, hX i hi]
  by_cases e : i = k
  · subst e; rw [if_pos rfl, if_pos (Nat.lt_succ_self _), hy]
  · by_cases e2 : i < k
    · rw [if_neg e, if_pos e2, if_pos (by omega)]
    · rw [if_neg e, if_neg e2, if_neg (by omega)]
end Go.Proofs.YtcdjkbgedmehjaaGreatDoor
namespace Go.Proofs.YtcdjkbgedmehjaaGreatDoor
set_option linter.unusedVariables false
open Go.RowKit
/-- bit i of x, at any index -/
def bitI (x : Nat) (i : Int) : Bool := decide (0 ≤ i) && x.testBit i.toNat
theorem u64_bit (W k : Nat) (hW : W < 2 ^ 64) (r : Bool) (hr : W.testBit k = r) : (bits .and .u64 ((W : Int) / 2 ^ k) 1 == 1) = r := by
  have e : (W : Int) / 2 ^ k = ((W / 2 ^ k : Nat) : Int) := by simp
  have h1 : W / 2 ^ k < 18446744073709551616 := Nat.lt_of_le_of_lt (Nat.div_le_self _ _) hW
  rw [e, show (1 : Int) = ((1 : Nat) : Int) from rfl, u64_and_nat _ 1 h1 (by decide), nat_mask1, ← hr, Nat.testBit_eq_decide_div_mod_eq]
  generalize W / 2 ^ k % 2 = q
  rw [Bool.eq_iff_iff]
  simp
  omega
set_option maxRecDepth 100000 in
set_option maxHeartbeats 1000000 in
theorem bit_any {w : World} {v : Value} {n x : Nat} (h : VR w v n x) (i : Int) : Calls Tryz.prog 52 #[v, .int .i64 i] w fun e w' => e = .returned (.bool (bitI x i)) ∧ Below w.heap.size w w' := by
  by_cases h0 : i < 0
  · have hb : bitI x i = false := by unfold bitI; rw [decide_eq_false (by omega)]; rfl
    obtain ⟨⟨p, c, rfl, _⟩, _, _⟩ := h
    rw [hb]
    clear hb
    have hd : decide (0 ≤ i) = false := by simp; omega
    go_enter Tryz.func52, Tryz.ntmps52
    go_wp2_with fail
    go_ret
    exact ⟨rfl, Below.new _ _⟩
  · obtain ⟨j, rfl⟩ : ∃ j : Nat, i = j := ⟨i.toNat, by omega⟩
    have hb : bitI x j = x.testBit j := by unfold bitI; simp
    rw [hb]
    have hle := h.le
    by_cases hj : j < n
    · have hk : j / 64 < wcount n := by unfold wcount; omega
      obtain ⟨b, o, c, rfl, hc⟩ := h.word hk
      have hlt := World.block_lt_of_cell? _ _ hc
      have hji : (j : Int) < n := by omega
      have hji2 : (j : Int) ≤ 128 := by omega
      have q1 : (0 : Int) ≤ (j : Int) / 64 := by omega
      have q2 : (j : Int) / 64 < (wcount n : Int) := by omega
      have q3 : ((j : Int) / 64).toNat = j / 64 := by omega
      have q4 : (0 : Int) ≤ (j : Int) % 64 := by omega
      have q5 : ((j : Int) % 64).toNat = j % 64 := by omega
      have q6 : (j : Int).tmod 64 = (j : Int) % 64 := Int.tmod_eq_emod_of_nonneg (by omega)
      have q7 : min (j % 64) 64 = j % 64 := by omega
      have q0 : IntKind.i64.wrap ((j : Int) / 64) = (j : Int) / 64 := IntWalk.i64_in _ (by omega)
      obtain ⟨r, hr⟩ : ∃ r, x.testBit j = r := ⟨_, rfl⟩
      have hu := u64_bit (word x (j / 64)) (j % 64) (word_lt _ _) r (by rw [← hr]; exact (bit_word x j).symm)
      have hd : decide (0 ≤ (j : Int)) = true := by simp
      have hd2 : decide ((j : Int) < n) = true := by simp; omega
      rw [hr]
      have HU := Lib.hid hu
      generalize word x (j / 64) = wx at *
      clear h hb hr hk hj
      go_enter Tryz.func52, Tryz.ntmps52
      go_wp2_with fail
      go_ret
      exact ⟨rfl, Below.new _ _⟩
    · have hb2 : x.testBit j = false := bit_big h.lt (by omega)
      rw [hb2]
      obtain ⟨⟨p, c, rfl, _⟩, _, _⟩ := h
      have hd : decide (0 ≤ (j : Int)) = true := by simp
      have hd2 : decide ((j : Int) < n) = false := by simp; omega
      have hji : (n : Int) ≤ j := by omega
      clear hb hb2 hj
      go_enter Tryz.func52, Tryz.ntmps52
      go_wp2_with fail
      go_ret
      exact ⟨rfl, Below.new _ _⟩
end Go.Proofs.YtcdjkbgedmehjaaGreatDoor
namespace Go.Proofs.YtcdjkbgedmehjaaGreatDoor
set_option linter.unusedVariables false
open Go.RowKit
theorem two_step {w w' w'' : World} {a : Nat} {u v : Value} (h : w'.cell? ⟨a, 0, none⟩ = some u ∧ w'.cell? ⟨a, 1, none⟩ = some v ∧ Below w.heap.size w w') (hb : Below w'.heap.size w' w'') :
    w''.cell? ⟨a, 0, none⟩ = some u ∧ w''.cell? ⟨a, 1, none⟩ = some v ∧ Below w.heap.size w w'' :=
  ⟨(hb.cell (World.block_lt_of_cell? _ _ h.1)).trans h.1, (hb.cell (World.block_lt_of_cell? _ _ h.2.1)).trans h.2.1, h.2.2.trans (hb.mono h.2.2.size)⟩
theorem two_set {w w' : World} {a R : Nat} {u v x y : Value} (h : w'.cell? ⟨a, 0, none⟩ = some u ∧ w'.cell? ⟨a, 1, none⟩ = some v ∧ Below w.heap.size w w') (hne : R ≠ a) (hR : w.heap.size ≤ R) :
    ((w'.setCell ⟨R, 0, none⟩ x).setCell ⟨R, 1, none⟩ y).cell? ⟨a, 0, none⟩ = some u ∧ ((w'.setCell ⟨R, 0, none⟩ x).setCell ⟨R, 1, none⟩ y).cell? ⟨a, 1, none⟩ = some v ∧ Below w.heap.size w ((w'.setCell ⟨R, 0, none⟩ x).setCell ⟨R, 1, none⟩ y) :=
  ⟨(World.cell?_setCell_far _ _ _ _ hne).trans ((World.cell?_setCell_far _ _ _ _ hne).trans h.1), (World.cell?_setCell_far _ _ _ _ hne).trans ((World.cell?_setCell_far _ _ _ _ hne).trans h.2.1), (h.2.2.setCell hR _).setCell hR _⟩
theorem Blk.next {w w' : World} {b t l} (h : Blk w b t l) (hb : Below w.heap.size w w') : Blk w' b t l := h.below hb h.lt
/-- .. behind the store of a result: the block R has n and the slice -/
theorem ret2 {w w3 : World} {R n b x : Nat} {u v : Value} (hR : Blk w3 R 46 [u, v]) (hb : Below w.heap.size w w3) (hge : w.heap.size ≤ R) (hv : VO w3 (vecO n b) n x b) (hne : R ≠ b) :
    ((w3.setCell ⟨R, 0, none⟩ (.int .i64 n)).setCell ⟨R, 1, none⟩ (.slice (some ⟨b, 0, none⟩) (wcount n) (wcount n))).cell? ⟨R, 0, none⟩ = some (.int .i64 n) ∧
    ((w3.setCell ⟨R, 0, none⟩ (.int .i64 n)).setCell ⟨R, 1, none⟩ (.slice (some ⟨b, 0, none⟩) (wcount n) (wcount n))).cell? ⟨R, 1, none⟩ = some (.slice (some ⟨b, 0, none⟩) (wcount n) (wcount n)) ∧
    VO ((w3.setCell ⟨R, 0, none⟩ (.int .i64 n)).setCell ⟨R, 1, none⟩ (.slice (some ⟨b, 0, none⟩) (wcount n) (wcount n))) (vecO n b) n x b ∧
    Below w.heap.size w ((w3.setCell ⟨R, 0, none⟩ (.int .i64 n)).setCell ⟨R, 1, none⟩ (.slice (some ⟨b, 0, none⟩) (wcount n) (wcount n))) := by
  have hk := (hR.set 0 (.int .i64 n)).set 1 (.slice (some ⟨b, 0, none⟩) (wcount n) (wcount n))
  exact ⟨hk.cell (i := 0) rfl, hk.cell (i := 1) rfl, (hv.other (Ne.symm hne) _).other (Ne.symm hne) _, (hb.setCell hge _).setCell hge _⟩
theorem zero_words {x n : Nat} (hx : x < 2 ^ n) : x ≠ 0 ↔ ∃ i, i < wcount n ∧ word x i ≠ 0 := by
  constructor
  · intro h
    rcases Classical.em (∃ i, i < wcount n ∧ word x i ≠ 0) with h' | h'
    · exact h'
    · exact absurd (words_ext (m := wcount n) (Nat.lt_of_lt_of_le hx (Nat.pow_le_pow_right (by decide) (n_le_words n))) (Nat.pow_pos (by decide)) fun i hi => by
        rw [word_zero]
        rcases Nat.eq_zero_or_pos (word x i) with e | e
        · exact e
        · exact absurd ⟨i, hi, by omega⟩ h') h
  · rintro ⟨i, _, h⟩ rfl
    exact h (word_zero i)
def nz (x : Nat) : Bool := x != 0
end Go.Proofs.YtcdjkbgedmehjaaGreatDoor
