
import Derived.Test.YtkoggfahjlnecaaGreatDoorVB6
import Derived.Test.YtkoggfahjlnecaaGreatDoorVQ2
import Derived.Deep.CutRange
import Derived.Test.YtkoggfahjlnecaaGreatDoorVB3
import Derived.Test.YtkoggfahjlnecaaGreatDoorVB4
namespace Go.Proofs.YtkoggfahjlnecaaGreatDoor
set_option linter.unusedVariables false
open Go.RowKit
theorem Tryz.T24 : SlTy Tryz.prog 37 55 1 8 (.int .u64 0) := SlTy.of Tryz.underlying37 Tryz.info22 rfl Nat.one_pos
theorem Tryz.T35 : SlTy Tryz.prog 113 4 1 1 (.bool false) := SlTy.of Tryz.underlying113 Tryz.info4 rfl Nat.one_pos
end Go.Proofs.YtkoggfahjlnecaaGreatDoor
namespace Go.Proofs.YtkoggfahjlnecaaGreatDoor
set_option linter.unusedVariables false
open Go.RowKit
theorem wordsV_one (m x : Nat) : ∀ u ∈ wordsV m x, u.oneCell' = true := by
  intro u hu
  simp only [wordsV, List.mem_map] at hu
  obtain ⟨x, _, rfl⟩ := hu; rfl
/-- a list of bits and an error are returned -/
def RetEL (w : World) (n : Nat) (f : Nat → Bool) (err : Int) (e : Ending) (w' : World) : Prop := ∃ v, e = .returned (.tuple #[v, .int .i64 err]) ∧ RO w' v 1 n (bools (rl n f)) ∧ Below w.heap.size w w'
theorem RO.nil (w : World) (f : Nat → Bool) (c : Nat) : RO w (.slice none 0 c) 1 0 (bools (rl 0 f)) := ⟨rfl, _, _, rfl, fun j u hj => by simp [rl, bools] at hj⟩
theorem rl_append (n m : Nat) (f g : Nat → Bool) : rl n f ++ rl m g = rl (n + m) (fun i => if i < n then f i else g (i - n)) := by
  apply List.ext_getElem?
  intro j
  by_cases h : j < n
  · rw [List.getElem?_append_left (by rw [rl_length]; exact h)]
    simp only [rl, List.getElem?_map, List.getElem?_range h, List.getElem?_range (show j < n + m by omega), Option.map_some, if_pos h]
  · rw [List.getElem?_append_right (by rw [rl_length]; omega), rl_length]
    simp only [rl, List.getElem?_map]
    by_cases h2 : j < n + m
    · rw [List.getElem?_range (by omega : j - n < m), List.getElem?_range h2]; simp [h]
    · rw [List.getElem?_eq_none (by simp; omega), List.getElem?_eq_none (by simp; omega)]; rfl
theorem bools_append (a b : List Bool) : bools a ++ bools b = bools (a ++ b) := by simp [bools]
theorem own_bools0 (w : World) : (w.alloc (.cells #[] 4)).ownsRow w.heap.size 4 1 (.slice (some ⟨w.heap.size, 0, none⟩) 0 0) 0 (bools []) := (Blk.new (w := w) 4 []).own (n := 0) (size := 1) (by simp) (Nat.zero_le _) w.heap.size (Nat.le_refl _)
theorem own_bk {k : Nat} {g : Nat} (hk : (Value.slice (some ⟨g, 0, none⟩) 0 0).ownBlock = some k) : g = k := by simpa [Value.ownBlock] using hk
end Go.Proofs.YtkoggfahjlnecaaGreatDoor
namespace Go.Proofs.YtkoggfahjlnecaaGreatDoor
set_option linter.unusedVariables false
open Go.RowKit
/-- as VO, with cells behind the words -/
structure VOc (w : World) (v : Value) (n x b cap : Nat) (rest : List Value) : Prop where
  e : v = .agg #[.int .i64 n, .slice (some ⟨b, 0, none⟩) (wcount n) cap]
  blk : Blk w b 55 (wordsV (wcount n) x ++ rest)
  lt : x < 2 ^ (64 * wcount n)
  le : n ≤ 128
theorem VOc.below {w w' : World} {v n x b cap rest} (h : VOc w v n x b cap rest) (hb : Below w.heap.size w w') : VOc w' v n x b cap rest := ⟨h.e, h.blk.below hb h.blk.lt, h.lt, h.le⟩
theorem VOc.other {w : World} {v n x b cap rest} (h : VOc w v n x b cap rest) {a : Addr} (ha : b ≠ a.block) (u : Value) : VOc (w.setCell a u) v n x b cap rest := ⟨h.e, h.blk.other u ha, h.lt, h.le⟩
theorem VOc.at {m x i : Nat} {rest : List Value} (h : i < m) : (wordsV m x ++ rest)[i]? = some (.int .u64 (word x i)) := by
  rw [List.getElem?_append_left (by rw [wordsV_length]; exact h)]; exact wordsV_at h
theorem VOc.vr {w v n x b cap rest} (h : VOc w v n x b cap rest) (hx : x < 2 ^ n) : VR w v n x := by
  refine ⟨⟨_, _, h.e, by rw [wordsV_length, Nat.mul_one], _, _, rfl, fun j u hj => ⟨b, 0, rfl, ?_⟩⟩, hx, h.le⟩
  rw [Nat.zero_add]
  refine h.blk.cell ?_
  rw [List.getElem?_append_left (by rcases Nat.lt_or_ge j (wordsV (wcount n) x).length with h | h; exact h; rw [List.getElem?_eq_none h] at hj; cases hj)]; exact hj
theorem VOc.set {w : World} {v n x b cap rest} (h : VOc w v n x b cap rest) {i y : Nat} (hi : i < wcount n) (hy : y < 2 ^ 64) : VOc (w.setCell ⟨b, i, none⟩ (.int .u64 y)) v n (setW x i y) b cap rest :=
  ⟨h.e, by have := h.blk.set i (.int .u64 y); rwa [List.set_append_left _ _ (by rw [wordsV_length]; exact hi), wordsV_set hy] at this, setW_lt h.lt hi hy, h.le⟩
theorem VOc.congr {w : World} {v n x y b cap rest} (h : VOc w v n x b cap rest) (hy : y < 2 ^ (64 * wcount n)) (he : ∀ i, i < wcount n → word x i = word y i) : VOc w v n y b cap rest := by
  obtain rfl := words_ext h.lt hy he; exact h
theorem VOc.setBit {w : World} {v : Value} {n x b cap rest} (h : VOc w v n x b cap rest) (i : Nat) (is : Bool) (hi : i < n) : VOc (w.setCell ⟨b, i / 64, none⟩ (.int .u64 ((setB (word x (i / 64)) (i % 64) is : Nat) : Int))) v n (setB x i is) b cap rest := by
  have hk : i / 64 < wcount n := by unfold wcount; omega
  have hy : setB (word x (i / 64)) (i % 64) is < 2 ^ 64 := setB_lt is (word_lt _ _) (Nat.mod_lt _ (by decide))
  refine (h.set hk hy).congr (setB_lt is h.lt (by have := n_le_words n; omega)) fun j _ => ?_
  rw [setW_word _ _ _ _ hy, setB_word]
  by_cases e : j = i / 64
  · subst e; rfl
  · rw [if_neg e, if_neg e]
set_option maxRecDepth 100000 in
set_option maxHeartbeats 1000000 in
theorem setc_any {w : World} {v : Value} {n x b cap rest} (h : VOc w v n x b cap rest) (i : Nat) (is : Bool) (hi : i < n) :
    Calls Tryz.prog 76 #[v, .int .i64 i, .bool is] w fun e w' => e = .returned (.tuple #[]) ∧ VOc w' v n (setB x i is) b cap rest ∧ w.grownBy w' (some b) := by
  have HV := Lib.hid (fun o => h.below (Below.new w o))
  obtain ⟨rfl, hb, hx, hn⟩ := h
  have hk : i / 64 < wcount n := by unfold wcount; omega
  have hlt := hb.lt
  have hc := (hb.alloc (.cells #[.int .i64 n, .slice (some ⟨b, 0, none⟩) (wcount n) cap] 39)).cell (VOc.at hk)
  have hf := (hb.alloc (.cells #[.int .i64 n, .slice (some ⟨b, 0, none⟩) (wcount n) cap] 39)).frz (i / 64)
  have hp0 := (Blk.new (w := w) 39 [.int .i64 n, .slice (some ⟨b, 0, none⟩) (wcount n) cap]).cell (i := 0) rfl
  have hp1 := (Blk.new (w := w) 39 [.int .i64 n, .slice (some ⟨b, 0, none⟩) (wcount n) cap]).cell (i := 1) rfl
  have hi' : (i : Int) ≤ 128 := by omega
  have q1 : (0 : Int) ≤ (i : Int) / 64 := by omega
  have q2 : (i : Int) / 64 < (wcount n : Int) := by omega
  have q3 : ((i : Int) / 64).toNat = i / 64 := by omega
  have q4 : (0 : Int) ≤ (i : Int) % 64 := by omega
  have q5 : ((i : Int) % 64).toNat = i % 64 := by omega
  have q6 : (i : Int).tmod 64 = (i : Int) % 64 := Int.tmod_eq_emod_of_nonneg (by omega)
  have q0 : IntKind.i64.wrap ((i : Int) / 64) = (i : Int) / 64 := IntWalk.i64_in _ (by omega)
  go_enter Tryz.func76, Tryz.ntmps76
  have hu0 := Lib.hid (u64_clr (word x (i / 64)) (i % 64) (word_lt _ _) (Nat.mod_lt _ (by decide)))
  have hu1 := Lib.hid (u64_put (word x (i / 64)) (i % 64) (word_lt _ _) (Nat.mod_lt _ (by decide)))
  have HG := Lib.hid (fun o y => grown_set w o b (i / 64) y hlt)
  have HI := Lib.hid hi
  clear hb hx hi hn hk
  cases is
  all_goals
    go_wp2_with fail
    have HV2 := Lib.hid ((HV.out (.cells #[.int .i64 n, .slice (some ⟨b, 0, none⟩) (wcount n) cap] 39)).setBit i)
    have HG2 := Lib.hid (HG.out (.cells #[.int .i64 n, .slice (some ⟨b, 0, none⟩) (wcount n) cap] 39))
    generalize w.alloc (.cells #[.int .i64 n, .slice (some ⟨b, 0, none⟩) (wcount n) cap] 39) = W at *
    refine wp_region_still_tail 11 (by kernel_rfl) (by kernel_rfl) ?_
    simp only [List.take_succ_cons, List.take_zero, List.drop_succ_cons, List.drop_zero]
    change wpStill _ _ W.drew (fun a' => wpList _ _ _ _ a' W.drew) _ _
    repeat still_step
    refine wpStill_nil ?_
    go_wp2_with fail
    first | rw [hu0.out] | rw [hu1.out]
    go_end0
    exact ⟨rfl, (HV2.out _ HI.out).below ((Below.refl _ _).drew), HG2.out _⟩
end Go.Proofs.YtkoggfahjlnecaaGreatDoor
namespace Go.Proofs.YtkoggfahjlnecaaGreatDoor
set_option linter.unusedVariables false
open Go.RowKit
structure Bldc (w : World) (bs : List (Nat × List Value)) (n x b cap : Nat) (rest : List Value) (wr : World) : Prop where
  bx : ∀ p ∈ bs, Blk wr p.1 39 p.2 ∧ p.1 ≠ b
  vo : VOc wr (.agg #[.int .i64 n, .slice (some ⟨b, 0, none⟩) (wcount n) cap]) n x b cap rest
  bel : Below w.heap.size w wr
  ge : w.heap.size ≤ b
theorem Bldc.box {w bs n x b cap rest wr} (h : Bldc w bs n x b cap rest wr) {p : Nat × List Value} (hp : p ∈ bs) : Blk wr p.1 39 p.2 := (h.bx p hp).1
theorem Bldc.grown {w bs n x y b cap rest wr w'} (h : Bldc w bs n x b cap rest wr) (hg : wr.grownBy w' (some b)) (hv : VOc w' (.agg #[.int .i64 n, .slice (some ⟨b, 0, none⟩) (wcount n) cap]) n y b cap rest) : Bldc w bs n y b cap rest w' := by
  refine ⟨fun p hp => ?_, hv, below_grown h.bel hg h.bel.size h.ge, h.ge⟩
  obtain ⟨h1, h2⟩ := h.bx p hp
  refine ⟨?_, h2⟩
  unfold Blk at *
  rw [hg.block p.1 (some_lt h1) (by simpa using h2)]; exact h1
theorem Bldc.below {w bs n x b cap rest wr w'} (h : Bldc w bs n x b cap rest wr) (hb : Below wr.heap.size wr w') : Bldc w bs n x b cap rest w' :=
  ⟨fun p hp => ⟨(h.bx p hp).1.below hb (h.bx p hp).1.lt, (h.bx p hp).2⟩, h.vo.below hb, h.bel.trans (hb.mono h.bel.size), h.ge⟩
theorem Bldc.drew {w bs n x b cap rest wr} (h : Bldc w bs n x b cap rest wr) : Bldc w bs n x b cap rest wr.drew := h.below (Below.refl _ _).drew
theorem Bldc.start1 {w W w1 : World} {bs : List (Nat × List Value)} {n x b cap : Nat} {rest : List Value} (hbs : ∀ p ∈ bs, Blk W p.1 39 p.2) (hb : Below w.heap.size w W) (hb1 : Below W.heap.size W w1) (hk : Blk w1 b 55 (wordsV (wcount n) x ++ rest)) (hge : W.heap.size ≤ b) (hx : x < 2 ^ (64 * wcount n)) (hn : n ≤ 128) :
    Bldc w ((w1.heap.size, [.int .i64 n, .slice (some ⟨b, 0, none⟩) (wcount n) cap]) :: bs) n x b cap rest (w1.alloc (.cells #[.int .i64 n, .slice (some ⟨b, 0, none⟩) (wcount n) cap] 39)) := by
  have h1 : Below w.heap.size w w1 := hb.trans (hb1.mono hb.size)
  refine ⟨fun p hp => ?_, ⟨rfl, hk.alloc _, hx, hn⟩, h1.alloc h1.size _, Nat.le_trans hb.size hge⟩
  rcases List.mem_cons.1 hp with rfl | hp
  · exact ⟨Blk.new 39 [.int .i64 n, .slice (some ⟨b, 0, none⟩) (wcount n) cap], by have := hk.lt; show w1.heap.size ≠ b; omega⟩
  · exact ⟨((hbs p hp).below hb1 (hbs p hp).lt).alloc _, by have := (hbs p hp).lt; omega⟩
theorem Bldc.start2 {w W w1 : World} {bs : List (Nat × List Value)} {n x b cap : Nat} {rest : List Value} (hbs : ∀ p ∈ bs, Blk W p.1 39 p.2) (hb : Below w.heap.size w W) (hb1 : Below (W.alloc (.cells #[.int .i64 0, .slice none 0 0] 39)).heap.size (W.alloc (.cells #[.int .i64 0, .slice none 0 0] 39)) w1) (hk : Blk w1 b 55 (wordsV (wcount n) x ++ rest)) (hge : (W.alloc (.cells #[.int .i64 0, .slice none 0 0] 39)).heap.size ≤ b) (hx : x < 2 ^ (64 * wcount n)) (hn : n ≤ 128) :
    Bldc w ((W.heap.size, [.int .i64 n, .slice (some ⟨b, 0, none⟩) (wcount n) cap]) :: bs) n x b cap rest ((w1.setCell ⟨W.heap.size, 0, none⟩ (.int .i64 n)).setCell ⟨W.heap.size, 1, none⟩ (.slice (some ⟨b, 0, none⟩) (wcount n) cap)) := by
  have hg : W.heap.size < b := by rw [World.size_alloc] at hge; omega
  have h1 : Below w.heap.size w w1 := (hb.alloc hb.size _).trans (hb1.mono (by have := hb.size; rw [World.size_alloc]; omega))
  have hL : Blk w1 W.heap.size 39 [.int .i64 0, .slice none 0 0] := (Blk.new (w := W) 39 [.int .i64 0, .slice none 0 0]).below hb1 (by rw [World.size_alloc]; omega)
  refine ⟨fun p hp => ?_, ⟨rfl, (hk.other (a := ⟨W.heap.size, 0, none⟩) _ (Nat.ne_of_gt hg)).other (a := ⟨W.heap.size, 1, none⟩) _ (Nat.ne_of_gt hg), hx, hn⟩, (h1.setCell hb.size _).setCell hb.size _, by have := hb.size; omega⟩
  rcases List.mem_cons.1 hp with rfl | hp
  · exact ⟨(hL.set 0 (.int .i64 n)).set 1 (.slice (some ⟨b, 0, none⟩) (wcount n) cap), Nat.ne_of_lt hg⟩
  · have hlt := (hbs p hp).lt
    refine ⟨((((hbs p hp).alloc (.cells #[.int .i64 0, .slice none 0 0] 39)).below hb1 (by rw [World.size_alloc]; omega)).other (a := ⟨W.heap.size, 0, none⟩) _ (Nat.ne_of_lt hlt)).other (a := ⟨W.heap.size, 1, none⟩) _ (Nat.ne_of_lt hlt), by omega⟩
theorem Bldc.ret {w bs n x b cap rest w3} (h : Bldc w bs n x b cap rest w3) {R : Nat} {u v : Value} (hR : (R, [u, v]) ∈ bs) (hge : w.heap.size ≤ R) :
    ((w3.setCell ⟨R, 0, none⟩ (.int .i64 n)).setCell ⟨R, 1, none⟩ (.slice (some ⟨b, 0, none⟩) (wcount n) cap)).cell? ⟨R, 0, none⟩ = some (.int .i64 n) ∧
    ((w3.setCell ⟨R, 0, none⟩ (.int .i64 n)).setCell ⟨R, 1, none⟩ (.slice (some ⟨b, 0, none⟩) (wcount n) cap)).cell? ⟨R, 1, none⟩ = some (.slice (some ⟨b, 0, none⟩) (wcount n) cap) ∧
    VOc ((w3.setCell ⟨R, 0, none⟩ (.int .i64 n)).setCell ⟨R, 1, none⟩ (.slice (some ⟨b, 0, none⟩) (wcount n) cap)) (.agg #[.int .i64 n, .slice (some ⟨b, 0, none⟩) (wcount n) cap]) n x b cap rest ∧
    Below w.heap.size w ((w3.setCell ⟨R, 0, none⟩ (.int .i64 n)).setCell ⟨R, 1, none⟩ (.slice (some ⟨b, 0, none⟩) (wcount n) cap)) := by
  obtain ⟨h1, h2⟩ := h.bx _ hR
  have hk := (h1.set 0 (.int .i64 n)).set 1 (.slice (some ⟨b, 0, none⟩) (wcount n) cap)
  exact ⟨hk.cell (i := 0) rfl, hk.cell (i := 1) rfl, (h.vo.other (Ne.symm h2) _).other (Ne.symm h2) _, (h.bel.setCell hge _).setCell hge _⟩
theorem Bldc.four {w bs n x b cap rest wr} (h : Bldc w bs n x b cap rest wr) {L a : Nat} {u v y z : Value} (hL : (L, [u, v]) ∈ bs) (ha : (a, [y, z]) ∈ bs) : wr.cell? ⟨L, 0, none⟩ = some u ∧ wr.cell? ⟨L, 1, none⟩ = some v ∧ wr.cell? ⟨a, 0, none⟩ = some y ∧ wr.cell? ⟨a, 1, none⟩ = some z :=
  ⟨(h.box hL).cell (i := 0) rfl, (h.box hL).cell (i := 1) rfl, (h.box ha).cell (i := 0) rfl, (h.box ha).cell (i := 1) rfl⟩
theorem own_blk {w' w'' : World} {e : Ending} {v' : Value} {m : Nat} {l : List Value} (hm : 0 < m) (he : e = .returned v') (ho : w''.ownsRow w'.heap.size 55 1 v' m l) (hb2 : Below w'.heap.size w' w'') :
    ∃ b cap rest, e = .returned (.slice (some ⟨b, 0, none⟩) m cap) ∧ Blk w'' b 55 (l ++ rest) ∧ w'.heap.size ≤ b ∧ Below w'.heap.size w' w'' := by
  obtain ⟨hl, ⟨_, h0⟩ | ⟨g, cap, cur, rfl, h1, h2, h3, h4, h5, h6⟩⟩ := ho
  · omega
  · refine ⟨g, cap, cur.toList.drop m, he, ?_, h1, hb2⟩
    unfold Blk
    rw [h2, ← h6, Nat.mul_one, List.take_append_drop, Array.toArray_toList]
/-- what Put gives -/
def putF (A B lo m j : Nat) : Bool := if j < lo then A.testBit j else if j < lo + m then B.testBit (j - lo) else A.testBit j
end Go.Proofs.YtkoggfahjlnecaaGreatDoor
namespace Go.Proofs.YtkoggfahjlnecaaGreatDoor
set_option linter.unusedVariables false
theorem xor_low {X k : Nat} (h : X < 2 ^ k) : X ^^^ 2 ^ k = X + 2 ^ k := by
  apply eq_bits; intro j
  rw [Nat.testBit_xor, Nat.testBit_two_pow, Nat.add_comm]
  rcases Nat.lt_trichotomy j k with hj | hj | hj
  · rw [Nat.testBit_two_pow_add_gt hj]
    have : ¬ k = j := by omega
    simp [this]
  · subst hj
    rw [Nat.testBit_two_pow_add_eq, bit_big h (Nat.le_refl _)]; simp
  · have h1 : 2 ^ k + X < 2 ^ j := Nat.lt_of_lt_of_le (by rw [Nat.pow_succ]; omega : 2 ^ k + X < 2 ^ (k + 1)) (Nat.pow_le_pow_right (by decide) hj)
    have : ¬ k = j := by omega
    rw [Nat.testBit_lt_two_pow h1, bit_big h (by omega)]; simp [this]
theorem xor_top {X k : Nat} (h : X < 2 ^ (k + 1)) : X ^^^ 2 ^ k = if 2 ^ k ≤ X then X - 2 ^ k else X + 2 ^ k := by
  by_cases hx : 2 ^ k ≤ X
  · rw [if_pos hx]
    rw [Nat.pow_succ] at h
    have hz : X - 2 ^ k < 2 ^ k := by omega
    have := xor_low hz
    rw [show X - 2 ^ k + 2 ^ k = X by omega] at this
    rw [← this, Nat.xor_assoc, Nat.xor_self, Nat.xor_zero, this]
  · rw [if_neg hx]; exact xor_low (by omega)
theorem slt_xor {n X Y : Nat} (hn : 0 < n) (hX : X < 2 ^ n) (hY : Y < 2 ^ n) : sltB n X Y = decide (X ^^^ 2 ^ (n - 1) < Y ^^^ 2 ^ (n - 1)) := by
  obtain ⟨k, rfl⟩ : ∃ k, n = k + 1 := ⟨n - 1, by omega⟩
  rw [Nat.add_sub_cancel, xor_top hX, xor_top hY]
  unfold sltB
  rw [top_eq (by omega) hX, top_eq (by omega) hY]
  rw [Nat.pow_succ] at *
  generalize 2 ^ k = h at *
  rw [Bool.eq_iff_iff]
  by_cases h1 : h ≤ X <;> by_cases h2 : h ≤ Y <;> simp [show (h * 2 ≤ 2 * X) ↔ h ≤ X by omega, show (h * 2 ≤ 2 * Y) ↔ h ≤ Y by omega, h1, h2] <;> omega
/-- the vector with the highest bit alone -/
theorem put_high {n : Nat} (hn : 0 < n) : ofB (putF 0 1 (n - 1) 1) n = 2 ^ (n - 1) := by
  apply eq_bits; intro j
  rw [testBit_ofB, Nat.testBit_two_pow]
  unfold putF
  by_cases h : j < n - 1
  · rw [if_pos h]; have : ¬ n - 1 = j := by omega
    simp [this]
  · rw [if_neg h]
    by_cases h2 : j < n - 1 + 1
    · obtain rfl : j = n - 1 := by omega
      rw [if_pos h2]; simp; omega
    · rw [if_neg h2]; have : ¬ n - 1 = j := by omega
      simp [this]
end Go.Proofs.YtkoggfahjlnecaaGreatDoor
namespace Go.Proofs.YtkoggfahjlnecaaGreatDoor
set_option linter.unusedVariables false
theorem moves_back {n X K : Nat} (hK : K < n) : shiftN 11 n (shiftN 10 n X K) K = ofB (extF (ofB (sliceF X 0) (n - K)) (n - K) false) n := by
  have hm : min K n = K := by omega
  unfold shiftN
  rw [hm]
  simp only [if_true, show ¬ (11 : Nat) = 10 by decide, if_false]
  refine ofB_congr fun j hj => ?_
  unfold downF extF
  rw [testBit_ofB, testBit_ofB]
  unfold upF sliceF
  by_cases h : j < n - K
  · rw [if_pos h, decide_eq_true (show j + K < n by omega), decide_eq_true (show K ≤ j + K by omega), decide_eq_true h, Nat.add_sub_cancel, Nat.zero_add]; simp
  · rw [if_neg h, decide_eq_false h]; simp
theorem moves_all {n X : Nat} : shiftN 11 n (shiftN 10 n X n) n = 0 := by
  unfold shiftN
  rw [Nat.min_self]
  simp only [show ¬ (11 : Nat) = 10 by decide, if_false, if_true]
  refine ofB_none _ _ fun j hj => ?_
  unfold downF
  rw [if_neg (by omega)]
theorem top_not {n X : Nat} (hn : 0 < n) (hX : X < 2 ^ n) : topB n (notN n X) = !topB n X := by
  unfold topB bitI
  rw [decide_eq_true (by omega), show ((n : Int) - 1).toNat = n - 1 by omega, notN_bit hX, decide_eq_true (by omega)]; simp
theorem moves_sar {n X K : Nat} (hn : 0 < n) (hX : X < 2 ^ n) : notN n (shiftN 12 n (notN n X) K) = shiftN 12 n X K := by
  apply eq_bits; intro j
  have hl : shiftN 12 n (notN n X) K < 2 ^ n := shiftN_lt _ _ _ _
  rw [notN_bit hl]
  unfold shiftN
  simp only [show ¬ (12 : Nat) = 10 by decide, show ¬ (12 : Nat) = 11 by decide, if_false]
  rw [testBit_ofB, testBit_ofB, top_not hn hX]
  by_cases hj : j < n
  · rw [decide_eq_true hj]
    unfold downF
    by_cases h : j < n - min K n
    · rw [if_pos h, if_pos h, notN_bit hX, decide_eq_true (by omega)]; simp
    · rw [if_neg h, if_neg h]; simp
  · rw [decide_eq_false hj]; simp
end Go.Proofs.YtkoggfahjlnecaaGreatDoor
