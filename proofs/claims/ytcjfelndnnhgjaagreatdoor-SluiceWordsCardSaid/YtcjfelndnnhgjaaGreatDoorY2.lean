/- Texts of this claim, one behind another: VB1, VB2. They state lemmas; each names its own conditions. -/
import Derived.Test.YtcjfelndnnhgjaaGreatDoorRows
import Derived.Test.YtcjfelndnnhgjaaGreatDoorY1
import Derived.StillTailTactics
import Derived.Deep.RegionHeld3
import Derived.IntWalk
import Derived.Laws.Externs
import Derived.Shelf.Bits.Mul64
namespace Go.Proofs.YtcjfelndnnhgjaaGreatDoor.L
set_option linter.unusedVariables false
open Go.RowKit
/-- a world that is w with new blocks -/
structure After (w : World) where
  val : World
  below : Below w.heap.size w val
instance (w : World) : Nonempty (After w) := ⟨⟨w, Below.refl _ _⟩⟩
theorem After.cell {w : World} {a : Addr} {v : Value} (h : w.cell? a = some v) (s : After w) : s.val.cell? a = some v := (s.below.cell (World.block_lt_of_cell? _ _ h)).trans h
theorem wp_region_after {P : Program} {id : Nat} {Q : Exit → Act → World → Prop} {a : Act} {w : World} {l : List Oper} (hm : P.follows .mixedOrders = true) (hB : Region.lexB .any l.toArray = true)
    (h : wpQuiet P l.toArray (fun w' => ∃ s : After w, w' = s.val) (fun a' => ∀ w', (∃ s : After w, w' = s.val) → Q .normal a' w') l a) : (Code.region id l.toArray true).wp P Q a w :=
  wp_region_quiet (C := fun w' => ∃ s : After w, w' = s.val) hm hB ⟨⟨w.drew, (Below.refl _ _).drew⟩, rfl⟩ (by simpa using h)
theorem Calls.after_of {P : Program} {f : FuncId} {args : Array Value} {w : World} {s : After w} {v : Value}
    (h : Calls P f args s.val fun e w' => e = .returned v ∧ Below s.val.heap.size s.val w') : Calls P f args s.val fun e w'' => e = .returned v ∧ ∃ t : After w, w'' = t.val :=
  h.mono fun _ w' ⟨he, hb⟩ => ⟨he, ⟨w', s.below.trans (hb.mono s.below.size)⟩, rfl⟩
theorem Blk.drew {w : World} {b t l} (h : Blk w b t l) : Blk w.drew b t l := h
theorem Below.comp {B : Nat} {a b c : World} (h : Below B a b) (k : Below b.heap.size b c) (hB : B ≤ b.heap.size) : Below B a c := h.trans (k.mono hB)
theorem Below.next {a b c : World} (h : Below a.heap.size a b) (k : Below b.heap.size b c) : Below a.heap.size a c := h.trans (k.mono h.size)
theorem Below.new (w : World) (o : Obj) : Below w.heap.size w (w.alloc o) := (Below.refl _ _).alloc (Nat.le_refl _) o
theorem Below.more {B : Nat} {a b : World} (h : Below B a b) (hB : B ≤ b.heap.size) (o : Obj) : Below B a (b.alloc o) := h.alloc hB o
theorem kept_new {w w1 : World} {t : TypeId} {l : List Value} (hb : Below (w.alloc (.cells l.toArray t)).heap.size (w.alloc (.cells l.toArray t)) w1) : Blk w1 w.heap.size t l ∧ Below w.heap.size w w1 ∧ w.heap.size < w1.heap.size := by
  refine ⟨(Blk.new t l).below hb (by rw [World.size_alloc]; omega), (Below.new w _).trans (hb.mono (by rw [World.size_alloc]; omega)), ?_⟩
  have := hb.size
  rw [World.size_alloc] at this; omega
/-- how many words -/
def wcount (n : Nat) : Nat := (n + 63) / 64
def wordsV (m x : Nat) : List Value := (List.range m).map fun i => .int .u64 (word x i)
theorem wordsV_length (m x : Nat) : (wordsV m x).length = m := by simp [wordsV]
theorem wordsV_at {m x i : Nat} (h : i < m) : (wordsV m x)[i]? = some (.int .u64 (word x i)) := by simp [wordsV, h]
theorem wordsV_ext {m x y : Nat} (h : ∀ i, i < m → word x i = word y i) : wordsV m x = wordsV m y := by
  unfold wordsV
  apply List.map_congr_left
  intro i hi
  rw [h i (List.mem_range.1 hi)]
theorem wordsV_set {m x i y : Nat} (hy : y < 2 ^ 64) : (wordsV m x).set i (.int .u64 y) = wordsV m (setW x i y) := by
  apply List.ext_getElem?
  intro j
  rw [List.getElem?_set]
  by_cases hj : j < m
  · rw [wordsV_at hj, wordsV_at hj, setW_word x i y j hy, wordsV_length]
    by_cases e : i = j
    · subst e; simp [hj]
    · have : ¬ j = i := fun h => e h.symm
      simp [e, this]
  · have h1 : (wordsV m x)[j]? = none := List.getElem?_eq_none (by rw [wordsV_length]; omega)
    have h2 : (wordsV m (setW x i y))[j]? = none := List.getElem?_eq_none (by rw [wordsV_length]; omega)
    rw [h1, h2, wordsV_length]
    split
    · rw [if_neg (by omega)]
    · rfl
/-- v is the vector of width n that is the number x -/
structure VR (w : World) (v : Value) (n x : Nat) : Prop where
  ex : ∃ p c, v = .agg #[.int .i64 n, .slice p (wcount n) c] ∧ RO w (.slice p (wcount n) c) 1 (wcount n) (wordsV (wcount n) x)
  lt : x < 2 ^ n
  le : n ≤ 128
theorem VR.below {w w' : World} {v n x} (h : VR w v n x) (hb : Below w.heap.size w w') : VR w' v n x := by
  obtain ⟨⟨p, c, e, r⟩, h2, h3⟩ := h
  exact ⟨⟨p, c, e, r.below hb⟩, h2, h3⟩
/-- v is a vector of width n whose words lie in a block of its own, and are those of the number x -/
structure VO (w : World) (v : Value) (n x b : Nat) : Prop where
  e : v = .agg #[.int .i64 n, .slice (some ⟨b, 0, none⟩) (wcount n) (wcount n)]
  blk : Blk w b 158 (wordsV (wcount n) x)
  lt : x < 2 ^ (64 * wcount n)
  le : n ≤ 128
theorem n_le_words (n : Nat) : n ≤ 64 * wcount n := by unfold wcount; omega
theorem VO.vr {w v n x b} (h : VO w v n x b) (hx : x < 2 ^ n) : VR w v n x := by
  refine ⟨⟨_, _, h.e, by rw [wordsV_length, Nat.mul_one], _, _, rfl, fun j u hj => ⟨b, 0, rfl, ?_⟩⟩, hx, h.le⟩
  rw [Nat.zero_add]; exact h.blk.cell hj
theorem VO.below {w w' : World} {v n x b} (h : VO w v n x b) (hb : Below w.heap.size w w') : VO w' v n x b := ⟨h.e, h.blk.below hb h.blk.lt, h.lt, h.le⟩
theorem VO.set {w : World} {v n x b} (h : VO w v n x b) {i y : Nat} (hi : i < wcount n) (hy : y < 2 ^ 64) : VO (w.setCell ⟨b, i, none⟩ (.int .u64 y)) v n (setW x i y) b :=
  ⟨h.e, by have := h.blk.set i (.int .u64 y); rwa [wordsV_set hy] at this, setW_lt h.lt hi hy, h.le⟩
theorem VO.congr {w : World} {v n x y b} (h : VO w v n x b) (hy : y < 2 ^ (64 * wcount n)) (he : ∀ i, i < wcount n → word x i = word y i) : VO w v n y b := by
  obtain rfl := words_ext h.lt hy he; exact h
/-- a word is read -/
theorem VR.word {w v n x} (h : VR w v n x) {i : Nat} (hi : i < wcount n) : ∃ b o c, v = .agg #[.int .i64 n, .slice (some ⟨b, o, none⟩) (wcount n) c] ∧ w.cell? ⟨b, o + i, none⟩ = some (.int .u64 (Go.Proofs.YtcjfelndnnhgjaaGreatDoor.L.word x i)) := by
  obtain ⟨⟨p, c, rfl, hr⟩, _, _⟩ := h
  obtain ⟨b, o, rfl⟩ := hr.sl (wordsV_at hi)
  exact ⟨b, o, c, rfl, hr.cell (wordsV_at hi)⟩
theorem good_any (n : Int) (w : World) : Calls Tryz.prog 103 #[.int .i64 n] w fun e w' => e = .returned (.bool (decide (1 ≤ n) && decide (n ≤ 128))) ∧ w = w' := by
  by_cases h1 : 1 ≤ n
  · by_cases h2 : n ≤ 128
    · have e : (decide (1 ≤ n) && decide (n ≤ 128)) = true := by simp [h1, h2]
      rw [e]
      clear e
      go_enter Tryz.func103, Tryz.ntmps103
      go_wp2_with fail
      go_ret
      exact ⟨by simp, rfl⟩
    · have h2' : 128 < n := by omega
      have e : (decide (1 ≤ n) && decide (n ≤ 128)) = false := by simp [h2]
      rw [e]
      clear e h2
      go_enter Tryz.func103, Tryz.ntmps103
      go_wp2_with fail
      go_ret
      exact ⟨by simp; omega, rfl⟩
  · have h2' : n < 1 := by omega
    have e : decide (1 ≤ n) = false := decide_eq_false h1
    rw [e, Bool.false_and]
    clear h1 e
    go_enter Tryz.func103, Tryz.ntmps103
    go_wp2_with fail
    go_ret
    exact ⟨rfl, rfl⟩
theorem count_any (n : Nat) (w : World) (hn : n ≤ 1000000) : Calls Tryz.prog 119 #[.int .i64 n] w fun e w' => e = .returned (.int .i64 (wcount n)) ∧ w = w' := by
  have h : (n : Int) ≤ 1000000 := by omega
  have hw : Hid ((wcount n : Int) = ((n : Int) + 64 - 1) / 64) := Lib.hid (by unfold wcount; omega)
  clear hn
  go_enter Tryz.func119, Tryz.ntmps119
  go_wp2_with fail
  go_ret
  exact ⟨by rw [hw.out]; rfl, rfl⟩
end Go.Proofs.YtcjfelndnnhgjaaGreatDoor.L
namespace Go.Proofs.YtcjfelndnnhgjaaGreatDoor.L
set_option linter.unusedVariables false
open Go.RowKit
theorem pow_lt (k : Nat) (hk : k < 64) : (2 ^ k : Nat) < 18446744073709551616 := Nat.pow_lt_pow_right (n := 64) (by decide) hk
theorem u64_pow (k : Nat) (hk : k < 64) : IntKind.u64.wrap (2 ^ k) = ((2 ^ k : Nat) : Int) := by
  rw [IntKind.wrap_u64]
  have h := pow_lt k hk
  rw [show ((2 : Int) ^ k) = ((2 ^ k : Nat) : Int) by simp]
  generalize 2 ^ k = y at *
  omega
theorem u64_clr (W k : Nat) (hW : W < 2 ^ 64) (hk : k < 64) : bits .andNot .u64 (W : Int) (IntKind.u64.wrap (2 ^ k)) = ((setB W k false : Nat) : Int) := by
  rw [u64_pow k hk, ← setB_andNot W k hW hk]; exact u64_andNot_nat W _ hW (pow_lt k hk)
theorem u64_put (W k : Nat) (hW : W < 2 ^ 64) (hk : k < 64) : bits .or .u64 (W : Int) (IntKind.u64.wrap (2 ^ k)) = ((setB W k true : Nat) : Int) := by
  rw [u64_pow k hk, ← setB_or]; exact u64_or_nat W _ hW (pow_lt k hk)
theorem VO.setBit {w : World} {v : Value} {n x b : Nat} (h : VO w v n x b) (i : Nat) (is : Bool) (hi : i < n) : VO (w.setCell ⟨b, i / 64, none⟩ (.int .u64 ((setB (word x (i / 64)) (i % 64) is : Nat) : Int))) v n (setB x i is) b := by
  have hk : i / 64 < wcount n := by unfold wcount; omega
  have hy : setB (word x (i / 64)) (i % 64) is < 2 ^ 64 := setB_lt is (word_lt _ _) (Nat.mod_lt _ (by decide))
  refine (h.set hk hy).congr (setB_lt is h.lt (by have := n_le_words n; omega)) fun j _ => ?_
  rw [setW_word _ _ _ _ hy, setB_word]
  by_cases e : j = i / 64
  · subst e; rfl
  · rw [if_neg e, if_neg e]
theorem grown_set (w : World) (o : Obj) (b i : Nat) (u : Value) (hb : b < w.heap.size) : w.grownBy ((w.alloc o).setCell ⟨b, i, none⟩ u).drew (some b) := by
  refine ⟨rfl, rfl, rfl, ?_, fun k hk hne => ?_⟩
  · show w.heap.size ≤ ((w.alloc o).setCell _ _).heap.size
    simp
  · show ((w.alloc o).setCell _ _).heap[k]? = _
    rw [Below.heap_setCell _ _ _ _ (fun e => hne (by rw [e]))]
    exact heap_alloc_old _ _ hk
set_option maxRecDepth 100000 in
set_option maxHeartbeats 1000000 in
theorem set_any {w : World} {v : Value} {n x b : Nat} (h : VO w v n x b) (i : Nat) (is : Bool) (hi : i < n) :
    Calls Tryz.prog 128 #[v, .int .i64 i, .bool is] w fun e w' => e = .returned (.tuple #[]) ∧ VO w' v n (setB x i is) b ∧ w.grownBy w' (some b) := by
  have HV := Lib.hid (fun o => h.below (Below.new w o))
  obtain ⟨rfl, hb, hx, hn⟩ := h
  have hk : i / 64 < wcount n := by unfold wcount; omega
  have hlt := hb.lt
  have hc := (hb.alloc (.cells #[.int .i64 n, .slice (some ⟨b, 0, none⟩) (wcount n) (wcount n)] 115)).cell (wordsV_at hk)
  have hf := (hb.alloc (.cells #[.int .i64 n, .slice (some ⟨b, 0, none⟩) (wcount n) (wcount n)] 115)).frz (i / 64)
  have hp0 := (Blk.new (w := w) 115 [.int .i64 n, .slice (some ⟨b, 0, none⟩) (wcount n) (wcount n)]).cell (i := 0) rfl
  have hp1 := (Blk.new (w := w) 115 [.int .i64 n, .slice (some ⟨b, 0, none⟩) (wcount n) (wcount n)]).cell (i := 1) rfl


  have hi' : (i : Int) ≤ 128 := by omega
  have q1 : (0 : Int) ≤ (i : Int) / 64 := by omega
  have q2 : (i : Int) / 64 < (wcount n : Int) := by omega
  have q3 : ((i : Int) / 64).toNat = i / 64 := by omega
  have q4 : (0 : Int) ≤ (i : Int) % 64 := by omega
  have q5 : ((i : Int) % 64).toNat = i % 64 := by omega
  have q6 : (i : Int).tmod 64 = (i : Int) % 64 := Int.tmod_eq_emod_of_nonneg (by omega)
  have q0 : IntKind.i64.wrap ((i : Int) / 64) = (i : Int) / 64 := IntWalk.i64_in _ (by omega)


  go_enter Tryz.func128, Tryz.ntmps128
  have hu0 := Lib.hid (u64_clr (word x (i / 64)) (i % 64) (word_lt _ _) (Nat.mod_lt _ (by decide)))
  have hu1 := Lib.hid (u64_put (word x (i / 64)) (i % 64) (word_lt _ _) (Nat.mod_lt _ (by decide)))
  have HG := Lib.hid (fun o y => grown_set w o b (i / 64) y hlt)
  have HI := Lib.hid hi
  clear hb hx hi hn hk
  cases is
  all_goals
    go_wp2_with fail
    have HV2 := Lib.hid ((HV.out (.cells #[.int .i64 n, .slice (some ⟨b, 0, none⟩) (wcount n) (wcount n)] 115)).setBit i)
    have HG2 := Lib.hid (HG.out (.cells #[.int .i64 n, .slice (some ⟨b, 0, none⟩) (wcount n) (wcount n)] 115))
    generalize w.alloc (.cells #[.int .i64 n, .slice (some ⟨b, 0, none⟩) (wcount n) (wcount n)] 115) = W at *
    refine wp_region_still_tail 11 (by kernel_rfl) (by kernel_rfl) ?_
    simp only [List.take_succ_cons, List.take_zero, List.drop_succ_cons, List.drop_zero]
    change wpStill _ _ W.drew (fun a' => wpList _ _ _ _ a' W.drew) _ _
    repeat still_step
    refine wpStill_nil ?_
    go_wp2_with fail
    first | rw [hu0.out] | rw [hu1.out]
    go_end0
    exact ⟨rfl, (HV2.out _ HI.out).below ((Below.refl _ _).drew), HG2.out _⟩
end Go.Proofs.YtcjfelndnnhgjaaGreatDoor.L
namespace Go.Proofs.YtcjfelndnnhgjaaGreatDoor.L
set_option linter.unusedVariables false
open Go.RowKit
theorem u64_mask (W k : Nat) (hW : W < 2 ^ 64) (hk : k < 64) : bits .and .u64 (W : Int) (IntKind.u64.wrap (IntKind.u64.wrap (2 ^ k) - 1)) = ((W % 2 ^ k : Nat) : Int) := by
  have h := pow_lt k hk
  have h1 : 0 < 2 ^ k := Nat.pow_pos (by decide)
  have e : IntKind.u64.wrap (IntKind.u64.wrap (2 ^ k) - 1) = ((2 ^ k - 1 : Nat) : Int) := by
    rw [u64_pow k hk, IntKind.wrap_u64]
    generalize 2 ^ k = y at *
    omega
  rw [e, u64_and_nat W _ hW (by omega), Nat.and_two_pow_sub_one_eq_mod]
theorem VO.cutTo {w : World} {v : Value} {n x b : Nat} (h : VO w v n x b) (hn : n % 64 ≠ 0) : VO (w.setCell ⟨b, wcount n - 1, none⟩ (.int .u64 ((word x (wcount n - 1) % 2 ^ (n % 64) : Nat) : Int))) v n (x % 2 ^ n) b := by
  have hk : wcount n - 1 < wcount n := by unfold wcount; omega
  have hy : word x (wcount n - 1) % 2 ^ (n % 64) < 2 ^ 64 := Nat.lt_of_le_of_lt (Nat.mod_le _ _) (word_lt _ _)
  refine (h.set hk hy).congr ?_ fun j hj => ?_
  · exact Nat.lt_of_lt_of_le (Nat.mod_lt _ (Nat.pow_pos (by decide))) (Nat.pow_le_pow_right (by decide) (n_le_words n))
  · have e : wcount n - 1 = n / 64 := by unfold wcount; omega
    rw [setW_word _ _ _ _ hy, mod_word, e]
    by_cases e1 : j = n / 64
    · subst e1; simp
    · have : j < n / 64 := by omega
      rw [if_neg e1, if_pos this]
theorem grown_refl (w : World) (r : Option Nat) : w.grownBy w r := ⟨rfl, rfl, rfl, Nat.le_refl _, fun _ _ _ => rfl⟩
theorem grown_trans {a b c : World} {r : Option Nat} (h : a.grownBy b r) (k : b.grownBy c r) : a.grownBy c r :=
  ⟨k.os.trans h.os, k.tape.trans h.tape, k.output.trans h.output, Nat.le_trans h.size k.size, fun i hi hn => (k.block i (Nat.lt_of_lt_of_le hi h.size) hn).trans (h.block i hi hn)⟩
theorem grown_below {a b : World} {B : Nat} (h : Below B a b) (hB : a.heap.size ≤ B) (r : Option Nat) : a.grownBy b r := ⟨h.os, h.tape, h.output, h.size, fun k hk _ => h.block k (Nat.lt_of_lt_of_le hk hB)⟩
theorem grown_cell (w : World) (b i : Nat) (u : Value) : w.grownBy (w.setCell ⟨b, i, none⟩ u) (some b) := by
  refine ⟨rfl, rfl, rfl, ?_, fun k hk hne => Below.heap_setCell _ _ _ _ (fun e => hne (by rw [e]))⟩
  simp
theorem grown_alloc {w W : World} {r : Option Nat} (h : w.grownBy W r) (o : Obj) : w.grownBy (W.alloc o) r :=
  ⟨h.os, h.tape, h.output, by rw [World.size_alloc]; exact Nat.le_succ_of_le h.size, fun k hk hne => (heap_alloc_old _ _ (Nat.lt_of_lt_of_le hk h.size)).trans (h.block k hk hne)⟩
theorem grown_setNew {w W : World} {r : Option Nat} (h : w.grownBy W r) {a : Addr} (ha : w.heap.size ≤ a.block) (u : Value) : w.grownBy (W.setCell a u) r :=
  ⟨h.os, h.tape, h.output, by rw [World.size_setCell]; exact h.size, fun k hk hne => (Below.heap_setCell _ _ _ _ (by omega)).trans (h.block k hk hne)⟩
theorem grown_setOwn {w W : World} {b : Nat} (h : w.grownBy W (some b)) (i : Nat) (u : Value) : w.grownBy (W.setCell ⟨b, i, none⟩ u) (some b) :=
  ⟨h.os, h.tape, h.output, by rw [World.size_setCell]; exact h.size, fun k hk hne => (Below.heap_setCell _ _ _ _ (fun e => hne (by rw [e]))).trans (h.block k hk hne)⟩
theorem grown_drew {w W : World} {r : Option Nat} (h : w.grownBy W r) : w.grownBy W.drew r := ⟨h.os, h.tape, h.output, h.size, h.block⟩
theorem VO.other {w : World} {v n x b} (h : VO w v n x b) {a : Addr} (ha : b ≠ a.block) (u : Value) : VO (w.setCell a u) v n x b := ⟨h.e, h.blk.other u ha, h.lt, h.le⟩
theorem VO.drew {w : World} {v n x b} (h : VO w v n x b) : VO w.drew v n x b := ⟨h.e, h.blk, h.lt, h.le⟩
theorem below_grown {B : Nat} {a b c : World} {g : Nat} (h : Below B a b) (k : b.grownBy c (some g)) (hB : B ≤ b.heap.size) (hg : B ≤ g) : Below B a c :=
  h.grown k hB fun i hi => by
    simp only [Option.some.injEq] at hi
    omega
set_option maxRecDepth 100000 in
set_option maxHeartbeats 1000000 in
theorem cut_any {w : World} {v : Value} {n x b : Nat} (h : VO w v n x b) (hn : 0 < n) :
    Calls Tryz.prog 105 #[v] w fun e w' => e = .returned v ∧ VO w' v n (x % 2 ^ n) b ∧ w.grownBy w' (some b) := by
  have HV := Lib.hid h
  obtain ⟨rfl, hb, hx, hle⟩ := h
  have hni : (n : Int) ≤ 128 := by omega
  have q6 : (n : Int).tmod 64 = (n : Int) % 64 := Int.tmod_eq_emod_of_nonneg (by omega)
  have hlt := hb.lt
  by_cases hr : n % 64 = 0
  · have hr' : (n : Int) % 64 = 0 := by omega
    have hr2 : (((n : Int) % 64) == 0) = true := by simp [hr']
    have he : Hid (x % 2 ^ n = x) := Lib.hid (Nat.mod_eq_of_lt (by have : 64 * wcount n = n := by unfold wcount; omega
                                                                   rw [this] at hx; exact hx))
    clear hb hx hr hr'
    go_enter Tryz.func105, Tryz.ntmps105
    go_wp2_with fail
    refine bodyPost_ret (v := .agg #[.int .i64 n, .slice (some ⟨b, 0, none⟩) (wcount n) (wcount n)]) (by simp [results, Tryz.results105, go_sem]) rfl ⟨rfl, ?_, ?_⟩
    · rw [he.out]; exact (HV.out.below (Below.new _ _)).below (Below.new _ _)
    · exact grown_below (((Below.new _ _).alloc (by simp) _)) (Nat.le_refl _) _
  · have hr' : ¬ (n : Int) % 64 = 0 := by omega
    have hr2 : (((n : Int) % 64) != 0) = true := by simp [hr']
    have q1 : (0 : Int) ≤ (n : Int) % 64 := by omega
    have q2 : ((n : Int) % 64).toNat = n % 64 := by omega
    have q3 : (0 : Int) ≤ (wcount n : Int) - 1 := by unfold wcount; omega
    have q4 : ((wcount n : Int) - 1) < wcount n := by omega
    have q7 : (1 : Int) ≤ (wcount n : Int) := by omega
    have q5 : ((wcount n : Int) - 1).toNat = wcount n - 1 := by omega
    have q0 : IntKind.i64.wrap ((wcount n : Int) - 1) = (wcount n : Int) - 1 := IntWalk.i64_in _ (by unfold wcount; omega)
    have hk : wcount n - 1 < wcount n := by unfold wcount; omega
    have hc := ((hb.alloc (.cells #[.int .i64 n, .slice (some ⟨b, 0, none⟩) (wcount n) (wcount n)] 115)).alloc (.cells #[.int .i64 0, .slice none 0 0] 115)).cell (wordsV_at hk)
    have hf := ((hb.alloc (.cells #[.int .i64 n, .slice (some ⟨b, 0, none⟩) (wcount n) (wcount n)] 115)).alloc (.cells #[.int .i64 0, .slice none 0 0] 115)).frz (wcount n - 1)
    have hk0 := (Blk.new (w := w) 115 [.int .i64 n, .slice (some ⟨b, 0, none⟩) (wcount n) (wcount n)]).alloc (.cells #[.int .i64 0, .slice none 0 0] 115)
    have hk1 := Blk.new (w := w.alloc (.cells #[.int .i64 n, .slice (some ⟨b, 0, none⟩) (wcount n) (wcount n)] 115)) 115 [.int .i64 0, .slice none 0 0]
    rw [World.size_alloc] at hk1
    have hp0 := hk0.cell (i := 0) rfl
    have hp1 := hk0.cell (i := 1) rfl
    have r0 := hk1.cell (i := 0) rfl
    have r1 := hk1.cell (i := 1) rfl
    have rf0 := hk1.frz 0
    have rf1 := hk1.frz 1
    have hu := Lib.hid (u64_mask (word x (wcount n - 1)) (n % 64) (word_lt _ _) (Nat.mod_lt _ (by decide)))
    have HR := Lib.hid hr
    have hW := (HV.out.below (Below.new w (.cells #[.int .i64 n, .slice (some ⟨b, 0, none⟩) (wcount n) (wcount n)] 115))).below (Below.new _ (.cells #[.int .i64 0, .slice none 0 0] 115))
    have hgW : w.grownBy ((w.alloc (.cells #[.int .i64 n, .slice (some ⟨b, 0, none⟩) (wcount n) (wcount n)] 115)).alloc (.cells #[.int .i64 0, .slice none 0 0] 115)) (some b) := grown_below (((Below.new _ _).alloc (by simp) _)) (Nat.le_refl _) _
    have HW := Lib.hid (And.intro hW hgW)
    have hsz : ((w.alloc (.cells #[.int .i64 n, .slice (some ⟨b, 0, none⟩) (wcount n) (wcount n)] 115)).alloc (.cells #[.int .i64 0, .slice none 0 0] 115)).heap.size = w.heap.size + 1 + 1 := by simp
    have HS := Lib.hid (And.intro hsz (And.intro hk0 hk1))
    clear hb hx hr hr' hn hle hni hW hgW hk hsz hk0 hk1
    go_enter Tryz.func105, Tryz.ntmps105
    go_wp2_with fail
    generalize (w.alloc (.cells #[.int .i64 n, .slice (some ⟨b, 0, none⟩) (wcount n) (wcount n)] 115)).alloc (.cells #[.int .i64 0, .slice none 0 0] 115) = W at *
    refine wp_region_still_tail 13 (by kernel_rfl) (by kernel_rfl) ?_
    simp only [List.take_succ_cons, List.take_zero, List.drop_succ_cons, List.drop_zero]
    change wpStill _ _ W.drew (fun a' => wpList _ _ _ _ a' W.drew) _ _
    repeat still_step
    refine wpStill_nil ?_
    go_wp2_with fail
    rw [hu.out]
    have hV2 := ((HW.out.1.cutTo HR.out).other (a := ⟨w.heap.size + 1, 0, none⟩) (by show b ≠ w.heap.size + 1; omega) (.int .i64 n)).other (a := ⟨w.heap.size + 1, 1, none⟩) (by show b ≠ w.heap.size + 1; omega) (.slice (some ⟨b, 0, none⟩) (wcount n) (wcount n))
    have hG2 := grown_setNew (grown_setNew (grown_setOwn HW.out.2 (wcount n - 1) (.int .u64 ((word x (wcount n - 1) % 2 ^ (n % 64) : Nat) : Int))) (a := ⟨w.heap.size + 1, 0, none⟩) (Nat.le_succ _) (.int .i64 n)) (a := ⟨w.heap.size + 1, 1, none⟩) (Nat.le_succ _) (.slice (some ⟨b, 0, none⟩) (wcount n) (wcount n))
    have hk2 := ((HS.out.2.2.other (a := ⟨b, wcount n - 1, none⟩) (.int .u64 ((word x (wcount n - 1) % 2 ^ (n % 64) : Nat) : Int)) (by show w.heap.size + 1 ≠ b; omega)).set 0 (.int .i64 n)).set 1 (.slice (some ⟨b, 0, none⟩) (wcount n) (wcount n))
    generalize ((W.setCell ⟨b, wcount n - 1, none⟩ (.int .u64 ((word x (wcount n - 1) % 2 ^ (n % 64) : Nat) : Int))).setCell ⟨w.heap.size + 1, 0, none⟩ (.int .i64 n)).setCell ⟨w.heap.size + 1, 1, none⟩ (.slice (some ⟨b, 0, none⟩) (wcount n) (wcount n)) = W2 at *
    have e0 := hk2.cell (i := 0) (u := .int .i64 n) rfl
    have e1 := hk2.cell (i := 1) (u := .slice (some ⟨b, 0, none⟩) (wcount n) (wcount n)) rfl
    refine bodyPost_ret (v := .agg #[.int .i64 n, .slice (some ⟨b, 0, none⟩) (wcount n) (wcount n)]) (by simp [results, Tryz.results105, go_sem, e0, e1]) rfl ⟨rfl, hV2.drew, grown_drew hG2⟩
end Go.Proofs.YtcjfelndnnhgjaaGreatDoor.L
namespace Go.Proofs.YtcjfelndnnhgjaaGreatDoor.L
set_option linter.unusedVariables false
open Go.RowKit
theorem Tryz.info22 : (Tryz.prog.info? 158).map (fun i => (i.zero, i.size, i.bytes)) = some (some (.int .u64 0), 1, 8) := by kernel_rfl
theorem wordsV_zero (m : Nat) : wordsV m 0 = List.replicate m (.int .u64 0) := by
  apply List.ext_getElem?
  intro i
  by_cases h : i < m
  · rw [wordsV_at h, List.getElem?_replicate, if_pos h, word_zero]; rfl
  · rw [List.getElem?_eq_none (by rw [wordsV_length]; omega), List.getElem?_eq_none (by simp; omega)]
set_option maxRecDepth 100000 in
theorem mk_words (n : Nat) (hn : n ≤ 1000000) (w : World) : (Instr.makeSlice 113 (.int .i64 n) (.int .i64 n)).run Tryz.prog w = .ok (.slice (some ⟨w.heap.size, 0, none⟩) n n) (w.alloc (.cells (wordsV n 0).toArray 158)) := by
  obtain ⟨i0, hi, hz0, hz1, hz2⟩ := info_parts Tryz.info22
  have h := run_make (P := Tryz.prog) w 113 158 i0 _ Tryz.underlying113 hi hz0 .i64 .i64 n n (by omega) (by omega) (by rw [hz2]; omega) (by omega)
  rw [h, hz1]
  simp only [Int.toNat_natCast, Nat.mul_one, Value.cells]
  congr 3
  apply Array.ext'
  rw [toList_madeCells_one, wordsV_zero]
theorem VO.fresh {w : World} {n : Nat} (hn : n ≤ 128) : VO (w.alloc (.cells (wordsV (wcount n) 0).toArray 158)) (.agg #[.int .i64 n, .slice (some ⟨w.heap.size, 0, none⟩) (wcount n) (wcount n)]) n 0 w.heap.size :=
  ⟨rfl, Blk.new 158 _, Nat.pow_pos (by decide), hn⟩
/-- what blank gives: a new vector, all bits 0 -/
def Fresh (w : World) (n x : Nat) (e : Ending) (w' : World) : Prop := ∃ v b, e = .returned v ∧ VO w' v n x b ∧ w.heap.size ≤ b ∧ Below w.heap.size w w'
set_option maxRecDepth 100000 in
set_option maxHeartbeats 1000000 in
theorem blank_any {w : World} (n : Nat) (hn : n ≤ 128) : Calls Tryz.prog 104 #[.int .i64 n] w (Fresh w n 0) := by
  have HC := Lib.hid (fun w => count_any n w (by omega))
  have hmk := fun w => mk_words (wcount n) (by unfold wcount; omega) w
  have hni : (n : Int) ≤ 128 := by omega
  have hk0 := (Blk.new (w := w) 115 [.int .i64 0, .slice none 0 0]).alloc (.cells (wordsV (wcount n) 0).toArray 158)
  have hV := VO.fresh (w := w.alloc (.cells #[.int .i64 0, .slice none 0 0] 115)) hn
  have hB : Below w.heap.size w ((w.alloc (.cells #[.int .i64 0, .slice none 0 0] 115)).alloc (.cells (wordsV (wcount n) 0).toArray 158)) := (Below.new _ _).alloc (by simp) _
  rw [World.size_alloc] at hV
  have HH := Lib.hid (And.intro hk0 (And.intro hV hB))
  have HN := Lib.hid hn
  clear hk0 hV hB hn
  go_enter Tryz.func104, Tryz.ntmps104
  go_wp2_with fail
  refine (HC.out _).mono ?_; rintro e w' ⟨rfl, rfl⟩
  have r0 := HH.out.1.cell (i := 0) rfl
  have r1 := HH.out.1.cell (i := 1) rfl
  have rf0 := HH.out.1.frz 0
  have rf1 := HH.out.1.frz 1
  go_wp2_with fail
  have hk2 := (Blk.new (w := w) 115 [.int .i64 n, .slice (some ⟨w.heap.size + 1, 0, none⟩) (wcount n) (wcount n)]).alloc (.cells (wordsV (wcount n) 0).toArray 158)
  have hV2 := VO.fresh (w := w.alloc (.cells #[.int .i64 n, .slice (some ⟨w.heap.size + 1, 0, none⟩) (wcount n) (wcount n)] 115)) HN.out
  rw [World.size_alloc] at hV2
  have hB2 : Below w.heap.size w ((w.alloc (.cells #[.int .i64 n, .slice (some ⟨w.heap.size + 1, 0, none⟩) (wcount n) (wcount n)] 115)).alloc (.cells (wordsV (wcount n) 0).toArray 158)) := (Below.new _ _).alloc (by simp) _
  generalize (w.alloc (.cells #[.int .i64 n, .slice (some ⟨w.heap.size + 1, 0, none⟩) (wcount n) (wcount n)] 115)).alloc (.cells (wordsV (wcount n) 0).toArray 158) = W2 at *
  have e0 := hk2.cell (i := 0) (u := .int .i64 n) rfl
  have e1 := hk2.cell (i := 1) (u := .slice (some ⟨w.heap.size + 1, 0, none⟩) (wcount n) (wcount n)) rfl
  exact bodyPost_ret (v := .agg #[.int .i64 n, .slice (some ⟨w.heap.size + 1, 0, none⟩) (wcount n) (wcount n)]) (by simp [results, Tryz.results104, go_sem, e0, e1]) rfl ⟨_, _, rfl, hV2, Nat.le_succ _, hB2⟩
end Go.Proofs.YtcjfelndnnhgjaaGreatDoor.L
namespace Go.Proofs.YtcjfelndnnhgjaaGreatDoor.L
set_option linter.unusedVariables false
open Go.RowKit
set_option maxRecDepth 100000 in
theorem add64_run (x y c : Nat) (hc : c ≤ 1) (w : World) :
    (callFunc 120 #[.int .u64 x, .int .u64 y, .int .u64 c]).run Tryz.prog w =
      .ok (.value (.tuple #[.int .u64 (((x + y + c) % 18446744073709551616 : Nat) : Int), .int .u64 (((x + y + c) / 18446744073709551616 : Nat) : Int)])) w := by
  rw [run_callFunc_extern Tryz.func120 (by kernel_rfl) (by kernel_rfl) (by kernel_rfl) (e := add64Entry) (by kernel_rfl), run_add64 x y c (by omega) (by omega) (by omega) (by omega)]
  simp only [Result.andThen]
  congr 5 <;> omega
set_option maxHeartbeats 1000000 in
set_option maxRecDepth 100000 in
theorem mul64_any (x y : Nat) (hx : x < 18446744073709551616) (hy : y < 18446744073709551616) (w : World) :
    Calls Tryz.prog 121 #[.int .u64 x, .int .u64 y] w fun e w' => e = .returned (.tuple #[.int .u64 ((x * y / 18446744073709551616 : Nat) : Int), .int .u64 ((x * y % 18446744073709551616 : Nat) : Int)]) ∧ w' = w := by
  obtain ⟨bd, bt, bw, hhi⟩ := Lib.mul64_hi x y hx hy
  have ba := Lib.half_mul_le (a := x / 4294967296) (b := y / 4294967296) (by omega) (by omega)
  have bb := Lib.half_mul_le (a := x / 4294967296) (b := y % 4294967296) (by omega) (by omega)
  have bc := Lib.half_mul_le (a := x % 4294967296) (b := y / 4294967296) (by omega) (by omega)
  have ba' : x / 4294967296 * (y / 4294967296) < 18446744073709551616 := by omega
  have bb' : x / 4294967296 * (y % 4294967296) < 18446744073709551616 := by omega
  have bc' : x % 4294967296 * (y / 4294967296) < 18446744073709551616 := by omega
  have bh1 : x / 4294967296 * (y / 4294967296) + (x / 4294967296 * (y % 4294967296) + x % 4294967296 * (y % 4294967296) / 4294967296) / 4294967296 < 18446744073709551616 := by omega
  have bh : x / 4294967296 * (y / 4294967296) + (x / 4294967296 * (y % 4294967296) + x % 4294967296 * (y % 4294967296) / 4294967296) / 4294967296 + ((x / 4294967296 * (y % 4294967296) + x % 4294967296 * (y % 4294967296) / 4294967296) % 4294967296 + x % 4294967296 * (y / 4294967296)) / 4294967296 < 18446744073709551616 := by omega
  go_enter Tryz.func121, Tryz.ntmps121
  go_wp2
  simp only [Mul64.maskN x hx, Mul64.maskN y hy, Mul64.divN, Mul64.mulN, Mul64.addN, Mul64.wrapN _ bd, Mul64.wrapN _ bb', Mul64.wrapN _ bt, Mul64.maskN _ bt, Mul64.wrapN _ bc', Mul64.wrapN _ bw, Mul64.wrapN _ ba', Mul64.wrapN _ bh1, Mul64.wrapN _ bh, Mul64.wrapM (x * y)]
  rw [hhi]
  go_ret2
  exact ⟨rfl, rfl⟩
/-- the value of a vector whose words lie in block b -/
def vecO (n b : Nat) : Value := .agg #[.int .i64 n, .slice (some ⟨b, 0, none⟩) (wcount n) (wcount n)]
/-- a vector is being made in block b, beside the blocks bs of the function's own -/
structure Bld (w : World) (bs : List (Nat × List Value)) (n x b : Nat) (wr : World) : Prop where
  bx : ∀ p ∈ bs, Blk wr p.1 115 p.2 ∧ p.1 ≠ b
  vo : VO wr (vecO n b) n x b
  bel : Below w.heap.size w wr
  ge : w.heap.size ≤ b
theorem Bld.box {w bs n x b wr} (h : Bld w bs n x b wr) {p : Nat × List Value} (hp : p ∈ bs) : Blk wr p.1 115 p.2 := (h.bx p hp).1
theorem Bld.grown {w bs n x y b wr w'} (h : Bld w bs n x b wr) (hg : wr.grownBy w' (some b)) (hv : VO w' (vecO n b) n y b) : Bld w bs n y b w' := by
  refine ⟨fun p hp => ?_, hv, below_grown h.bel hg h.bel.size h.ge, h.ge⟩
  obtain ⟨h1, h2⟩ := h.bx p hp
  refine ⟨?_, h2⟩
  unfold Blk at *
  rw [hg.block p.1 (some_lt h1) (by simpa using h2)]; exact h1
theorem Bld.below {w bs n x b wr w'} (h : Bld w bs n x b wr) (hb : Below wr.heap.size wr w') : Bld w bs n x b w' :=
  ⟨fun p hp => ⟨(h.bx p hp).1.below hb (h.bx p hp).1.lt, (h.bx p hp).2⟩, h.vo.below hb, h.bel.trans (hb.mono h.bel.size), h.ge⟩
theorem Bld.drew {w bs n x b wr} (h : Bld w bs n x b wr) : Bld w bs n x b wr.drew := h.below (Below.refl _ _).drew
theorem Bld.alloc {w bs n x b wr} (h : Bld w bs n x b wr) (o : Obj) : Bld w bs n x b (wr.alloc o) := h.below (Below.new _ _)
theorem Bld.word {w bs n x b wr} (h : Bld w bs n x b wr) {i y : Nat} (hi : i < wcount n) (hy : y < 2 ^ 64) : Bld w bs n (setW x i y) b (wr.setCell ⟨b, i, none⟩ (.int .u64 y)) :=
  h.grown (grown_cell _ _ _ _) (h.vo.set hi hy)
theorem Bld.congr {w bs n x y b wr} (h : Bld w bs n x b wr) (hy : y < 2 ^ (64 * wcount n)) (he : ∀ i, i < wcount n → YtcjfelndnnhgjaaGreatDoor.L.word x i = YtcjfelndnnhgjaaGreatDoor.L.word y i) : Bld w bs n y b wr := ⟨h.bx, h.vo.congr hy he, h.bel, h.ge⟩
/-- .. at the start: behind blank -/
theorem Bld.start {w wr w' : World} {bs : List (Nat × List Value)} {n b : Nat} (hbs : ∀ p ∈ bs, Blk wr p.1 115 p.2) (hb : Below w.heap.size w wr) (hb' : Below wr.heap.size wr w') (hv : VO w' (vecO n b) n 0 b) (hge : wr.heap.size ≤ b) : Bld w bs n 0 b w' :=
  ⟨fun p hp => ⟨(hbs p hp).below hb' (hbs p hp).lt, by have := (hbs p hp).lt; omega⟩, hv, hb.trans (hb'.mono hb.size), Nat.le_trans hb.size hge⟩
/-- the result is laid -/
theorem Bld.ret {w bs n x b w3} (h : Bld w bs n x b w3) {R : Nat} {u v : Value} (hR : (R, [u, v]) ∈ bs) (hge : w.heap.size ≤ R) :
    ((w3.setCell ⟨R, 0, none⟩ (.int .i64 n)).setCell ⟨R, 1, none⟩ (.slice (some ⟨b, 0, none⟩) (wcount n) (wcount n))).cell? ⟨R, 0, none⟩ = some (.int .i64 n) ∧
    ((w3.setCell ⟨R, 0, none⟩ (.int .i64 n)).setCell ⟨R, 1, none⟩ (.slice (some ⟨b, 0, none⟩) (wcount n) (wcount n))).cell? ⟨R, 1, none⟩ = some (.slice (some ⟨b, 0, none⟩) (wcount n) (wcount n)) ∧
    VO ((w3.setCell ⟨R, 0, none⟩ (.int .i64 n)).setCell ⟨R, 1, none⟩ (.slice (some ⟨b, 0, none⟩) (wcount n) (wcount n))) (vecO n b) n x b ∧
    Below w.heap.size w ((w3.setCell ⟨R, 0, none⟩ (.int .i64 n)).setCell ⟨R, 1, none⟩ (.slice (some ⟨b, 0, none⟩) (wcount n) (wcount n))) := by
  obtain ⟨h1, h2⟩ := h.bx _ hR
  have hk := (h1.set 0 (.int .i64 n)).set 1 (.slice (some ⟨b, 0, none⟩) (wcount n) (wcount n))
  exact ⟨hk.cell (i := 0) rfl, hk.cell (i := 1) rfl, (h.vo.other (Ne.symm h2) _).other (Ne.symm h2) _, (h.bel.setCell hge _).setCell hge _⟩
/-- the variable out is laid -/
theorem Bld.push {w bs n x b wr} (h : Bld w bs n x b wr) (l : List Value) : Bld w ((wr.heap.size, l) :: bs) n x b (wr.alloc (.cells l.toArray 115)) := by
  have h' := h.alloc (.cells l.toArray 115)
  refine ⟨fun p hp => ?_, h'.vo, h'.bel, h'.ge⟩
  rcases List.mem_cons.1 hp with rfl | hp
  · exact ⟨Blk.new 115 l, by have := h.vo.blk.lt; show wr.heap.size ≠ b; omega⟩
  · exact h'.bx p hp
end Go.Proofs.YtcjfelndnnhgjaaGreatDoor.L
namespace Go.Proofs.YtcjfelndnnhgjaaGreatDoor.L
set_option linter.unusedVariables false
open Go.RowKit
/-- after k rounds the words of the sum stand -/
def PlusRel (w : World) (bs : List (Nat × List Value)) (n b S : Nat) (k : Nat) (wr : World) : Prop := ∃ X, Bld w bs n X b wr ∧ ∀ i, i < wcount n → word X i = if i < k then word S i else 0
theorem PlusRel.step {w bs n b S k wr w'} {y : Nat} (h : PlusRel w bs n b S k wr) (hk : k < wcount n) (hy : y = word S k) (hw : w' = (wr.setCell ⟨b, k, none⟩ (.int .u64 y)).drew) : PlusRel w bs n b S (k + 1) w' := by
  obtain ⟨X, hB, hX⟩ := h
  subst hw
  have hlt : y < 2 ^ 64 := hy ▸ word_lt _ _
  refine ⟨_, (hB.word hk hlt).drew, fun i hi => ?_⟩
  rw [setW_word _ _ _ _ hlt, hX i hi]
  by_cases e : i = k
  · subst e; rw [if_pos rfl, if_pos (Nat.lt_succ_self _), hy]
  · by_cases e2 : i < k
    · rw [if_neg e, if_pos e2, if_pos (by omega)]
    · rw [if_neg e, if_neg e2, if_neg (by omega)]
theorem PlusRel.done {w bs n b S wr} (h : PlusRel w bs n b S (wcount n) wr) : ∃ X, Bld w bs n X b wr ∧ X % 2 ^ n = S % 2 ^ n := by
  obtain ⟨X, hB, hX⟩ := h
  exact ⟨X, hB, cut_of_words (n_le_words n) fun i hi => by rw [hX i hi, if_pos hi]⟩
set_option maxRecDepth 100000 in
set_option maxHeartbeats 4000000 in
theorem plus_any {w : World} {va vb : Value} {n A B : Nat} (hA : VR w va n A) (hB : VR w vb n B) (hn : 0 < n) (c : Nat) (hc : c ≤ 1) :
    Calls Tryz.prog 106 #[va, vb, .int .u64 c] w (Fresh w n ((A + B + c) % 2 ^ n)) := by
  have HA := Lib.hid hA
  have HB := Lib.hid hB
  have hn128 := hA.le
  have hni : (n : Int) ≤ 128 := by omega
  obtain ⟨pa, ca, rfl, ra⟩ := hA.ex
  obtain ⟨pb, cb, rfl, rb⟩ := hB.ex
  have HC := Lib.hid hc
  have HBl := Lib.hid (fun w => blank_any (w := w) n hn128)
  have HN := Lib.hid hn
  clear hA hB ra rb hc hn128 hn
  go_enter Tryz.func106, Tryz.ntmps106
  go_wp2_with fail
  have k0 := ((Blk.new (w := w) 115 [.int .i64 n, .slice pa (wcount n) ca]).alloc (.cells #[.int .i64 n, .slice pb (wcount n) cb] 115)).alloc (.cells #[.int .i64 0, .slice none 0 0] 115)
  have k1 := (Blk.new (w := w.alloc (.cells #[.int .i64 n, .slice pa (wcount n) ca] 115)) 115 [.int .i64 n, .slice pb (wcount n) cb]).alloc (.cells #[.int .i64 0, .slice none 0 0] 115)
  have k2 := Blk.new (w := (w.alloc (.cells #[.int .i64 n, .slice pa (wcount n) ca] 115)).alloc (.cells #[.int .i64 n, .slice pb (wcount n) cb] 115)) 115 [.int .i64 0, .slice none 0 0]
  have hb3 : Below w.heap.size w (((w.alloc (.cells #[.int .i64 n, .slice pa (wcount n) ca] 115)).alloc (.cells #[.int .i64 n, .slice pb (wcount n) cb] 115)).alloc (.cells #[.int .i64 0, .slice none 0 0] 115)) := ((Below.new _ _).alloc (by simp) _).alloc (by simp; omega) _
  simp only [World.size_alloc] at k1 k2
  generalize ((w.alloc (.cells #[.int .i64 n, .slice pa (wcount n) ca] 115)).alloc (.cells #[.int .i64 n, .slice pb (wcount n) cb] 115)).alloc (.cells #[.int .i64 0, .slice none 0 0] 115) = W at *
  have HK := Lib.hid (And.intro k0 (And.intro k1 (And.intro k2 hb3)))
  clear k0 k1 k2 hb3
  refine (HBl.out _).mono ?_; rintro e w1 ⟨v, b, rfl, hV, hge, hb1⟩
  obtain rfl := hV.e
  have hS := Bld.start (w := w) (bs := [(w.heap.size, [.int .i64 n, .slice pa (wcount n) ca]), (w.heap.size + 1, [.int .i64 n, .slice pb (wcount n) cb]), (w.heap.size + 1 + 1, [.int .i64 0, .slice none 0 0])]) (by
    intro p hp
    simp only [List.mem_cons, List.not_mem_nil, or_false] at hp
    rcases hp with rfl | rfl | rfl
    · exact HK.out.1
    · exact HK.out.2.1
    · exact HK.out.2.2.1) HK.out.2.2.2 hb1 hV hge
  have hS2 := Lib.hid (hS.push [.int .i64 n, .slice (some ⟨b, 0, none⟩) (wcount n) (wcount n)])
  clear hV hb1 hS hge
  go_wp2_with fail
  generalize w1.alloc (.cells #[.int .i64 n, .slice (some ⟨b, 0, none⟩) (wcount n) (wcount n)] 115) = w2 at *
  generalize w1.heap.size = L at *
  have HM := Lib.hid (show wcount n ≤ 3 by unfold wcount; omega)
  have hmi : (wcount n : Int) ≤ 3 := by have := HM.out; omega
  generalize hbs : [(L, [Value.int IntKind.i64 n, Value.slice (some ⟨b, 0, none⟩) (wcount n) (wcount n)]), (w.heap.size, [Value.int IntKind.i64 n, Value.slice pa (wcount n) ca]), (w.heap.size + 1, [Value.int IntKind.i64 n, Value.slice pb (wcount n) cb]), (w.heap.size + 1 + 1, [Value.int IntKind.i64 0, Value.slice none 0 0])] = bs at *
  have HS := Lib.hid hbs
  clear hbs
  go_loopw [2, 15] (fun cy i wr => ∃ k : Nat, k ≤ wcount n ∧ i = .int .i64 k ∧ cy = .int .u64 (carryTo A B c k) ∧ PlusRel w bs n b (A + B + c) k wr) (fun _ i _ => wcount n - (intOf i).toNat)
  case atStart => exact ⟨0, Nat.zero_le _, rfl, by rw [carry_zero], 0, hS2.out, fun i _ => by rw [if_neg (Nat.not_lt_zero _), word_zero]⟩
  case round =>
    obtain ⟨k, hk, rfl, rfl, hP⟩ := hrel
    have HP := Lib.hid hP
    obtain ⟨X, hX, hXw⟩ := hP
    by_cases hlt : k < wcount n
    · have hki : (k : Int) < (wcount n : Int) := by omega
      obtain ⟨ba, oa, ca', ea, fa⟩ := (HA.out.below hX.bel).word hlt
      obtain ⟨bb, ob, cb', eb, fb⟩ := (HB.out.below hX.bel).word hlt
      simp only [Value.agg.injEq, Array.mk.injEq, List.cons.injEq, Value.slice.injEq, true_and, and_true] at ea eb
      obtain ⟨rfl, rfl⟩ := ea
      obtain ⟨rfl, rfl⟩ := eb
      have x0 := (hX.drew.box (p := (L, [.int .i64 n, .slice (some ⟨b, 0, none⟩) (wcount n) (wcount n)])) (by rw [← HS.out]; simp)).cell (i := 1) rfl
      have x1 := (hX.drew.box (p := (w.heap.size, [.int .i64 n, .slice (some ⟨ba, oa, none⟩) (wcount n) ca])) (by rw [← HS.out]; simp)).cell (i := 1) rfl
      have x2 := (hX.drew.box (p := (w.heap.size + 1, [.int .i64 n, .slice (some ⟨bb, ob, none⟩) (wcount n) cb])) (by rw [← HS.out]; simp)).cell (i := 1) rfl
      have y0 := hX.vo.drew.blk.cell (wordsV_at hlt)
      have y1 := hX.vo.drew.blk.frz k
      have n0 := Ne.symm (hX.bx (L, [.int .i64 n, .slice (some ⟨b, 0, none⟩) (wcount n) (wcount n)]) (by rw [← HS.out]; simp)).2
      have n1 := Ne.symm (hX.bx (w.heap.size, [.int .i64 n, .slice (some ⟨ba, oa, none⟩) (wcount n) ca]) (by rw [← HS.out]; simp)).2
      have n2 := Ne.symm (hX.bx (w.heap.size + 1, [.int .i64 n, .slice (some ⟨bb, ob, none⟩) (wcount n) cb]) (by rw [← HS.out]; simp)).2
      have na : b ≠ ba := by
        obtain ⟨b', o', c', e', f'⟩ := HA.out.word hlt
        simp only [Value.agg.injEq, Array.mk.injEq, List.cons.injEq, Value.slice.injEq, true_and, and_true, Option.some.injEq, Addr.mk.injEq] at e'
        have := World.block_lt_of_cell? _ _ f'
        have := hX.ge
        dsimp only at *
        omega
      have nb : b ≠ bb := by
        obtain ⟨b', o', c', e', f'⟩ := HB.out.word hlt
        simp only [Value.agg.injEq, Array.mk.injEq, List.cons.injEq, Value.slice.injEq, true_and, and_true, Option.some.injEq, Addr.mk.injEq] at e'
        have := World.block_lt_of_cell? _ _ f'
        have := hX.ge
        dsimp only at *
        omega
      dsimp only at n0 n1 n2
      have hadd := add64_run (word A k) (word B k) (carryTo A B c k) (carry_le A B c k HC.out)
      have HST := Lib.hid (carry_step A B c k)
      have HLT := Lib.hid hlt
      generalize word A k = wa at *
      generalize word B k = wb at *
      generalize word X k = wx at *
      generalize carryTo A B c k = cy at *
      dsimp only at x0 x1 x2
      clear hXw hX hlt hk
      go_wp2_with fail
      go_region_held3 (fun w' => w'.cell? ⟨L, 1, none⟩ = some (.slice (some ⟨b, 0, none⟩) (wcount n) (wcount n)) ∧ w'.cell? ⟨w.heap.size, 1, none⟩ = some (.slice (some ⟨ba, oa, none⟩) (wcount n) ca) ∧ w'.cell? ⟨w.heap.size + 1, 1, none⟩ = some (.slice (some ⟨bb, ob, none⟩) (wcount n) cb) ∧ w'.cell? ⟨ba, oa + k, none⟩ = some (.int .u64 wa) ∧ w'.cell? ⟨bb, ob + k, none⟩ = some (.int .u64 wb))
        (first | exact ⟨x0, x1, x2, fa, fb⟩ | exact ⟨(World.cell?_setCell_far _ _ _ _ n0).trans x0, (World.cell?_setCell_far _ _ _ _ n1).trans x1, (World.cell?_setCell_far _ _ _ _ n2).trans x2, (World.cell?_setCell_far _ _ _ _ na).trans fa, (World.cell?_setCell_far _ _ _ _ nb).trans fb⟩)
        (fail)
      go_wp2_with fail
      go_roundw
      case rel =>
        exact ⟨k + 1, HLT.out, by go_num, by rw [← HST.out.2]; congr 1, HP.out.step HLT.out HST.out.1 rfl⟩
      case measure => simp [intOf]; omega
    · obtain rfl : k = wcount n := by omega
      clear hX hXw hlt hk
      obtain ⟨X, hX, hXS⟩ := HP.out.done
      have HXS := Lib.hid (And.intro hX hXS)
      have x0 := (hX.box (p := (L, [.int .i64 n, .slice (some ⟨b, 0, none⟩) (wcount n) (wcount n)])) (by rw [← HS.out]; simp)).cell (i := 0) rfl
      have x1 := (hX.box (p := (L, [.int .i64 n, .slice (some ⟨b, 0, none⟩) (wcount n) (wcount n)])) (by rw [← HS.out]; simp)).cell (i := 1) rfl
      dsimp only at x0 x1
      have HCut := Lib.hid (cut_any hX.vo HN.out)
      clear hX hXS
      go_wp2_with fail
      refine HCut.out.mono ?_; rintro e w3 ⟨rfl, hv3, hg3⟩
      have hB3 := HXS.out.1.grown hg3 hv3
      have kr := hB3.box (p := (w.heap.size + 1 + 1, [.int .i64 0, .slice none 0 0])) (by rw [← HS.out]; simp)
      have HB3 := Lib.hid (And.intro hB3 kr)
      have r0 := kr.cell (i := 0) rfl
      have r1 := kr.cell (i := 1) rfl
      have f0 := kr.frz 0
      have f1 := kr.frz 1
      have hne := (hB3.bx (w.heap.size + 1 + 1, [.int .i64 0, .slice none 0 0]) (by rw [← HS.out]; simp)).2
      dsimp only [vecO] at r0 r1 f0 f1 hne ⊢
      clear hv3 hg3 hB3 kr x0 x1
      go_wp2_with fail
      obtain ⟨e0, e1, hv, hbl⟩ := HB3.out.1.ret (R := w.heap.size + 1 + 1) (u := .int .i64 0) (v := .slice none 0 0) (by rw [← HS.out]; simp) (by omega)
      rw [HXS.out.2] at hv
      exact bodyPost_ret (v := vecO n b) (by simp [results, Tryz.results106, go_sem, e0, e1, vecO]) rfl ⟨_, _, rfl, hv, HB3.out.1.ge, hbl⟩
end Go.Proofs.YtcjfelndnnhgjaaGreatDoor.L
namespace Go.Proofs.YtcjfelndnnhgjaaGreatDoor.L
set_option linter.unusedVariables false
open Go.RowKit
theorem u64_turn (a : Nat) (ha : a < 2 ^ 64) : bits .xor .u64 (if IntKind.u64.signed = true then -1 else IntKind.u64.max) (a : Int) = ((18446744073709551615 - a : Nat) : Int) := by
  have e : (if IntKind.u64.signed = true then (-1 : Int) else IntKind.u64.max) = ((18446744073709551615 : Nat) : Int) := rfl
  have h2 : (18446744073709551615 : Nat) ^^^ a = 18446744073709551615 - a := by
    apply eq_bits; intro j
    rw [show 18446744073709551615 - a = 2 ^ 64 - (a + 1) by omega, Nat.testBit_two_pow_sub_succ ha, Nat.testBit_xor, show (18446744073709551615 : Nat) = 2 ^ 64 - (0 + 1) from rfl, Nat.testBit_two_pow_sub_succ (by decide)]
    by_cases hj : j < 64
    · simp [hj]
    · rw [bit_big ha (by omega)]; simp [hj]
  rw [e, u64_xor_nat _ a (by decide) ha, h2]
theorem PlusRel.step0 {w bs n b S k wr} {y : Nat} (h : PlusRel w bs n b S k wr) (hk : k < wcount n) (hy : y = word S k) : PlusRel w bs n b S (k + 1) (wr.setCell ⟨b, k, none⟩ (.int .u64 y)) := by
  obtain ⟨X, hB, hX⟩ := h
  have hlt : y < 2 ^ 64 := hy ▸ word_lt _ _
  refine ⟨_, hB.word hk hlt, fun i hi => ?_⟩
  rw [setW_word _ _ _ _ hlt, hX i hi]
  by_cases e : i = k
  · subst e; rw [if_pos rfl, if_pos (Nat.lt_succ_self _), hy]
  · by_cases e2 : i < k
    · rw [if_neg e, if_pos e2, if_pos (by omega)]
    · rw [if_neg e, if_neg e2, if_neg (by omega)]
set_option maxRecDepth 100000 in
set_option maxHeartbeats 4000000 in
theorem not_any {w : World} {va : Value} {n A : Nat} (hA : VR w va n A) (hn : 0 < n) :
    Calls Tryz.prog 107 #[va] w (Fresh w n (notN n A)) := by
  have HA := Lib.hid hA
  have hn128 := hA.le
  have hni : (n : Int) ≤ 128 := by omega
  obtain ⟨pa, ca, rfl, ra⟩ := hA.ex
  have HBl := Lib.hid (fun w => blank_any (w := w) n hn128)
  have HN := Lib.hid hn
  clear hA ra hn128 hn
  go_enter Tryz.func107, Tryz.ntmps107
  go_wp2_with fail
  have k0 := (Blk.new (w := w) 115 [.int .i64 n, .slice pa (wcount n) ca]).alloc (.cells #[.int .i64 0, .slice none 0 0] 115)
  have k2 := Blk.new (w := (w.alloc (.cells #[.int .i64 n, .slice pa (wcount n) ca] 115))) 115 [.int .i64 0, .slice none 0 0]
  have hb3 : Below w.heap.size w ((w.alloc (.cells #[.int .i64 n, .slice pa (wcount n) ca] 115)).alloc (.cells #[.int .i64 0, .slice none 0 0] 115)) := (Below.new _ _).alloc (by simp) _
  simp only [World.size_alloc] at k2
  generalize (w.alloc (.cells #[.int .i64 n, .slice pa (wcount n) ca] 115)).alloc (.cells #[.int .i64 0, .slice none 0 0] 115) = W at *
  have p1 := k0.cell (i := 0) rfl
  have HK := Lib.hid (And.intro k0 (And.intro k2 hb3))
  clear k0 k2 hb3
  refine (HBl.out _).mono ?_; rintro e w1 ⟨v, b, rfl, hV, hge, hb1⟩
  obtain rfl := hV.e
  have hS := Bld.start (w := w) (bs := [(w.heap.size, [.int .i64 n, .slice pa (wcount n) ca]), (w.heap.size + 1, [.int .i64 0, .slice none 0 0])]) (by
    intro p hp
    simp only [List.mem_cons, List.not_mem_nil, or_false] at hp
    rcases hp with rfl | rfl
    · exact HK.out.1
    · exact HK.out.2.1) HK.out.2.2 hb1 hV hge
  have q1 := (hS.box (p := (w.heap.size, [.int .i64 n, .slice pa (wcount n) ca])) (by simp)).cell (i := 1) rfl
  have hwz : w.heap.size < w1.heap.size := (hS.box (p := (w.heap.size, [.int .i64 n, .slice pa (wcount n) ca])) (by simp)).lt
  dsimp only at q1
  have hS2 := Lib.hid (hS.push [.int .i64 n, .slice (some ⟨b, 0, none⟩) (wcount n) (wcount n)])
  clear hV hb1 hS hge p1
  go_wp2_with fail
  generalize w1.alloc (.cells #[.int .i64 n, .slice (some ⟨b, 0, none⟩) (wcount n) (wcount n)] 115) = w2 at *
  generalize w1.heap.size = L at *
  have HM := Lib.hid (show wcount n ≤ 3 by unfold wcount; omega)
  have hmi : (wcount n : Int) ≤ 3 := by have := HM.out; omega
  generalize hbs : [(L, [Value.int IntKind.i64 n, Value.slice (some ⟨b, 0, none⟩) (wcount n) (wcount n)]), (w.heap.size, [Value.int IntKind.i64 n, Value.slice pa (wcount n) ca]), (w.heap.size + 1, [Value.int IntKind.i64 0, Value.slice none 0 0])] = bs at *
  have HS := Lib.hid hbs
  have HA64 : Hid (A < 2 ^ (64 * wcount n)) := Lib.hid (Nat.lt_of_lt_of_le HA.out.lt (Nat.pow_le_pow_right (by decide) (n_le_words n)))
  clear hbs q1
  go_loopw [12] (fun i wr => ∃ k : Nat, k ≤ wcount n ∧ i = .int .i64 k ∧ PlusRel w bs n b (2 ^ (64 * wcount n) - 1 - A) k wr) (fun i _ => wcount n - (intOf i).toNat)
  case atStart => exact ⟨0, Nat.zero_le _, rfl, 0, hS2.out, fun i _ => by rw [if_neg (Nat.not_lt_zero _), word_zero]⟩
  case round =>
    obtain ⟨k, hk, rfl, hP⟩ := hrel
    have HP := Lib.hid hP
    obtain ⟨X, hX, hXw⟩ := hP
    by_cases hlt : k < wcount n
    · have hki : (k : Int) < (wcount n : Int) := by omega
      obtain ⟨ba, oa, ca', ea, fa⟩ := (HA.out.below hX.bel).word hlt
      simp only [Value.agg.injEq, Array.mk.injEq, List.cons.injEq, Value.slice.injEq, true_and, and_true] at ea
      obtain ⟨rfl, rfl⟩ := ea
      have x0 := (hX.box (p := (L, [.int .i64 n, .slice (some ⟨b, 0, none⟩) (wcount n) (wcount n)])) (by rw [← HS.out]; simp)).cell (i := 1) rfl
      have y0 := hX.vo.blk.cell (wordsV_at hlt)
      have y1 := hX.vo.blk.frz k
      have HST := Lib.hid (word_not A (wcount n) k HA64.out hlt)
      have HU := Lib.hid (u64_turn (word A k) (word_lt A k))
      have HLT := Lib.hid hlt
      generalize word A k = wa at *
      generalize word X k = wx at *
      dsimp only at x0
      clear hXw hX hlt hk
      go_wp2_with fail
      rw [HU.out]
      exact ⟨⟨k + 1, HLT.out, by go_num, HP.out.step0 HLT.out HST.out.symm⟩, by simp [intOf]; omega⟩
    · obtain rfl : k = wcount n := by omega
      clear hX hXw hlt hk
      obtain ⟨X, hX, hXS⟩ := HP.out.done
      rw [not_cut HA.out.lt (n_le_words n)] at hXS
      have HXS := Lib.hid (And.intro hX hXS)
      have x0 := (hX.box (p := (L, [.int .i64 n, .slice (some ⟨b, 0, none⟩) (wcount n) (wcount n)])) (by rw [← HS.out]; simp)).cell (i := 0) rfl
      have x1 := (hX.box (p := (L, [.int .i64 n, .slice (some ⟨b, 0, none⟩) (wcount n) (wcount n)])) (by rw [← HS.out]; simp)).cell (i := 1) rfl
      dsimp only at x0 x1
      have HCut := Lib.hid (cut_any hX.vo HN.out)
      clear hX hXS
      go_wp2_with fail
      refine HCut.out.mono ?_; rintro e w3 ⟨rfl, hv3, hg3⟩
      have hB3 := HXS.out.1.grown hg3 hv3
      have kr := hB3.box (p := (w.heap.size + 1, [.int .i64 0, .slice none 0 0])) (by rw [← HS.out]; simp)
      have HB3 := Lib.hid hB3
      have r0 := kr.cell (i := 0) rfl
      have r1 := kr.cell (i := 1) rfl
      have f0 := kr.frz 0
      have f1 := kr.frz 1
      dsimp only [vecO] at r0 r1 f0 f1 ⊢
      clear hv3 hg3 hB3 kr x0 x1
      go_wp2_with fail
      obtain ⟨e0, e1, hv, hbl⟩ := HB3.out.ret (R := w.heap.size + 1) (u := .int .i64 0) (v := .slice none 0 0) (by rw [← HS.out]; simp) (by omega)
      rw [HXS.out.2] at hv
      exact bodyPost_ret (v := vecO n b) (by simp [results, Tryz.results107, go_sem, e0, e1, vecO]) rfl ⟨_, _, rfl, hv, HB3.out.ge, hbl⟩
end Go.Proofs.YtcjfelndnnhgjaaGreatDoor.L
namespace Go.Proofs.YtcjfelndnnhgjaaGreatDoor.L
set_option linter.unusedVariables false
open Go.RowKit
/-- bit i of x, at any index -/
def bitI (x : Nat) (i : Int) : Bool := decide (0 ≤ i) && x.testBit i.toNat
theorem u64_bit (W k : Nat) (hW : W < 2 ^ 64) (r : Bool) (hr : W.testBit k = r) : (bits .and .u64 ((W : Int) / 2 ^ k) 1 == 1) = r := by
  have e : (W : Int) / 2 ^ k = ((W / 2 ^ k : Nat) : Int) := by simp
  have h1 : W / 2 ^ k < 18446744073709551616 := Nat.lt_of_le_of_lt (Nat.div_le_self _ _) hW
  rw [e, show (1 : Int) = ((1 : Nat) : Int) from rfl, u64_and_nat _ 1 h1 (by decide), nat_mask1, ← hr, Nat.testBit_eq_decide_div_mod_eq]
  generalize W / 2 ^ k % 2 = q
  rw [Bool.eq_iff_iff]
  simp
  omega
set_option maxRecDepth 100000 in
set_option maxHeartbeats 1000000 in
theorem bit_any {w : World} {v : Value} {n x : Nat} (h : VR w v n x) (i : Int) : Calls Tryz.prog 133 #[v, .int .i64 i] w fun e w' => e = .returned (.bool (bitI x i)) ∧ Below w.heap.size w w' := by
  by_cases h0 : i < 0
  · have hb : bitI x i = false := by unfold bitI; rw [decide_eq_false (by omega)]; rfl
    obtain ⟨⟨p, c, rfl, _⟩, _, _⟩ := h
    rw [hb]
    clear hb
    have hd : decide (0 ≤ i) = false := by simp; omega
    go_enter Tryz.func133, Tryz.ntmps133
    go_wp2_with fail
    go_ret
    exact ⟨rfl, Below.new _ _⟩
  · obtain ⟨j, rfl⟩ : ∃ j : Nat, i = j := ⟨i.toNat, by omega⟩
    have hb : bitI x j = x.testBit j := by unfold bitI; simp
    rw [hb]
    have hle := h.le
    by_cases hj : j < n
    · have hk : j / 64 < wcount n := by unfold wcount; omega
      obtain ⟨b, o, c, rfl, hc⟩ := h.word hk
      have hlt := World.block_lt_of_cell? _ _ hc
      have hji : (j : Int) < n := by omega
      have hji2 : (j : Int) ≤ 128 := by omega
      have q1 : (0 : Int) ≤ (j : Int) / 64 := by omega
      have q2 : (j : Int) / 64 < (wcount n : Int) := by omega
      have q3 : ((j : Int) / 64).toNat = j / 64 := by omega
      have q4 : (0 : Int) ≤ (j : Int) % 64 := by omega
      have q5 : ((j : Int) % 64).toNat = j % 64 := by omega
      have q6 : (j : Int).tmod 64 = (j : Int) % 64 := Int.tmod_eq_emod_of_nonneg (by omega)
      have q7 : min (j % 64) 64 = j % 64 := by omega
      have q0 : IntKind.i64.wrap ((j : Int) / 64) = (j : Int) / 64 := IntWalk.i64_in _ (by omega)
      obtain ⟨r, hr⟩ : ∃ r, x.testBit j = r := ⟨_, rfl⟩
      have hu := u64_bit (word x (j / 64)) (j % 64) (word_lt _ _) r (by rw [← hr]; exact (bit_word x j).symm)
      have hd : decide (0 ≤ (j : Int)) = true := by simp
      have hd2 : decide ((j : Int) < n) = true := by simp; omega
      rw [hr]
      have HU := Lib.hid hu
      generalize word x (j / 64) = wx at *
      clear h hb hr hk hj
      go_enter Tryz.func133, Tryz.ntmps133
      go_wp2_with fail
      go_ret
      exact ⟨rfl, Below.new _ _⟩
    · have hb2 : x.testBit j = false := bit_big h.lt (by omega)
      rw [hb2]
      obtain ⟨⟨p, c, rfl, _⟩, _, _⟩ := h
      have hd : decide (0 ≤ (j : Int)) = true := by simp
      have hd2 : decide ((j : Int) < n) = false := by simp; omega
      have hji : (n : Int) ≤ j := by omega
      clear hb hb2 hj
      go_enter Tryz.func133, Tryz.ntmps133
      go_wp2_with fail
      go_ret
      exact ⟨rfl, Below.new _ _⟩
end Go.Proofs.YtcjfelndnnhgjaaGreatDoor.L
namespace Go.Proofs.YtcjfelndnnhgjaaGreatDoor.L
set_option linter.unusedVariables false
open Go.RowKit
theorem two_step {w w' w'' : World} {a : Nat} {u v : Value} (h : w'.cell? ⟨a, 0, none⟩ = some u ∧ w'.cell? ⟨a, 1, none⟩ = some v ∧ Below w.heap.size w w') (hb : Below w'.heap.size w' w'') :
    w''.cell? ⟨a, 0, none⟩ = some u ∧ w''.cell? ⟨a, 1, none⟩ = some v ∧ Below w.heap.size w w'' :=
  ⟨(hb.cell (World.block_lt_of_cell? _ _ h.1)).trans h.1, (hb.cell (World.block_lt_of_cell? _ _ h.2.1)).trans h.2.1, h.2.2.trans (hb.mono h.2.2.size)⟩
theorem two_set {w w' : World} {a R : Nat} {u v x y : Value} (h : w'.cell? ⟨a, 0, none⟩ = some u ∧ w'.cell? ⟨a, 1, none⟩ = some v ∧ Below w.heap.size w w') (hne : R ≠ a) (hR : w.heap.size ≤ R) :
    ((w'.setCell ⟨R, 0, none⟩ x).setCell ⟨R, 1, none⟩ y).cell? ⟨a, 0, none⟩ = some u ∧ ((w'.setCell ⟨R, 0, none⟩ x).setCell ⟨R, 1, none⟩ y).cell? ⟨a, 1, none⟩ = some v ∧ Below w.heap.size w ((w'.setCell ⟨R, 0, none⟩ x).setCell ⟨R, 1, none⟩ y) :=
  ⟨(World.cell?_setCell_far _ _ _ _ hne).trans ((World.cell?_setCell_far _ _ _ _ hne).trans h.1), (World.cell?_setCell_far _ _ _ _ hne).trans ((World.cell?_setCell_far _ _ _ _ hne).trans h.2.1), (h.2.2.setCell hR _).setCell hR _⟩
theorem Blk.next {w w' : World} {b t l} (h : Blk w b t l) (hb : Below w.heap.size w w') : Blk w' b t l := h.below hb h.lt
/-- .. behind the store of a result: the block R has n and the slice -/
theorem ret2 {w w3 : World} {R n b x : Nat} {u v : Value} (hR : Blk w3 R 115 [u, v]) (hb : Below w.heap.size w w3) (hge : w.heap.size ≤ R) (hv : VO w3 (vecO n b) n x b) (hne : R ≠ b) :
    ((w3.setCell ⟨R, 0, none⟩ (.int .i64 n)).setCell ⟨R, 1, none⟩ (.slice (some ⟨b, 0, none⟩) (wcount n) (wcount n))).cell? ⟨R, 0, none⟩ = some (.int .i64 n) ∧
    ((w3.setCell ⟨R, 0, none⟩ (.int .i64 n)).setCell ⟨R, 1, none⟩ (.slice (some ⟨b, 0, none⟩) (wcount n) (wcount n))).cell? ⟨R, 1, none⟩ = some (.slice (some ⟨b, 0, none⟩) (wcount n) (wcount n)) ∧
    VO ((w3.setCell ⟨R, 0, none⟩ (.int .i64 n)).setCell ⟨R, 1, none⟩ (.slice (some ⟨b, 0, none⟩) (wcount n) (wcount n))) (vecO n b) n x b ∧
    Below w.heap.size w ((w3.setCell ⟨R, 0, none⟩ (.int .i64 n)).setCell ⟨R, 1, none⟩ (.slice (some ⟨b, 0, none⟩) (wcount n) (wcount n))) := by
  have hk := (hR.set 0 (.int .i64 n)).set 1 (.slice (some ⟨b, 0, none⟩) (wcount n) (wcount n))
  exact ⟨hk.cell (i := 0) rfl, hk.cell (i := 1) rfl, (hv.other (Ne.symm hne) _).other (Ne.symm hne) _, (hb.setCell hge _).setCell hge _⟩
set_option maxRecDepth 100000 in
set_option maxHeartbeats 4000000 in
theorem neg_any {w : World} {va : Value} {n A : Nat} (hA : VR w va n A) (hn : 0 < n) :
    Calls Tryz.prog 135 #[va] w (Fresh w n (negN n A)) := by
  have HA := Lib.hid hA
  have hn128 := hA.le
  have hni : (n : Int) ≤ 128 := by omega
  obtain ⟨pa, ca, rfl, ra⟩ := hA.ex
  have HNt : Hid (∀ w', Below w.heap.size w w' → Calls Tryz.prog 107 #[.agg #[.int .i64 n, .slice pa (wcount n) ca]] w' (Fresh w' n (notN n A))) := Lib.hid fun w' hb => not_any (hA.below hb) hn
  have HBl := Lib.hid (fun w => blank_any (w := w) n hn128)
  have HPl := Lib.hid (fun w va vb h1 h2 => plus_any (w := w) (va := va) (vb := vb) (n := n) (A := notN n A) (B := 0) h1 h2 hn 1 (Nat.le_refl _))
  have HE := Lib.hid (negN_eq hA.lt)
  have HN := Lib.hid hn
  clear hA ra hn128 hn
  go_enter Tryz.func135, Tryz.ntmps135
  go_wp2_with fail
  have k0 := (Blk.new (w := w) 115 [.int .i64 n, .slice pa (wcount n) ca]).alloc (.cells #[.int .i64 0, .slice none 0 0] 115)
  have k2 := Blk.new (w := (w.alloc (.cells #[.int .i64 n, .slice pa (wcount n) ca] 115))) 115 [.int .i64 0, .slice none 0 0]
  have hb3 : Below w.heap.size w ((w.alloc (.cells #[.int .i64 n, .slice pa (wcount n) ca] 115)).alloc (.cells #[.int .i64 0, .slice none 0 0] 115)) := (Below.new _ _).alloc (by simp) _
  simp only [World.size_alloc] at k2
  generalize (w.alloc (.cells #[.int .i64 n, .slice pa (wcount n) ca] 115)).alloc (.cells #[.int .i64 0, .slice none 0 0] 115) = W at *
  have s0 : W.drew.cell? ⟨w.heap.size, 0, none⟩ = some (.int .i64 n) ∧ W.drew.cell? ⟨w.heap.size, 1, none⟩ = some (.slice pa (wcount n) ca) ∧ Below w.heap.size w W.drew := ⟨k0.cell (i := 0) rfl, k0.cell (i := 1) rfl, hb3.drew⟩
  have K0 := Lib.hid k2.drew
  clear k0 k2 hb3
  go_region_held3 (fun w' => w'.cell? ⟨w.heap.size, 0, none⟩ = some (.int .i64 n) ∧ w'.cell? ⟨w.heap.size, 1, none⟩ = some (.slice pa (wcount n) ca) ∧ Below w.heap.size w w')
    (first | assumption | exact two_set s6 (Nat.succ_ne_self _) (Nat.le_succ _))
    (first
      | (go_at_call 107; refine (HNt.out _ s0.2.2).mono ?_; rintro e w4 ⟨v4, b4, rfl, hv4, hge4, hb4⟩; have s4 := two_step s0 hb4; have K4 := Lib.hid (K0.out.next hb4); have V4 := Lib.hid (hv4.vr (notN_lt _ _)); clear hv4 hge4 hb4)
      | (go_at_call 104; refine (HBl.out _).mono ?_; rintro e w5 ⟨v5, b5, rfl, hv5, hge5, hb5⟩; have s5 := two_step s4 hb5; have K5 := Lib.hid (K4.out.next hb5); have V5 := Lib.hid (And.intro (V4.out.below hb5) (hv5.vr (Nat.pow_pos (by decide)))); clear hv5 hge5 hb5)
      | (go_at_call 106; refine (HPl.out _ _ _ V5.out.1 V5.out.2).mono ?_; rintro e w6 ⟨v6, b6, rfl, hv6, hge6, hb6⟩; obtain rfl := hv6.e; have s6 := two_step s5 hb6; have k6 := K5.out.next hb6; have r0 := k6.cell (i := 0) rfl; have r1 := k6.cell (i := 1) rfl; have f0 := k6.frz 0; have f1 := k6.frz 1; have H6 := Lib.hid (And.intro hv6 (And.intro hge6 k6)); clear hv6 hge6 k6 hb6))
  go_wp2_with fail
  obtain ⟨e0, e1, hv, hbl⟩ := ret2 H6.out.2.2 s6.2.2 (Nat.le_succ _) H6.out.1 (by have := H6.out.2.1; have := K5.out.lt; omega)
  rw [HE.out] at hv
  exact bodyPost_ret (v := vecO n b6) (by simp [results, Tryz.results135, go_sem, e0, e1, vecO]) rfl ⟨_, _, rfl, hv, Nat.le_trans s5.2.2.size H6.out.2.1, hbl⟩
theorem negative_any {w : World} {v : Value} {n x : Nat} (h : VR w v n x) : Calls Tryz.prog 127 #[v] w fun e w' => e = .returned (.bool (bitI x ((n : Int) - 1))) ∧ Below w.heap.size w w' := by
  have hn : (n : Int) ≤ 128 := by have := h.le; omega
  have HB := Lib.hid (fun o => bit_any (h.below (Below.new w o)) ((n : Int) - 1))
  obtain ⟨⟨p, c, rfl, _⟩, _, _⟩ := h
  go_enter Tryz.func127, Tryz.ntmps127
  go_wp2_with fail
  refine (HB.out _).mono ?_; rintro e w1 ⟨rfl, hb⟩
  have HH := Lib.hid (Below.then (Below.new _ _) hb (Nat.le_refl _))
  clear hb
  go_wp2_with fail
  go_ret
  exact ⟨rfl, HH.out⟩
theorem ne0_any (y : Nat) (w : World) : Calls Tryz.prog 138 #[.int .u64 y] w fun e w' => e = .returned (.bool ((y : Int) != 0)) ∧ w = w' := by
  go_enter Tryz.func138, Tryz.ntmps138
  go_wp2_with fail
  go_ret
  exact ⟨rfl, rfl⟩
set_option maxHeartbeats 1000000 in
set_option maxRecDepth 100000 in
theorem indexf_any {w : World} (v : Value) (m x : Nat) (hr : RO w v 1 m (wordsV m x)) (hm : m ≤ 100) : Calls Tryz.prog 139 #[v, .func (Fn.func 138) #[] #[]] w fun e w' => (∃ r : Int, e = .returned (.int .i64 r) ∧ (0 ≤ r ↔ ∃ i, i < m ∧ word x i ≠ 0)) ∧ w = w' := by
  obtain ⟨p, c, rfl⟩ := hr.form
  have hm' : (m : Int) ≤ 100 := by omega
  have H := Lib.hid hr
  clear hr
  go_enter Tryz.func139, Tryz.ntmps139
  go_wp2_with fail
  go_loop [8] (fun i => ∃ k : Nat, k ≤ m ∧ i = .int .i64 k ∧ ∀ j, j < k → word x j = 0) (fun i => m - (intOf i).toNat)
  case atStart => exact ⟨0, Nat.zero_le _, rfl, fun j hj => absurd hj (Nat.not_lt_zero _)⟩
  case round =>
    obtain ⟨k, hk, rfl, hno⟩ := hrel
    have HN := Lib.hid hno
    clear hno
    by_cases hlt : k < m
    · obtain ⟨b, o, rfl⟩ := H.out.sl (wordsV_at hlt)
      have f0 := H.out.cell (wordsV_at hlt)
      have hki : (k : Int) < m := by omega
      have hc := fun w => ne0_any (word x k) w
      by_cases h0 : word x k = 0
      · have h0' : (((word x k : Nat) : Int) != 0) = false := by simp [h0]
        have HC : Hid (∀ w, Calls Tryz.prog 138 #[.int .u64 ((word x k : Nat) : Int)] w fun e w' => e = .returned (.bool false) ∧ w = w') := Lib.hid fun w => by have := hc w; rwa [h0'] at this
        have H0 := Lib.hid (show (fun j => word x j) k = 0 from h0)
        generalize word x k = y at *
        clear hc h0 h0'
        go_wp2_with fail
        refine (HC.out _).mono ?_; rintro e w' ⟨rfl, rfl⟩
        go_wp2_with fail
        go_round
        case rel => exact ⟨k + 1, by omega, by go_num, fun j hj => by
                      by_cases e : j = k
                      · subst e; exact H0.out
                      · exact HN.out j (by omega)⟩
        case measure => simp [intOf]; omega
      · have h0' : (((word x k : Nat) : Int) != 0) = true := by simp [h0]
        have HC : Hid (∀ w, Calls Tryz.prog 138 #[.int .u64 ((word x k : Nat) : Int)] w fun e w' => e = .returned (.bool true) ∧ w = w') := Lib.hid fun w => by have := hc w; rwa [h0'] at this
        have H0 := Lib.hid (show (fun j => word x j) k ≠ 0 from h0)
        generalize word x k = y at *
        clear hc h0 h0'
        go_wp2_with fail
        refine (HC.out _).mono ?_; rintro e w' ⟨rfl, rfl⟩
        go_wp2_with fail
        go_ret
        exact ⟨⟨k, rfl, ⟨fun _ => ⟨k, hlt, H0.out⟩, fun _ => by omega⟩⟩, rfl⟩
    · obtain rfl : k = m := by omega
      clear hlt
      go_wp2_with fail
      go_ret
      exact ⟨⟨-1, rfl, ⟨fun h => by omega, fun ⟨i, hi, h⟩ => absurd (HN.out i hi) h⟩⟩, rfl⟩
theorem zero_words {x n : Nat} (hx : x < 2 ^ n) : x ≠ 0 ↔ ∃ i, i < wcount n ∧ word x i ≠ 0 := by
  constructor
  · intro h
    rcases Classical.em (∃ i, i < wcount n ∧ word x i ≠ 0) with h' | h'
    · exact h'
    · exact absurd (words_ext (m := wcount n) (Nat.lt_of_lt_of_le hx (Nat.pow_le_pow_right (by decide) (n_le_words n))) (Nat.pow_pos (by decide)) fun i hi => by
        rw [word_zero]
        rcases Nat.eq_zero_or_pos (word x i) with e | e
        · exact e
        · exact absurd ⟨i, hi, by omega⟩ h') h
  · rintro ⟨i, _, h⟩ rfl
    exact h (word_zero i)
def nz (x : Nat) : Bool := x != 0
theorem any_any {w : World} {v : Value} {n x : Nat} (h : VR w v n x) : Calls Tryz.prog 132 #[v] w fun e w' => e = .returned (.bool (nz x)) ∧ Below w.heap.size w w' := by
  have hz := zero_words h.lt
  obtain ⟨⟨p, c, rfl, hr⟩, _, hle⟩ := h
  have HI := Lib.hid (fun o => indexf_any _ (wcount n) x (hr.below (Below.new w o)) (by unfold wcount; omega))
  have HZ := Lib.hid hz
  clear hr hz
  go_enter Tryz.func132, Tryz.ntmps132
  go_wp2_with fail
  have hc : Calls Tryz.prog 137 #[.slice p (wcount n) c, .func (Fn.func 138) #[] #[]] (w.alloc (.cells #[.int .i64 n, .slice p (wcount n) c] 115)) fun e w' => e = .returned (.bool (nz x)) ∧ w.alloc (.cells #[.int .i64 n, .slice p (wcount n) c] 115) = w' := by
    go_enter Tryz.func137, Tryz.ntmps137
    go_wp2_with fail
    refine (HI.out _).mono ?_; rintro e w1 ⟨⟨r, rfl, hr⟩, rfl⟩
    have HR := Lib.hid hr
    clear hr
    go_wp2_with fail
    go_ret
    refine ⟨?_, rfl⟩
    have : decide (0 ≤ r) = nz x := by
      rw [Bool.eq_iff_iff, decide_eq_true_eq, HR.out, ← HZ.out]; simp [nz]
    rw [← this]; rfl
  refine hc.mono ?_; rintro e w1 ⟨rfl, rfl⟩
  clear hc
  go_wp2_with fail
  go_ret
  exact ⟨rfl, Below.new _ _⟩
end Go.Proofs.YtcjfelndnnhgjaaGreatDoor.L
