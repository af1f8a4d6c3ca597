
import Derived.Test.YtkoggfahjlnecaaGreatDoorRows
import Derived.Test.YtkoggfahjlnecaaGreatDoorVQ2
import Derived.Test.YtkoggfahjlnecaaGreatDoorVQ1
import Derived.StillTailTactics
import Derived.Deep.RegionHeld3
import Derived.IntWalk
import Derived.Laws.Externs
import Derived.Shelf.Bits.Mul64
namespace Go.Proofs.YtkoggfahjlnecaaGreatDoor
set_option linter.unusedVariables false
open Go.RowKit
/-- a world that is w with new blocks -/
structure After (w : World) where
  val : World
  below : Below w.heap.size w val
instance (w : World) : Nonempty (After w) := ⟨⟨w, Below.refl _ _⟩⟩
theorem After.cell {w : World} {a : Addr} {v : Value} (h : w.cell? a = some v) (s : After w) : s.val.cell? a = some v := (s.below.cell (World.block_lt_of_cell? _ _ h)).trans h
theorem wp_region_after {P : Program} {id : Nat} {Q : Exit → Act → World → Prop} {a : Act} {w : World} {l : List Oper} (hm : P.follows .mixedOrders = true) (hB : Region.lexB .any l.toArray = true)
    (h : wpQuiet P l.toArray (fun w' => ∃ s : After w, w' = s.val) (fun a' => ∀ w', (∃ s : After w, w' = s.val) → Q .normal a' w') l a) : (Code.region id l.toArray true).wp P Q a w :=
  wp_region_quiet (C := fun w' => ∃ s : After w, w' = s.val) hm hB ⟨⟨w.drew, (Below.refl _ _).drew⟩, rfl⟩ (by simpa using h)
theorem Calls.after_of {P : Program} {f : FuncId} {args : Array Value} {w : World} {s : After w} {v : Value}
    (h : Calls P f args s.val fun e w' => e = .returned v ∧ Below s.val.heap.size s.val w') : Calls P f args s.val fun e w'' => e = .returned v ∧ ∃ t : After w, w'' = t.val :=
  h.mono fun _ w' ⟨he, hb⟩ => ⟨he, ⟨w', s.below.trans (hb.mono s.below.size)⟩, rfl⟩
theorem Blk.drew {w : World} {b t l} (h : Blk w b t l) : Blk w.drew b t l := h
theorem Below.comp {B : Nat} {a b c : World} (h : Below B a b) (k : Below b.heap.size b c) (hB : B ≤ b.heap.size) : Below B a c := h.trans (k.mono hB)
theorem Below.next {a b c : World} (h : Below a.heap.size a b) (k : Below b.heap.size b c) : Below a.heap.size a c := h.trans (k.mono h.size)
theorem Below.new (w : World) (o : Obj) : Below w.heap.size w (w.alloc o) := (Below.refl _ _).alloc (Nat.le_refl _) o
theorem Below.more {B : Nat} {a b : World} (h : Below B a b) (hB : B ≤ b.heap.size) (o : Obj) : Below B a (b.alloc o) := h.alloc hB o
theorem kept_new {w w1 : World} {t : TypeId} {l : List Value} (hb : Below (w.alloc (.cells l.toArray t)).heap.size (w.alloc (.cells l.toArray t)) w1) : Blk w1 w.heap.size t l ∧ Below w.heap.size w w1 ∧ w.heap.size < w1.heap.size := by
  refine ⟨(Blk.new t l).below hb (by rw [World.size_alloc]; omega), (Below.new w _).trans (hb.mono (by rw [World.size_alloc]; omega)), ?_⟩
  have := hb.size
  rw [World.size_alloc] at this; omega
/-- how many words -/
def wcount (n : Nat) : Nat := (n + 63) / 64
def wordsV (m x : Nat) : List Value := (List.range m).map fun i => .int .u64 (word x i)
theorem wordsV_length (m x : Nat) : (wordsV m x).length = m := by simp [wordsV]
theorem wordsV_at {m x i : Nat} (h : i < m) : (wordsV m x)[i]? = some (.int .u64 (word x i)) := by simp [wordsV, h]
theorem wordsV_ext {m x y : Nat} (h : ∀ i, i < m → word x i = word y i) : wordsV m x = wordsV m y := by
  unfold wordsV
  apply List.map_congr_left
  intro i hi
  rw [h i (List.mem_range.1 hi)]
theorem wordsV_set {m x i y : Nat} (hy : y < 2 ^ 64) : (wordsV m x).set i (.int .u64 y) = wordsV m (setW x i y) := by
  apply List.ext_getElem?
  intro j
  rw [List.getElem?_set]
  by_cases hj : j < m
  · rw [wordsV_at hj, wordsV_at hj, setW_word x i y j hy, wordsV_length]
    by_cases e : i = j
    · subst e; simp [hj]
    · have : ¬ j = i := fun h => e h.symm
      simp [e, this]
  · have h1 : (wordsV m x)[j]? = none := List.getElem?_eq_none (by rw [wordsV_length]; omega)
    have h2 : (wordsV m (setW x i y))[j]? = none := List.getElem?_eq_none (by rw [wordsV_length]; omega)
    rw [h1, h2, wordsV_length]
    split
    · rw [if_neg (by omega)]
    · rfl
/-- v is the vector of width n that is the number x -/
structure VR (w : World) (v : Value) (n x : Nat) : Prop where
  ex : ∃ p c, v = .agg #[.int .i64 n, .slice p (wcount n) c] ∧ RO w (.slice p (wcount n) c) 1 (wcount n) (wordsV (wcount n) x)
  lt : x < 2 ^ n
  le : n ≤ 128
theorem VR.below {w w' : World} {v n x} (h : VR w v n x) (hb : Below w.heap.size w w') : VR w' v n x := by
  obtain ⟨⟨p, c, e, r⟩, h2, h3⟩ := h
  exact ⟨⟨p, c, e, r.below hb⟩, h2, h3⟩
/-- v is a vector of width n whose words lie in a block of its own, and are those of the number x -/
structure VO (w : World) (v : Value) (n x b : Nat) : Prop where
  e : v = .agg #[.int .i64 n, .slice (some ⟨b, 0, none⟩) (wcount n) (wcount n)]
  blk : Blk w b 55 (wordsV (wcount n) x)
  lt : x < 2 ^ (64 * wcount n)
  le : n ≤ 128
theorem n_le_words (n : Nat) : n ≤ 64 * wcount n := by unfold wcount; omega
theorem VO.vr {w v n x b} (h : VO w v n x b) (hx : x < 2 ^ n) : VR w v n x := by
  refine ⟨⟨_, _, h.e, by rw [wordsV_length, Nat.mul_one], _, _, rfl, fun j u hj => ⟨b, 0, rfl, ?_⟩⟩, hx, h.le⟩
  rw [Nat.zero_add]; exact h.blk.cell hj
theorem VO.below {w w' : World} {v n x b} (h : VO w v n x b) (hb : Below w.heap.size w w') : VO w' v n x b := ⟨h.e, h.blk.below hb h.blk.lt, h.lt, h.le⟩
theorem VO.set {w : World} {v n x b} (h : VO w v n x b) {i y : Nat} (hi : i < wcount n) (hy : y < 2 ^ 64) : VO (w.setCell ⟨b, i, none⟩ (.int .u64 y)) v n (setW x i y) b :=
  ⟨h.e, by have := h.blk.set i (.int .u64 y); rwa [wordsV_set hy] at this, setW_lt h.lt hi hy, h.le⟩
theorem VO.congr {w : World} {v n x y b} (h : VO w v n x b) (hy : y < 2 ^ (64 * wcount n)) (he : ∀ i, i < wcount n → word x i = word y i) : VO w v n y b := by
  obtain rfl := words_ext h.lt hy he; exact h
/-- a word is read -/
theorem VR.word {w v n x} (h : VR w v n x) {i : Nat} (hi : i < wcount n) : ∃ b o c, v = .agg #[.int .i64 n, .slice (some ⟨b, o, none⟩) (wcount n) c] ∧ w.cell? ⟨b, o + i, none⟩ = some (.int .u64 (Go.Proofs.YtkoggfahjlnecaaGreatDoor.word x i)) := by
  obtain ⟨⟨p, c, rfl, hr⟩, _, _⟩ := h
  obtain ⟨b, o, rfl⟩ := hr.sl (wordsV_at hi)
  exact ⟨b, o, c, rfl, hr.cell (wordsV_at hi)⟩
theorem good_any (n : Int) (w : World) : Calls Tryz.prog 23 #[.int .i64 n] w fun e w' => e = .returned (.bool (decide (1 ≤ n) && decide (n ≤ 128))) ∧ w = w' := by
  by_cases h1 : 1 ≤ n
  · by_cases h2 : n ≤ 128
    · have e : (decide (1 ≤ n) && decide (n ≤ 128)) = true := by simp [h1, h2]
      rw [e]
      clear e
      go_enter Tryz.func23, Tryz.ntmps23
      go_wp2_with fail
      go_ret
      exact ⟨by simp, rfl⟩
    · have h2' : 128 < n := by omega
      have e : (decide (1 ≤ n) && decide (n ≤ 128)) = false := by simp [h2]
      rw [e]
      clear e h2
      go_enter Tryz.func23, Tryz.ntmps23
      go_wp2_with fail
      go_ret
      exact ⟨by simp; omega, rfl⟩
  · have h2' : n < 1 := by omega
    have e : decide (1 ≤ n) = false := decide_eq_false h1
    rw [e, Bool.false_and]
    clear h1 e
    go_enter Tryz.func23, Tryz.ntmps23
    go_wp2_with fail
    go_ret
    exact ⟨rfl, rfl⟩
theorem width_any {w v n x} (h : VR w v n x) : Calls Tryz.prog 10 #[v] w fun e w' => e = .returned (.int .i64 n) ∧ Below w.heap.size w w' := by
  obtain ⟨⟨p, c, rfl, _⟩, _, _⟩ := h
  go_enter Tryz.func10, Tryz.ntmps10
  go_wp2_with fail
  go_ret
  exact ⟨rfl, Below.new _ _⟩
theorem count_any (n : Nat) (w : World) (hn : n ≤ 1000000) : Calls Tryz.prog 52 #[.int .i64 n] w fun e w' => e = .returned (.int .i64 (wcount n)) ∧ w = w' := by
  have h : (n : Int) ≤ 1000000 := by omega
  have hw : Hid ((wcount n : Int) = ((n : Int) + 64 - 1) / 64) := Lib.hid (by unfold wcount; omega)
  clear hn
  go_enter Tryz.func52, Tryz.ntmps52
  go_wp2_with fail
  go_ret
  exact ⟨by rw [hw.out]; rfl, rfl⟩
end Go.Proofs.YtkoggfahjlnecaaGreatDoor
namespace Go.Proofs.YtkoggfahjlnecaaGreatDoor
set_option linter.unusedVariables false
open Go.RowKit
theorem pow_lt (k : Nat) (hk : k < 64) : (2 ^ k : Nat) < 18446744073709551616 := Nat.pow_lt_pow_right (n := 64) (by decide) hk
theorem u64_pow (k : Nat) (hk : k < 64) : IntKind.u64.wrap (2 ^ k) = ((2 ^ k : Nat) : Int) := by
  rw [IntKind.wrap_u64]
  have h := pow_lt k hk
  rw [show ((2 : Int) ^ k) = ((2 ^ k : Nat) : Int) by simp]
  generalize 2 ^ k = y at *
  omega
theorem u64_clr (W k : Nat) (hW : W < 2 ^ 64) (hk : k < 64) : bits .andNot .u64 (W : Int) (IntKind.u64.wrap (2 ^ k)) = ((setB W k false : Nat) : Int) := by
  rw [u64_pow k hk, ← setB_andNot W k hW hk]; exact u64_andNot_nat W _ hW (pow_lt k hk)
theorem u64_put (W k : Nat) (hW : W < 2 ^ 64) (hk : k < 64) : bits .or .u64 (W : Int) (IntKind.u64.wrap (2 ^ k)) = ((setB W k true : Nat) : Int) := by
  rw [u64_pow k hk, ← setB_or]; exact u64_or_nat W _ hW (pow_lt k hk)
theorem VO.setBit {w : World} {v : Value} {n x b : Nat} (h : VO w v n x b) (i : Nat) (is : Bool) (hi : i < n) : VO (w.setCell ⟨b, i / 64, none⟩ (.int .u64 ((setB (word x (i / 64)) (i % 64) is : Nat) : Int))) v n (setB x i is) b := by
  have hk : i / 64 < wcount n := by unfold wcount; omega
  have hy : setB (word x (i / 64)) (i % 64) is < 2 ^ 64 := setB_lt is (word_lt _ _) (Nat.mod_lt _ (by decide))
  refine (h.set hk hy).congr (setB_lt is h.lt (by have := n_le_words n; omega)) fun j _ => ?_
  rw [setW_word _ _ _ _ hy, setB_word]
  by_cases e : j = i / 64
  · subst e; rfl
  · rw [if_neg e, if_neg e]
theorem grown_set (w : World) (o : Obj) (b i : Nat) (u : Value) (hb : b < w.heap.size) : w.grownBy ((w.alloc o).setCell ⟨b, i, none⟩ u).drew (some b) := by
  refine ⟨rfl, rfl, rfl, ?_, fun k hk hne => ?_⟩
  · show w.heap.size ≤ ((w.alloc o).setCell _ _).heap.size
    simp
  · show ((w.alloc o).setCell _ _).heap[k]? = _
    rw [Below.heap_setCell _ _ _ _ (fun e => hne (by rw [e]))]
    exact heap_alloc_old _ _ hk
set_option maxRecDepth 100000 in
set_option maxHeartbeats 1000000 in
theorem set_any {w : World} {v : Value} {n x b : Nat} (h : VO w v n x b) (i : Nat) (is : Bool) (hi : i < n) :
    Calls Tryz.prog 76 #[v, .int .i64 i, .bool is] w fun e w' => e = .returned (.tuple #[]) ∧ VO w' v n (setB x i is) b ∧ w.grownBy w' (some b) := by
  have HV := Lib.hid (fun o => h.below (Below.new w o))
  obtain ⟨rfl, hb, hx, hn⟩ := h
  have hk : i / 64 < wcount n := by unfold wcount; omega
  have hlt := hb.lt
  have hc := (hb.alloc (.cells #[.int .i64 n, .slice (some ⟨b, 0, none⟩) (wcount n) (wcount n)] 39)).cell (wordsV_at hk)
  have hf := (hb.alloc (.cells #[.int .i64 n, .slice (some ⟨b, 0, none⟩) (wcount n) (wcount n)] 39)).frz (i / 64)
  have hp0 := (Blk.new (w := w) 39 [.int .i64 n, .slice (some ⟨b, 0, none⟩) (wcount n) (wcount n)]).cell (i := 0) rfl
  have hp1 := (Blk.new (w := w) 39 [.int .i64 n, .slice (some ⟨b, 0, none⟩) (wcount n) (wcount n)]).cell (i := 1) rfl


  have hi' : (i : Int) ≤ 128 := by omega
  have q1 : (0 : Int) ≤ (i : Int) / 64 := by omega
  have q2 : (i : Int) / 64 < (wcount n : Int) := by omega
  have q3 : ((i : Int) / 64).toNat = i / 64 := by omega
  have q4 : (0 : Int) ≤ (i : Int) % 64 := by omega
  have q5 : ((i : Int) % 64).toNat = i % 64 := by omega
  have q6 : (i : Int).tmod 64 = (i : Int) % 64 := Int.tmod_eq_emod_of_nonneg (by omega)
  have q0 : IntKind.i64.wrap ((i : Int) / 64) = (i : Int) / 64 := IntWalk.i64_in _ (by omega)


  go_enter Tryz.func76, Tryz.ntmps76
  have hu0 := Lib.hid (u64_clr (word x (i / 64)) (i % 64) (word_lt _ _) (Nat.mod_lt _ (by decide)))
  have hu1 := Lib.hid (u64_put (word x (i / 64)) (i % 64) (word_lt _ _) (Nat.mod_lt _ (by decide)))
  have HG := Lib.hid (fun o y => grown_set w o b (i / 64) y hlt)
  have HI := Lib.hid hi
  clear hb hx hi hn hk
  cases is
  all_goals
    go_wp2_with fail
    have HV2 := Lib.hid ((HV.out (.cells #[.int .i64 n, .slice (some ⟨b, 0, none⟩) (wcount n) (wcount n)] 39)).setBit i)
    have HG2 := Lib.hid (HG.out (.cells #[.int .i64 n, .slice (some ⟨b, 0, none⟩) (wcount n) (wcount n)] 39))
    generalize w.alloc (.cells #[.int .i64 n, .slice (some ⟨b, 0, none⟩) (wcount n) (wcount n)] 39) = W at *
    refine wp_region_still_tail 11 (by kernel_rfl) (by kernel_rfl) ?_
    simp only [List.take_succ_cons, List.take_zero, List.drop_succ_cons, List.drop_zero]
    change wpStill _ _ W.drew (fun a' => wpList _ _ _ _ a' W.drew) _ _
    repeat still_step
    refine wpStill_nil ?_
    go_wp2_with fail
    first | rw [hu0.out] | rw [hu1.out]
    go_end0
    exact ⟨rfl, (HV2.out _ HI.out).below ((Below.refl _ _).drew), HG2.out _⟩
end Go.Proofs.YtkoggfahjlnecaaGreatDoor
namespace Go.Proofs.YtkoggfahjlnecaaGreatDoor
set_option linter.unusedVariables false
open Go.RowKit
theorem u64_mask (W k : Nat) (hW : W < 2 ^ 64) (hk : k < 64) : bits .and .u64 (W : Int) (IntKind.u64.wrap (IntKind.u64.wrap (2 ^ k) - 1)) = ((W % 2 ^ k : Nat) : Int) := by
  have h := pow_lt k hk
  have h1 : 0 < 2 ^ k := Nat.pow_pos (by decide)
  have e : IntKind.u64.wrap (IntKind.u64.wrap (2 ^ k) - 1) = ((2 ^ k - 1 : Nat) : Int) := by
    rw [u64_pow k hk, IntKind.wrap_u64]
    generalize 2 ^ k = y at *
    omega
  rw [e, u64_and_nat W _ hW (by omega), Nat.and_two_pow_sub_one_eq_mod]
theorem VO.cutTo {w : World} {v : Value} {n x b : Nat} (h : VO w v n x b) (hn : n % 64 ≠ 0) : VO (w.setCell ⟨b, wcount n - 1, none⟩ (.int .u64 ((word x (wcount n - 1) % 2 ^ (n % 64) : Nat) : Int))) v n (x % 2 ^ n) b := by
  have hk : wcount n - 1 < wcount n := by unfold wcount; omega
  have hy : word x (wcount n - 1) % 2 ^ (n % 64) < 2 ^ 64 := Nat.lt_of_le_of_lt (Nat.mod_le _ _) (word_lt _ _)
  refine (h.set hk hy).congr ?_ fun j hj => ?_
  · exact Nat.lt_of_lt_of_le (Nat.mod_lt _ (Nat.pow_pos (by decide))) (Nat.pow_le_pow_right (by decide) (n_le_words n))
  · have e : wcount n - 1 = n / 64 := by unfold wcount; omega
    rw [setW_word _ _ _ _ hy, mod_word, e]
    by_cases e1 : j = n / 64
    · subst e1; simp
    · have : j < n / 64 := by omega
      rw [if_neg e1, if_pos this]
theorem grown_refl (w : World) (r : Option Nat) : w.grownBy w r := ⟨rfl, rfl, rfl, Nat.le_refl _, fun _ _ _ => rfl⟩
theorem grown_trans {a b c : World} {r : Option Nat} (h : a.grownBy b r) (k : b.grownBy c r) : a.grownBy c r :=
  ⟨k.os.trans h.os, k.tape.trans h.tape, k.output.trans h.output, Nat.le_trans h.size k.size, fun i hi hn => (k.block i (Nat.lt_of_lt_of_le hi h.size) hn).trans (h.block i hi hn)⟩
theorem grown_below {a b : World} {B : Nat} (h : Below B a b) (hB : a.heap.size ≤ B) (r : Option Nat) : a.grownBy b r := ⟨h.os, h.tape, h.output, h.size, fun k hk _ => h.block k (Nat.lt_of_lt_of_le hk hB)⟩
theorem grown_cell (w : World) (b i : Nat) (u : Value) : w.grownBy (w.setCell ⟨b, i, none⟩ u) (some b) := by
  refine ⟨rfl, rfl, rfl, ?_, fun k hk hne => Below.heap_setCell _ _ _ _ (fun e => hne (by rw [e]))⟩
  simp
theorem grown_alloc {w W : World} {r : Option Nat} (h : w.grownBy W r) (o : Obj) : w.grownBy (W.alloc o) r :=
  ⟨h.os, h.tape, h.output, by rw [World.size_alloc]; exact Nat.le_succ_of_le h.size, fun k hk hne => (heap_alloc_old _ _ (Nat.lt_of_lt_of_le hk h.size)).trans (h.block k hk hne)⟩
theorem grown_setNew {w W : World} {r : Option Nat} (h : w.grownBy W r) {a : Addr} (ha : w.heap.size ≤ a.block) (u : Value) : w.grownBy (W.setCell a u) r :=
  ⟨h.os, h.tape, h.output, by rw [World.size_setCell]; exact h.size, fun k hk hne => (Below.heap_setCell _ _ _ _ (by omega)).trans (h.block k hk hne)⟩
theorem grown_setOwn {w W : World} {b : Nat} (h : w.grownBy W (some b)) (i : Nat) (u : Value) : w.grownBy (W.setCell ⟨b, i, none⟩ u) (some b) :=
  ⟨h.os, h.tape, h.output, by rw [World.size_setCell]; exact h.size, fun k hk hne => (Below.heap_setCell _ _ _ _ (fun e => hne (by rw [e]))).trans (h.block k hk hne)⟩
theorem grown_drew {w W : World} {r : Option Nat} (h : w.grownBy W r) : w.grownBy W.drew r := ⟨h.os, h.tape, h.output, h.size, h.block⟩
theorem VO.other {w : World} {v n x b} (h : VO w v n x b) {a : Addr} (ha : b ≠ a.block) (u : Value) : VO (w.setCell a u) v n x b := ⟨h.e, h.blk.other u ha, h.lt, h.le⟩
theorem VO.drew {w : World} {v n x b} (h : VO w v n x b) : VO w.drew v n x b := ⟨h.e, h.blk, h.lt, h.le⟩
theorem below_grown {B : Nat} {a b c : World} {g : Nat} (h : Below B a b) (k : b.grownBy c (some g)) (hB : B ≤ b.heap.size) (hg : B ≤ g) : Below B a c :=
  h.grown k hB fun i hi => by
    simp only [Option.some.injEq] at hi
    omega
set_option maxRecDepth 100000 in
set_option maxHeartbeats 1000000 in
theorem cut_any {w : World} {v : Value} {n x b : Nat} (h : VO w v n x b) (hn : 0 < n) :
    Calls Tryz.prog 25 #[v] w fun e w' => e = .returned v ∧ VO w' v n (x % 2 ^ n) b ∧ w.grownBy w' (some b) := by
  have HV := Lib.hid h
  obtain ⟨rfl, hb, hx, hle⟩ := h
  have hni : (n : Int) ≤ 128 := by omega
  have q6 : (n : Int).tmod 64 = (n : Int) % 64 := Int.tmod_eq_emod_of_nonneg (by omega)
  have hlt := hb.lt
  by_cases hr : n % 64 = 0
  · have hr' : (n : Int) % 64 = 0 := by omega
    have hr2 : (((n : Int) % 64) == 0) = true := by simp [hr']
    have he : Hid (x % 2 ^ n = x) := Lib.hid (Nat.mod_eq_of_lt (by have : 64 * wcount n = n := by unfold wcount; omega
                                                                   rw [this] at hx; exact hx))
    clear hb hx hr hr'
    go_enter Tryz.func25, Tryz.ntmps25
    go_wp2_with fail
    refine bodyPost_ret (v := .agg #[.int .i64 n, .slice (some ⟨b, 0, none⟩) (wcount n) (wcount n)]) (by simp [results, Tryz.results25, go_sem]) rfl ⟨rfl, ?_, ?_⟩
    · rw [he.out]; exact (HV.out.below (Below.new _ _)).below (Below.new _ _)
    · exact grown_below (((Below.new _ _).alloc (by simp) _)) (Nat.le_refl _) _
  · have hr' : ¬ (n : Int) % 64 = 0 := by omega
    have hr2 : (((n : Int) % 64) != 0) = true := by simp [hr']
    have q1 : (0 : Int) ≤ (n : Int) % 64 := by omega
    have q2 : ((n : Int) % 64).toNat = n % 64 := by omega
    have q3 : (0 : Int) ≤ (wcount n : Int) - 1 := by unfold wcount; omega
    have q4 : ((wcount n : Int) - 1) < wcount n := by omega
    have q7 : (1 : Int) ≤ (wcount n : Int) := by omega
    have q5 : ((wcount n : Int) - 1).toNat = wcount n - 1 := by omega
    have q0 : IntKind.i64.wrap ((wcount n : Int) - 1) = (wcount n : Int) - 1 := IntWalk.i64_in _ (by unfold wcount; omega)
    have hk : wcount n - 1 < wcount n := by unfold wcount; omega
    have hc := ((hb.alloc (.cells #[.int .i64 n, .slice (some ⟨b, 0, none⟩) (wcount n) (wcount n)] 39)).alloc (.cells #[.int .i64 0, .slice none 0 0] 39)).cell (wordsV_at hk)
    have hf := ((hb.alloc (.cells #[.int .i64 n, .slice (some ⟨b, 0, none⟩) (wcount n) (wcount n)] 39)).alloc (.cells #[.int .i64 0, .slice none 0 0] 39)).frz (wcount n - 1)
    have hk0 := (Blk.new (w := w) 39 [.int .i64 n, .slice (some ⟨b, 0, none⟩) (wcount n) (wcount n)]).alloc (.cells #[.int .i64 0, .slice none 0 0] 39)
    have hk1 := Blk.new (w := w.alloc (.cells #[.int .i64 n, .slice (some ⟨b, 0, none⟩) (wcount n) (wcount n)] 39)) 39 [.int .i64 0, .slice none 0 0]
    rw [World.size_alloc] at hk1
    have hp0 := hk0.cell (i := 0) rfl
    have hp1 := hk0.cell (i := 1) rfl
    have r0 := hk1.cell (i := 0) rfl
    have r1 := hk1.cell (i := 1) rfl
    have rf0 := hk1.frz 0
    have rf1 := hk1.frz 1
    have hu := Lib.hid (u64_mask (word x (wcount n - 1)) (n % 64) (word_lt _ _) (Nat.mod_lt _ (by decide)))
    have HR := Lib.hid hr
    have hW := (HV.out.below (Below.new w (.cells #[.int .i64 n, .slice (some ⟨b, 0, none⟩) (wcount n) (wcount n)] 39))).below (Below.new _ (.cells #[.int .i64 0, .slice none 0 0] 39))
    have hgW : w.grownBy ((w.alloc (.cells #[.int .i64 n, .slice (some ⟨b, 0, none⟩) (wcount n) (wcount n)] 39)).alloc (.cells #[.int .i64 0, .slice none 0 0] 39)) (some b) := grown_below (((Below.new _ _).alloc (by simp) _)) (Nat.le_refl _) _
    have HW := Lib.hid (And.intro hW hgW)
    have hsz : ((w.alloc (.cells #[.int .i64 n, .slice (some ⟨b, 0, none⟩) (wcount n) (wcount n)] 39)).alloc (.cells #[.int .i64 0, .slice none 0 0] 39)).heap.size = w.heap.size + 1 + 1 := by simp
    have HS := Lib.hid (And.intro hsz (And.intro hk0 hk1))
    clear hb hx hr hr' hn hle hni hW hgW hk hsz hk0 hk1
    go_enter Tryz.func25, Tryz.ntmps25
    go_wp2_with fail
    generalize (w.alloc (.cells #[.int .i64 n, .slice (some ⟨b, 0, none⟩) (wcount n) (wcount n)] 39)).alloc (.cells #[.int .i64 0, .slice none 0 0] 39) = W at *
    refine wp_region_still_tail 13 (by kernel_rfl) (by kernel_rfl) ?_
    simp only [List.take_succ_cons, List.take_zero, List.drop_succ_cons, List.drop_zero]
    change wpStill _ _ W.drew (fun a' => wpList _ _ _ _ a' W.drew) _ _
    repeat still_step
    refine wpStill_nil ?_
    go_wp2_with fail
    rw [hu.out]
    have hV2 := ((HW.out.1.cutTo HR.out).other (a := ⟨w.heap.size + 1, 0, none⟩) (by show b ≠ w.heap.size + 1; omega) (.int .i64 n)).other (a := ⟨w.heap.size + 1, 1, none⟩) (by show b ≠ w.heap.size + 1; omega) (.slice (some ⟨b, 0, none⟩) (wcount n) (wcount n))
    have hG2 := grown_setNew (grown_setNew (grown_setOwn HW.out.2 (wcount n - 1) (.int .u64 ((word x (wcount n - 1) % 2 ^ (n % 64) : Nat) : Int))) (a := ⟨w.heap.size + 1, 0, none⟩) (Nat.le_succ _) (.int .i64 n)) (a := ⟨w.heap.size + 1, 1, none⟩) (Nat.le_succ _) (.slice (some ⟨b, 0, none⟩) (wcount n) (wcount n))
    have hk2 := ((HS.out.2.2.other (a := ⟨b, wcount n - 1, none⟩) (.int .u64 ((word x (wcount n - 1) % 2 ^ (n % 64) : Nat) : Int)) (by show w.heap.size + 1 ≠ b; omega)).set 0 (.int .i64 n)).set 1 (.slice (some ⟨b, 0, none⟩) (wcount n) (wcount n))
    generalize ((W.setCell ⟨b, wcount n - 1, none⟩ (.int .u64 ((word x (wcount n - 1) % 2 ^ (n % 64) : Nat) : Int))).setCell ⟨w.heap.size + 1, 0, none⟩ (.int .i64 n)).setCell ⟨w.heap.size + 1, 1, none⟩ (.slice (some ⟨b, 0, none⟩) (wcount n) (wcount n)) = W2 at *
    have e0 := hk2.cell (i := 0) (u := .int .i64 n) rfl
    have e1 := hk2.cell (i := 1) (u := .slice (some ⟨b, 0, none⟩) (wcount n) (wcount n)) rfl
    refine bodyPost_ret (v := .agg #[.int .i64 n, .slice (some ⟨b, 0, none⟩) (wcount n) (wcount n)]) (by simp [results, Tryz.results25, go_sem, e0, e1]) rfl ⟨rfl, hV2.drew, grown_drew hG2⟩
end Go.Proofs.YtkoggfahjlnecaaGreatDoor
namespace Go.Proofs.YtkoggfahjlnecaaGreatDoor
set_option linter.unusedVariables false
open Go.RowKit
theorem Tryz.info22 : (Tryz.prog.info? 55).map (fun i => (i.zero, i.size, i.bytes)) = some (some (.int .u64 0), 1, 8) := by kernel_rfl
theorem wordsV_zero (m : Nat) : wordsV m 0 = List.replicate m (.int .u64 0) := by
  apply List.ext_getElem?
  intro i
  by_cases h : i < m
  · rw [wordsV_at h, List.getElem?_replicate, if_pos h, word_zero]; rfl
  · rw [List.getElem?_eq_none (by rw [wordsV_length]; omega), List.getElem?_eq_none (by simp; omega)]
set_option maxRecDepth 100000 in
theorem mk_words (n : Nat) (hn : n ≤ 1000000) (w : World) : (Instr.makeSlice 37 (.int .i64 n) (.int .i64 n)).run Tryz.prog w = .ok (.slice (some ⟨w.heap.size, 0, none⟩) n n) (w.alloc (.cells (wordsV n 0).toArray 55)) := by
  obtain ⟨i0, hi, hz0, hz1, hz2⟩ := info_parts Tryz.info22
  have h := run_make (P := Tryz.prog) w 37 55 i0 _ Tryz.underlying37 hi hz0 .i64 .i64 n n (by omega) (by omega) (by rw [hz2]; omega) (by omega)
  rw [h, hz1]
  simp only [Int.toNat_natCast, Nat.mul_one, Value.cells]
  congr 3
  apply Array.ext'
  rw [toList_madeCells_one, wordsV_zero]
theorem VO.fresh {w : World} {n : Nat} (hn : n ≤ 128) : VO (w.alloc (.cells (wordsV (wcount n) 0).toArray 55)) (.agg #[.int .i64 n, .slice (some ⟨w.heap.size, 0, none⟩) (wcount n) (wcount n)]) n 0 w.heap.size :=
  ⟨rfl, Blk.new 55 _, Nat.pow_pos (by decide), hn⟩
/-- what blank gives: a new vector, all bits 0 -/
def Fresh (w : World) (n x : Nat) (e : Ending) (w' : World) : Prop := ∃ v b, e = .returned v ∧ VO w' v n x b ∧ w.heap.size ≤ b ∧ Below w.heap.size w w'
set_option maxRecDepth 100000 in
set_option maxHeartbeats 1000000 in
theorem blank_any {w : World} (n : Nat) (hn : n ≤ 128) : Calls Tryz.prog 24 #[.int .i64 n] w (Fresh w n 0) := by
  have HC := Lib.hid (fun w => count_any n w (by omega))
  have hmk := fun w => mk_words (wcount n) (by unfold wcount; omega) w
  have hni : (n : Int) ≤ 128 := by omega
  have hk0 := (Blk.new (w := w) 39 [.int .i64 0, .slice none 0 0]).alloc (.cells (wordsV (wcount n) 0).toArray 55)
  have hV := VO.fresh (w := w.alloc (.cells #[.int .i64 0, .slice none 0 0] 39)) hn
  have hB : Below w.heap.size w ((w.alloc (.cells #[.int .i64 0, .slice none 0 0] 39)).alloc (.cells (wordsV (wcount n) 0).toArray 55)) := (Below.new _ _).alloc (by simp) _
  rw [World.size_alloc] at hV
  have HH := Lib.hid (And.intro hk0 (And.intro hV hB))
  have HN := Lib.hid hn
  clear hk0 hV hB hn
  go_enter Tryz.func24, Tryz.ntmps24
  go_wp2_with fail
  refine (HC.out _).mono ?_; rintro e w' ⟨rfl, rfl⟩
  have r0 := HH.out.1.cell (i := 0) rfl
  have r1 := HH.out.1.cell (i := 1) rfl
  have rf0 := HH.out.1.frz 0
  have rf1 := HH.out.1.frz 1
  go_wp2_with fail
  have hk2 := (Blk.new (w := w) 39 [.int .i64 n, .slice (some ⟨w.heap.size + 1, 0, none⟩) (wcount n) (wcount n)]).alloc (.cells (wordsV (wcount n) 0).toArray 55)
  have hV2 := VO.fresh (w := w.alloc (.cells #[.int .i64 n, .slice (some ⟨w.heap.size + 1, 0, none⟩) (wcount n) (wcount n)] 39)) HN.out
  rw [World.size_alloc] at hV2
  have hB2 : Below w.heap.size w ((w.alloc (.cells #[.int .i64 n, .slice (some ⟨w.heap.size + 1, 0, none⟩) (wcount n) (wcount n)] 39)).alloc (.cells (wordsV (wcount n) 0).toArray 55)) := (Below.new _ _).alloc (by simp) _
  generalize (w.alloc (.cells #[.int .i64 n, .slice (some ⟨w.heap.size + 1, 0, none⟩) (wcount n) (wcount n)] 39)).alloc (.cells (wordsV (wcount n) 0).toArray 55) = W2 at *
  have e0 := hk2.cell (i := 0) (u := .int .i64 n) rfl
  have e1 := hk2.cell (i := 1) (u := .slice (some ⟨w.heap.size + 1, 0, none⟩) (wcount n) (wcount n)) rfl
  exact bodyPost_ret (v := .agg #[.int .i64 n, .slice (some ⟨w.heap.size + 1, 0, none⟩) (wcount n) (wcount n)]) (by simp [results, Tryz.results24, go_sem, e0, e1]) rfl ⟨_, _, rfl, hV2, Nat.le_succ _, hB2⟩
end Go.Proofs.YtkoggfahjlnecaaGreatDoor
namespace Go.Proofs.YtkoggfahjlnecaaGreatDoor
set_option linter.unusedVariables false
open Go.RowKit
set_option maxRecDepth 100000 in
theorem add64_run (x y c : Nat) (hc : c ≤ 1) (w : World) :
    (callFunc 117 #[.int .u64 x, .int .u64 y, .int .u64 c]).run Tryz.prog w =
      .ok (.value (.tuple #[.int .u64 (((x + y + c) % 18446744073709551616 : Nat) : Int), .int .u64 (((x + y + c) / 18446744073709551616 : Nat) : Int)])) w := by
  rw [run_callFunc_extern Tryz.func117 (by kernel_rfl) (by kernel_rfl) (by kernel_rfl) (e := add64Entry) (by kernel_rfl), run_add64 x y c (by omega) (by omega) (by omega) (by omega)]
  simp only [Result.andThen]
  congr 5 <;> omega
set_option maxHeartbeats 1000000 in
set_option maxRecDepth 100000 in
theorem mul64_any (x y : Nat) (hx : x < 18446744073709551616) (hy : y < 18446744073709551616) (w : World) :
    Calls Tryz.prog 118 #[.int .u64 x, .int .u64 y] w fun e w' => e = .returned (.tuple #[.int .u64 ((x * y / 18446744073709551616 : Nat) : Int), .int .u64 ((x * y % 18446744073709551616 : Nat) : Int)]) ∧ w' = w := by
  obtain ⟨bd, bt, bw, hhi⟩ := Lib.mul64_hi x y hx hy
  have ba := Lib.half_mul_le (a := x / 4294967296) (b := y / 4294967296) (by omega) (by omega)
  have bb := Lib.half_mul_le (a := x / 4294967296) (b := y % 4294967296) (by omega) (by omega)
  have bc := Lib.half_mul_le (a := x % 4294967296) (b := y / 4294967296) (by omega) (by omega)
  have ba' : x / 4294967296 * (y / 4294967296) < 18446744073709551616 := by omega
  have bb' : x / 4294967296 * (y % 4294967296) < 18446744073709551616 := by omega
  have bc' : x % 4294967296 * (y / 4294967296) < 18446744073709551616 := by omega
  have bh1 : x / 4294967296 * (y / 4294967296) + (x / 4294967296 * (y % 4294967296) + x % 4294967296 * (y % 4294967296) / 4294967296) / 4294967296 < 18446744073709551616 := by omega
  have bh : x / 4294967296 * (y / 4294967296) + (x / 4294967296 * (y % 4294967296) + x % 4294967296 * (y % 4294967296) / 4294967296) / 4294967296 + ((x / 4294967296 * (y % 4294967296) + x % 4294967296 * (y % 4294967296) / 4294967296) % 4294967296 + x % 4294967296 * (y / 4294967296)) / 4294967296 < 18446744073709551616 := by omega
  go_enter Tryz.func118, Tryz.ntmps118
  go_wp2
  simp only [Mul64.maskN x hx, Mul64.maskN y hy, Mul64.divN, Mul64.mulN, Mul64.addN, Mul64.wrapN _ bd, Mul64.wrapN _ bb', Mul64.wrapN _ bt, Mul64.maskN _ bt, Mul64.wrapN _ bc', Mul64.wrapN _ bw, Mul64.wrapN _ ba', Mul64.wrapN _ bh1, Mul64.wrapN _ bh, Mul64.wrapM (x * y)]
  rw [hhi]
  go_ret2
  exact ⟨rfl, rfl⟩
/-- the value of a vector whose words lie in block b -/
def vecO (n b : Nat) : Value := .agg #[.int .i64 n, .slice (some ⟨b, 0, none⟩) (wcount n) (wcount n)]
/-- a vector is being made in block b, beside the blocks bs of the function's own -/
structure Bld (w : World) (bs : List (Nat × List Value)) (n x b : Nat) (wr : World) : Prop where
  bx : ∀ p ∈ bs, Blk wr p.1 39 p.2 ∧ p.1 ≠ b
  vo : VO wr (vecO n b) n x b
  bel : Below w.heap.size w wr
  ge : w.heap.size ≤ b
theorem Bld.box {w bs n x b wr} (h : Bld w bs n x b wr) {p : Nat × List Value} (hp : p ∈ bs) : Blk wr p.1 39 p.2 := (h.bx p hp).1
theorem Bld.grown {w bs n x y b wr w'} (h : Bld w bs n x b wr) (hg : wr.grownBy w' (some b)) (hv : VO w' (vecO n b) n y b) : Bld w bs n y b w' := by
  refine ⟨fun p hp => ?_, hv, below_grown h.bel hg h.bel.size h.ge, h.ge⟩
  obtain ⟨h1, h2⟩ := h.bx p hp
  refine ⟨?_, h2⟩
  unfold Blk at *
  rw [hg.block p.1 (some_lt h1) (by simpa using h2)]; exact h1
theorem Bld.below {w bs n x b wr w'} (h : Bld w bs n x b wr) (hb : Below wr.heap.size wr w') : Bld w bs n x b w' :=
  ⟨fun p hp => ⟨(h.bx p hp).1.below hb (h.bx p hp).1.lt, (h.bx p hp).2⟩, h.vo.below hb, h.bel.trans (hb.mono h.bel.size), h.ge⟩
theorem Bld.drew {w bs n x b wr} (h : Bld w bs n x b wr) : Bld w bs n x b wr.drew := h.below (Below.refl _ _).drew
theorem Bld.alloc {w bs n x b wr} (h : Bld w bs n x b wr) (o : Obj) : Bld w bs n x b (wr.alloc o) := h.below (Below.new _ _)
theorem Bld.word {w bs n x b wr} (h : Bld w bs n x b wr) {i y : Nat} (hi : i < wcount n) (hy : y < 2 ^ 64) : Bld w bs n (setW x i y) b (wr.setCell ⟨b, i, none⟩ (.int .u64 y)) :=
  h.grown (grown_cell _ _ _ _) (h.vo.set hi hy)
theorem Bld.congr {w bs n x y b wr} (h : Bld w bs n x b wr) (hy : y < 2 ^ (64 * wcount n)) (he : ∀ i, i < wcount n → YtkoggfahjlnecaaGreatDoor.word x i = YtkoggfahjlnecaaGreatDoor.word y i) : Bld w bs n y b wr := ⟨h.bx, h.vo.congr hy he, h.bel, h.ge⟩
/-- .. at the start: behind blank -/
theorem Bld.start {w wr w' : World} {bs : List (Nat × List Value)} {n b : Nat} (hbs : ∀ p ∈ bs, Blk wr p.1 39 p.2) (hb : Below w.heap.size w wr) (hb' : Below wr.heap.size wr w') (hv : VO w' (vecO n b) n 0 b) (hge : wr.heap.size ≤ b) : Bld w bs n 0 b w' :=
  ⟨fun p hp => ⟨(hbs p hp).below hb' (hbs p hp).lt, by have := (hbs p hp).lt; omega⟩, hv, hb.trans (hb'.mono hb.size), Nat.le_trans hb.size hge⟩
/-- the result is laid -/
theorem Bld.ret {w bs n x b w3} (h : Bld w bs n x b w3) {R : Nat} {u v : Value} (hR : (R, [u, v]) ∈ bs) (hge : w.heap.size ≤ R) :
    ((w3.setCell ⟨R, 0, none⟩ (.int .i64 n)).setCell ⟨R, 1, none⟩ (.slice (some ⟨b, 0, none⟩) (wcount n) (wcount n))).cell? ⟨R, 0, none⟩ = some (.int .i64 n) ∧
    ((w3.setCell ⟨R, 0, none⟩ (.int .i64 n)).setCell ⟨R, 1, none⟩ (.slice (some ⟨b, 0, none⟩) (wcount n) (wcount n))).cell? ⟨R, 1, none⟩ = some (.slice (some ⟨b, 0, none⟩) (wcount n) (wcount n)) ∧
    VO ((w3.setCell ⟨R, 0, none⟩ (.int .i64 n)).setCell ⟨R, 1, none⟩ (.slice (some ⟨b, 0, none⟩) (wcount n) (wcount n))) (vecO n b) n x b ∧
    Below w.heap.size w ((w3.setCell ⟨R, 0, none⟩ (.int .i64 n)).setCell ⟨R, 1, none⟩ (.slice (some ⟨b, 0, none⟩) (wcount n) (wcount n))) := by
  obtain ⟨h1, h2⟩ := h.bx _ hR
  have hk := (h1.set 0 (.int .i64 n)).set 1 (.slice (some ⟨b, 0, none⟩) (wcount n) (wcount n))
  exact ⟨hk.cell (i := 0) rfl, hk.cell (i := 1) rfl, (h.vo.other (Ne.symm h2) _).other (Ne.symm h2) _, (h.bel.setCell hge _).setCell hge _⟩
/-- the variable out is laid -/
theorem Bld.push {w bs n x b wr} (h : Bld w bs n x b wr) (l : List Value) : Bld w ((wr.heap.size, l) :: bs) n x b (wr.alloc (.cells l.toArray 39)) := by
  have h' := h.alloc (.cells l.toArray 39)
  refine ⟨fun p hp => ?_, h'.vo, h'.bel, h'.ge⟩
  rcases List.mem_cons.1 hp with rfl | hp
  · exact ⟨Blk.new 39 l, by have := h.vo.blk.lt; show wr.heap.size ≠ b; omega⟩
  · exact h'.bx p hp
end Go.Proofs.YtkoggfahjlnecaaGreatDoor
