import Derived.Test.YtmimafbedbohiaaRows
import Derived.Test.YtmimafbedbohiaaK1
import Derived.Test.YtmimafbedbohiaaP2
import Derived.StillTailTactics
import Derived.Deep.RegionHeld3
import Derived.IntWalk
namespace Go.Proofs.Ytmimafbedbohiaa
set_option linter.unusedVariables false
open Go.RowKit

/-- a world that is w with new blocks -/
structure After (w : World) where
  val : World
  below : Below w.heap.size w val
instance (w : World) : Nonempty (After w) := ⟨⟨w, Below.refl _ _⟩⟩
theorem After.cell {w : World} {a : Addr} {v : Value} (h : w.cell? a = some v) (s : After w) : s.val.cell? a = some v := (s.below.cell (World.block_lt_of_cell? _ _ h)).trans h
theorem wp_region_after {P : Program} {id : Nat} {Q : Exit → Act → World → Prop} {a : Act} {w : World} {l : List Oper} (hm : P.follows .mixedOrders = true) (hB : Region.lexB .any l.toArray = true)
    (h : wpQuiet P l.toArray (fun w' => ∃ s : After w, w' = s.val) (fun a' => ∀ w', (∃ s : After w, w' = s.val) → Q .normal a' w') l a) : (Code.region id l.toArray true).wp P Q a w :=
  wp_region_quiet (C := fun w' => ∃ s : After w, w' = s.val) hm hB ⟨⟨w.drew, (Below.refl _ _).drew⟩, rfl⟩ (by simpa using h)
theorem Calls.after_of {P : Program} {f : FuncId} {args : Array Value} {w : World} {s : After w} {v : Value}
    (h : Calls P f args s.val fun e w' => e = .returned v ∧ Below s.val.heap.size s.val w') : Calls P f args s.val fun e w'' => e = .returned v ∧ ∃ t : After w, w'' = t.val :=
  h.mono fun _ w' ⟨he, hb⟩ => ⟨he, ⟨w', s.below.trans (hb.mono s.below.size)⟩, rfl⟩
theorem Blk.drew {w : World} {b t l} (h : Blk w b t l) : Blk w.drew b t l := h
theorem Below.comp {B : Nat} {a b c : World} (h : Below B a b) (k : Below b.heap.size b c) (hB : B ≤ b.heap.size) : Below B a c := h.trans (k.mono hB)
theorem Below.next {a b c : World} (h : Below a.heap.size a b) (k : Below b.heap.size b c) : Below a.heap.size a c := h.trans (k.mono h.size)
theorem Below.new (w : World) (o : Obj) : Below w.heap.size w (w.alloc o) := (Below.refl _ _).alloc (Nat.le_refl _) o
theorem Below.more {B : Nat} {a b : World} (h : Below B a b) (hB : B ≤ b.heap.size) (o : Obj) : Below B a (b.alloc o) := h.alloc hB o
theorem kept_new {w w1 : World} {t : TypeId} {l : List Value} (hb : Below (w.alloc (.cells l.toArray t)).heap.size (w.alloc (.cells l.toArray t)) w1) : Blk w1 w.heap.size t l ∧ Below w.heap.size w w1 ∧ w.heap.size < w1.heap.size := by
  refine ⟨(Blk.new t l).below hb (by rw [World.size_alloc]; omega), (Below.new w _).trans (hb.mono (by rw [World.size_alloc]; omega)), ?_⟩
  have := hb.size
  rw [World.size_alloc] at this; omega

/-- how many words -/
def wcount (n : Nat) : Nat := (n + 63) / 64
def wordsV (m x : Nat) : List Value := (List.range m).map fun i => .int .u64 (word x i)
theorem wordsV_length (m x : Nat) : (wordsV m x).length = m := by simp [wordsV]
theorem wordsV_at {m x i : Nat} (h : i < m) : (wordsV m x)[i]? = some (.int .u64 (word x i)) := by simp [wordsV, h]
theorem wordsV_ext {m x y : Nat} (h : ∀ i, i < m → word x i = word y i) : wordsV m x = wordsV m y := by
  unfold wordsV
  apply List.map_congr_left
  intro i hi
  rw [h i (List.mem_range.1 hi)]
theorem wordsV_set {m x i y : Nat} (hy : y < 2 ^ 64) : (wordsV m x).set i (.int .u64 y) = wordsV m (setW x i y) := by
  apply List.ext_getElem?
  intro j
  rw [List.getElem?_set]
  by_cases hj : j < m
  · rw [wordsV_at hj, wordsV_at hj, setW_word x i y j hy, wordsV_length]
    by_cases e : i = j
    · subst e; simp [hj]
    · have : ¬ j = i := fun h => e h.symm
      simp [e, this]
  · have h1 : (wordsV m x)[j]? = none := List.getElem?_eq_none (by rw [wordsV_length]; omega)
    have h2 : (wordsV m (setW x i y))[j]? = none := List.getElem?_eq_none (by rw [wordsV_length]; omega)
    rw [h1, h2, wordsV_length]
    split
    · rw [if_neg (by omega)]
    · rfl

/-- v is the vector of width n that is the number x -/
structure VR (w : World) (v : Value) (n x : Nat) : Prop where
  ex : ∃ p c, v = .agg #[.int .i64 n, .slice p (wcount n) c] ∧ RO w (.slice p (wcount n) c) 1 (wcount n) (wordsV (wcount n) x)
  lt : x < 2 ^ n
  le : n ≤ 128
theorem VR.below {w w' : World} {v n x} (h : VR w v n x) (hb : Below w.heap.size w w') : VR w' v n x := by
  obtain ⟨⟨p, c, e, r⟩, h2, h3⟩ := h
  exact ⟨⟨p, c, e, r.below hb⟩, h2, h3⟩
/-- v is a vector of width n whose words lie in a block of its own, and are those of the number x -/
structure VO (w : World) (v : Value) (n x b : Nat) : Prop where
  e : v = .agg #[.int .i64 n, .slice (some ⟨b, 0, none⟩) (wcount n) (wcount n)]
  blk : Blk w b 22 (wordsV (wcount n) x)
  lt : x < 2 ^ (64 * wcount n)
  le : n ≤ 128
theorem n_le_words (n : Nat) : n ≤ 64 * wcount n := by unfold wcount; omega
theorem VO.vr {w v n x b} (h : VO w v n x b) (hx : x < 2 ^ n) : VR w v n x := by
  refine ⟨⟨_, _, h.e, by rw [wordsV_length, Nat.mul_one], _, _, rfl, fun j u hj => ⟨b, 0, rfl, ?_⟩⟩, hx, h.le⟩
  rw [Nat.zero_add]; exact h.blk.cell hj
theorem VO.below {w w' : World} {v n x b} (h : VO w v n x b) (hb : Below w.heap.size w w') : VO w' v n x b := ⟨h.e, h.blk.below hb h.blk.lt, h.lt, h.le⟩
theorem VO.set {w : World} {v n x b} (h : VO w v n x b) {i y : Nat} (hi : i < wcount n) (hy : y < 2 ^ 64) : VO (w.setCell ⟨b, i, none⟩ (.int .u64 y)) v n (setW x i y) b :=
  ⟨h.e, by have := h.blk.set i (.int .u64 y); rwa [wordsV_set hy] at this, setW_lt h.lt hi hy, h.le⟩
theorem VO.congr {w : World} {v n x y b} (h : VO w v n x b) (hy : y < 2 ^ (64 * wcount n)) (he : ∀ i, i < wcount n → word x i = word y i) : VO w v n y b := by
  obtain rfl := words_ext h.lt hy he; exact h
/-- a word is read -/
theorem VR.word {w v n x} (h : VR w v n x) {i : Nat} (hi : i < wcount n) : ∃ b o c, v = .agg #[.int .i64 n, .slice (some ⟨b, o, none⟩) (wcount n) c] ∧ w.cell? ⟨b, o + i, none⟩ = some (.int .u64 (Go.Proofs.Ytmimafbedbohiaa.word x i)) := by
  obtain ⟨⟨p, c, rfl, hr⟩, _, _⟩ := h
  obtain ⟨b, o, rfl⟩ := hr.sl (wordsV_at hi)
  exact ⟨b, o, c, rfl, hr.cell (wordsV_at hi)⟩

theorem good_any (n : Int) (w : World) : Calls Try.prog 44 #[.int .i64 n] w fun e w' => e = .returned (.bool (decide (1 ≤ n) && decide (n ≤ 128))) ∧ w = w' := by
  by_cases h1 : 1 ≤ n
  · by_cases h2 : n ≤ 128
    · have e : (decide (1 ≤ n) && decide (n ≤ 128)) = true := by simp [h1, h2]
      rw [e]
      clear e
      go_enter Try.func44, Try.ntmps44
      go_wp2_with fail
      go_ret
      exact ⟨by simp, rfl⟩
    · have h2' : 128 < n := by omega
      have e : (decide (1 ≤ n) && decide (n ≤ 128)) = false := by simp [h2]
      rw [e]
      clear e h2
      go_enter Try.func44, Try.ntmps44
      go_wp2_with fail
      go_ret
      exact ⟨by simp; omega, rfl⟩
  · have h2' : n < 1 := by omega
    have e : decide (1 ≤ n) = false := decide_eq_false h1
    rw [e, Bool.false_and]
    clear h1 e
    go_enter Try.func44, Try.ntmps44
    go_wp2_with fail
    go_ret
    exact ⟨rfl, rfl⟩

theorem width_any {w v n x} (h : VR w v n x) : Calls Try.prog 24 #[v] w fun e w' => e = .returned (.int .i64 n) ∧ Below w.heap.size w w' := by
  obtain ⟨⟨p, c, rfl, _⟩, _, _⟩ := h
  go_enter Try.func24, Try.ntmps24
  go_wp2_with fail
  go_ret
  exact ⟨rfl, Below.new _ _⟩

theorem count_any (n : Nat) (w : World) (hn : n ≤ 1000000) : Calls Try.prog 80 #[.int .i64 n] w fun e w' => e = .returned (.int .i64 (wcount n)) ∧ w = w' := by
  have h : (n : Int) ≤ 1000000 := by omega
  have hw : Hid ((wcount n : Int) = ((n : Int) + 64 - 1) / 64) := Lib.hid (by unfold wcount; omega)
  clear hn
  go_enter Try.func80, Try.ntmps80
  go_wp2_with fail
  go_ret
  exact ⟨by rw [hw.out]; rfl, rfl⟩
end Go.Proofs.Ytmimafbedbohiaa
