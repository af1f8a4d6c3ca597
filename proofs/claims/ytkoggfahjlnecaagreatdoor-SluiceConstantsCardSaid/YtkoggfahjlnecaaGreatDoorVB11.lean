
import Derived.Test.YtkoggfahjlnecaaGreatDoorVB6
import Derived.Test.YtkoggfahjlnecaaGreatDoorVQ1
import Derived.Test.YtkoggfahjlnecaaGreatDoorVQ2
import Derived.Test.YtkoggfahjlnecaaGreatDoorVB7
import Derived.Test.YtkoggfahjlnecaaGreatDoorVB9
import Derived.Test.YtkoggfahjlnecaaGreatDoorVB9
namespace Go.Proofs.YtkoggfahjlnecaaGreatDoor
set_option linter.unusedVariables false
open Go.RowKit
theorem setB_add {x k : Nat} (h : x < 2 ^ k) : setB x k true = x + 2 ^ k := by
  have := Nat.two_pow_add_eq_or_of_lt h 1
  rw [Nat.mul_one] at this
  rw [Nat.add_comm, this, Nat.or_comm, ← setB_or]
theorem word_small {x k : Nat} (h : x < 2 ^ k) : word x (k / 64) < 2 ^ (k % 64) := by
  unfold word
  refine Nat.lt_of_le_of_lt (Nat.mod_le _ _) ?_
  rw [Nat.div_lt_iff_lt_mul (Nat.pow_pos (by decide)), ← Nat.pow_add]
  rwa [show k % 64 + 64 * (k / 64) = k by omega]
theorem u64_one (k : Nat) (hk : k < 64) : IntKind.u64.wrap (1 * 2 ^ k) = ((2 ^ k : Nat) : Int) := by
  rw [Int.one_mul]; exact u64_pow k hk
theorem words_step (f : Nat → Bool) (k m : Nat) (y : Nat) (hy : y < 2 ^ 64) (he : y = setB (word (ofB f k) (k / 64)) (k % 64) (f k)) : (wordsV m (ofB f k)).set (k / 64) (.int .u64 y) = wordsV m (ofB f (k + 1)) := by
  rw [wordsV_set hy]
  refine wordsV_ext fun i _ => ?_
  rw [setW_word _ _ _ _ hy, ← setB_ofB f k, setB_word, he]
  by_cases e : i = k / 64
  · subst e; rfl
  · rw [if_neg e, if_neg e]
theorem ofB_skip {f : Nat → Bool} {k : Nat} (h : f k = false) : ofB f (k + 1) = ofB f k := by rw [ofB, h]; simp
theorem RO.ofCells {w : World} {b n t : Nat} {l : List Value} (h : Blk w b t l) (hl : l.length = n) : RO w (.slice (some ⟨b, 0, none⟩) n n) 1 n l := by
  refine ⟨by omega, _, _, rfl, fun j u hj => ⟨b, 0, rfl, ?_⟩⟩
  rw [Nat.zero_add]; exact h.cell hj
end Go.Proofs.YtkoggfahjlnecaaGreatDoor
namespace Go.Proofs.YtkoggfahjlnecaaGreatDoor
set_option linter.unusedVariables false
open Go.RowKit
def natsV (l : List Nat) : List Value := l.map fun x => .int .u64 ((x : Nat) : Int)
theorem natsV_length (l : List Nat) : (natsV l).length = l.length := by simp [natsV]
theorem natsV_words (l : List Nat) (h : ∀ x ∈ l, x < 2 ^ 64) (m : Nat) : splice (wordsV m 0) 0 (natsV (l.take m)) = wordsV m (valW (l.take m)) := by
  have h' : ∀ x ∈ l.take m, x < 2 ^ 64 := fun x hx => h x (List.mem_of_mem_take hx)
  apply List.ext_getElem?
  intro i
  simp only [splice, List.take_zero, List.nil_append, Nat.zero_add, natsV_length]
  by_cases hi : i < m
  · rw [wordsV_at hi, valW_word _ h']
    by_cases h2 : i < (l.take m).length
    · rw [List.getElem?_append_left (by rw [natsV_length]; exact h2), natsV, List.getElem?_map, List.getD, List.getElem?_eq_getElem h2]; rfl
    · rw [List.getElem?_append_right (by rw [natsV_length]; omega), natsV_length, List.getElem?_drop, show (l.take m).length + (i - (l.take m).length) = i by omega, wordsV_at hi, word_zero, List.getD, List.getElem?_eq_none (by omega)]; rfl
  · have h3 : (l.take m).length ≤ m := by simp; omega
    rw [List.getElem?_append_right (by rw [natsV_length]; omega), natsV_length, List.getElem?_drop, show (l.take m).length + (i - (l.take m).length) = i by omega, List.getElem?_eq_none (by rw [wordsV_length]; omega), List.getElem?_eq_none (by rw [wordsV_length]; omega)]
set_option maxRecDepth 100000 in
set_option maxHeartbeats 2000000 in
theorem new_bad {w : World} (n : Int) (vw : Value) {k : Nat} {cs : List Value} (hl : RO w vw 1 k cs) (hb : n < 1 ∨ 128 < n) : Calls Tryz.prog 11 #[.int .i64 n, vw] w (RetE w 0 0 2) := by
  obtain ⟨p, c, rfl⟩ := hl.form
  have HG : Hid (∀ w, Calls Tryz.prog 23 #[.int .i64 n] w fun e w' => e = .returned (.bool false) ∧ w = w') := Lib.hid fun w => by
    have := good_any n w
    rwa [show (decide ((1 : Int) ≤ n) && decide (n ≤ 128)) = false by simp; omega] at this
  clear hl hb
  go_enter Tryz.func11, Tryz.ntmps11
  go_wp2_with fail
  refine (HG.out _).mono ?_; rintro e w' ⟨rfl, rfl⟩
  go_wp2_with fail
  exact bodyPost_ret (v := .tuple #[.agg #[.int .i64 0, .slice none 0 0], .int .i64 2]) (by simp [results, Tryz.results11, go_sem]) rfl ⟨_, rfl, VR.zero _, Below.new _ _, Far.zero _ _⟩
set_option maxRecDepth 100000 in
set_option maxHeartbeats 4000000 in
theorem new_good {w : World} (n : Nat) (h1 : 1 ≤ n) (h2 : n ≤ 128) (vw : Value) {l : List Nat} (hl : RO w vw 1 l.length (natsV l)) (hx : ∀ x ∈ l, x < 2 ^ 64) : Calls Tryz.prog 11 #[.int .i64 n, vw] w (RetE w n (valW l % 2 ^ n) 0) := by
  have HL := Lib.hid hl
  obtain ⟨p, c, rfl⟩ := hl.form
  have HG : Hid (∀ w, Calls Tryz.prog 23 #[.int .i64 n] w fun e w' => e = .returned (.bool true) ∧ w = w') := Lib.hid fun w => by
    have := good_any n w
    rwa [show (decide ((1 : Int) ≤ n) && decide ((n : Int) ≤ 128)) = true by simp; omega] at this
  have hni : (n : Int) ≤ 128 := by omega
  have HBl := Lib.hid (fun w => blank_any (w := w) n h2)
  have HX := Lib.hid (And.intro hx h1)
  clear hl hx h1 h2
  go_enter Tryz.func11, Tryz.ntmps11
  go_wp2_with fail
  refine (HG.out _).mono ?_; rintro e w' ⟨rfl, rfl⟩
  go_wp2_with fail
  have k2 := Blk.new (w := w) 39 [.int .i64 0, .slice none 0 0]
  have hb3 := Below.new w (.cells #[.int .i64 0, .slice none 0 0] 39)
  generalize w.alloc (.cells #[.int .i64 0, .slice none 0 0] 39) = W at *
  have HK := Lib.hid (And.intro k2 hb3)
  clear k2 hb3
  refine (HBl.out _).mono ?_; rintro e w1 ⟨v, b, rfl, hV, hge, hb1⟩
  obtain rfl := hV.e
  have hS := Bld.start (w := w) (bs := [(w.heap.size, [.int .i64 0, .slice none 0 0])]) (by
    intro p hp
    simp only [List.mem_cons, List.not_mem_nil, or_false] at hp
    subst hp
    exact HK.out.1) HK.out.2 hb1 hV hge
  have hS2 := hS.push [.int .i64 n, .slice (some ⟨b, 0, none⟩) (wcount n) (wcount n)]
  have y1 := (hS2.box (p := (w1.heap.size, [.int .i64 n, .slice (some ⟨b, 0, none⟩) (wcount n) (wcount n)])) (by simp)).cell (i := 1) rfl
  dsimp only at y1
  have hbk := hS2.vo.blk
  have hro := HL.out.below hS2.bel
  have hone : ∀ u ∈ natsV l, u.oneCell' = true := by
    intro u hu
    simp only [natsV, List.mem_map] at hu
    obtain ⟨x, _, rfl⟩ := hu; rfl
  have HC := Lib.hid (And.intro hbk (And.intro hro hone))
  have HS2 := Lib.hid hS2
  clear hV hb1 hS hge hS2 hbk hro hone
  have HNext : Hid (∀ w2 : World, Hid (Blk w2 b 55 (splice (wordsV (wcount n) 0) 0 ((natsV l).take (wcount n))) ∧ (w1.alloc (.cells [Value.int .i64 n, .slice (some ⟨b, 0, none⟩) (wcount n) (wcount n)].toArray 39)).grownBy w2 (some b)) → Bld w [(w1.heap.size, [.int .i64 n, .slice (some ⟨b, 0, none⟩) (wcount n) (wcount n)]), (w.heap.size, [.int .i64 0, .slice none 0 0])] n (valW (l.take (wcount n))) b w2) := Lib.hid fun w2 h2 => by
    refine HS2.out.grown h2.out.2 ⟨rfl, ?_, ?_, HS2.out.vo.le⟩
    · have := h2.out.1
      rwa [show (natsV l).take (wcount n) = natsV (l.take (wcount n)) by simp [natsV, List.map_take], natsV_words l HX.out.1] at this
    · refine Nat.lt_of_lt_of_le (valW_lt _ fun x hx => HX.out.1 x (List.mem_of_mem_take hx)) (Nat.pow_le_pow_right (by decide) ?_)
      have : (l.take (wcount n)).length ≤ wcount n := by simp; omega
      omega
  go_wp2_with (refine wpList_copyR rfl _ _ 37 37 rfl 55 Tryz.underlying37 (by kernel_rfl) b 0 (wcount n) (wcount n) rfl _ 55 HC.out.1 (by rw [wordsV_length]; omega) _ _ _ rfl HC.out.2.1 HC.out.2.2 ?_; intro w2 h2; have hB2 := HNext.out w2 h2; have HB2 := Lib.hid hB2; have x0 := (hB2.box (p := (w1.heap.size, [.int .i64 n, .slice (some ⟨b, 0, none⟩) (wcount n) (wcount n)])) (by simp)).cell (i := 0) rfl; have x1 := (hB2.box (p := (w1.heap.size, [.int .i64 n, .slice (some ⟨b, 0, none⟩) (wcount n) (wcount n)])) (by simp)).cell (i := 1) rfl; dsimp only at x0 x1; clear h2 hB2 y1)
  have HCut := Lib.hid (cut_any HB2.out.vo HX.out.2)
  refine HCut.out.mono ?_; rintro e w3 ⟨rfl, hv3, hg3⟩
  have hB3 := HB2.out.grown hg3 hv3
  have kr := hB3.box (p := (w.heap.size, [.int .i64 0, .slice none 0 0])) (by simp)
  have HB3 := Lib.hid hB3
  have r0 := kr.cell (i := 0) rfl
  have r1 := kr.cell (i := 1) rfl
  have f0 := kr.frz 0
  have f1 := kr.frz 1
  dsimp only [vecO] at r0 r1 f0 f1 ⊢
  clear hv3 hg3 hB3 kr x0 x1
  go_wp2_with fail
  obtain ⟨e0, e1, hv, hbl⟩ := HB3.out.ret (R := w.heap.size) (u := .int .i64 0) (v := .slice none 0 0) (by simp) (Nat.le_refl _)
  rw [valW_take l HX.out.1 n _ (n_le_words n)] at hv
  exact bodyPost_ret (v := .tuple #[vecO n b, .int .i64 0]) (by simp [results, Tryz.results11, go_sem, e0, e1, vecO]) rfl ⟨_, rfl, hv.vr (Nat.mod_lt _ (Nat.pow_pos (by decide))), hbl, Far.vec HB3.out.ge⟩
end Go.Proofs.YtkoggfahjlnecaaGreatDoor
namespace Go.Proofs.YtkoggfahjlnecaaGreatDoor
set_option linter.unusedVariables false
open Go.RowKit
/-- bits lo and on -/
def sliceR (f : Nat → Bool) (lo j : Nat) : Bool := f (lo + j)
/-- the part of a list that is read -/
theorem RO.part {w : World} {b o n c lo m c' : Nat} {f : Nat → Bool} (h : RO w (.slice (some ⟨b, o, none⟩) n c) 1 n (bools (rl n f))) (hm : lo + m ≤ n) :
    RO w (.slice (some ⟨b, o + lo, none⟩) m c') 1 m (bools (rl m fun j => f (lo + j))) := by
  refine ⟨by simp [bools, rl], _, _, rfl, fun j u hj => ⟨b, o + lo, rfl, ?_⟩⟩
  have hjm : j < m := by
    rcases Nat.lt_or_ge j m with h | h
    · exact h
    · rw [List.getElem?_eq_none (by simp [bools, rl]; omega)] at hj; cases hj
  rw [bools_at _ j (by rw [rl_length]; exact hjm), rl_getD _ _ _ hjm] at hj
  have hat := bools_at (rl n f) (lo + j) (by rw [rl_length]; omega)
  rw [rl_getD n f (lo + j) (by omega), hj] at hat
  rw [Nat.add_assoc]; exact h.cell hat
theorem RO.ptr {w : World} {p : Option Addr} {n c : Nat} {f : Nat → Bool} (h : RO w (.slice p n c) 1 n (bools (rl n f))) (h0 : 0 < n) : ∃ b o, p = some ⟨b, o, none⟩ := by
  exact h.sl (bools_at (rl n f) 0 (by rw [rl_length]; exact h0))
theorem RO.part' {w : World} {b o n c lo m c' : Nat} {f : Nat → Bool} {p : Option Addr} (h : RO w (.slice (some ⟨b, o, none⟩) n c) 1 n (bools (rl n f))) (hm : lo + m ≤ n) (hp : 0 < m → p = some ⟨b, o + lo, none⟩) :
    RO w (.slice p m c') 1 m (bools (rl m fun j => f (lo + j))) := by
  by_cases h0 : m = 0
  · subst h0
    exact ⟨rfl, _, _, rfl, fun j u hj => by simp [rl, bools] at hj⟩
  · obtain rfl := hp (by omega)
    exact h.part hm
/-- what Put gives -/
def putR (f g : Nat → Bool) (lo m j : Nat) : Bool := if j < lo then f j else if j < lo + m then g (j - lo) else f j
end Go.Proofs.YtkoggfahjlnecaaGreatDoor
namespace Go.Proofs.YtkoggfahjlnecaaGreatDoor
set_option linter.unusedVariables false
open Go.RowKit
/-- what Ext gives -/
def extR (f : Nat → Bool) (n : Nat) (s : Bool) (j : Nat) : Bool := if j < n then f j else s && f (n - 1)
theorem rl_step (m k : Nat) (f : Nat → Bool) (t : Bool) (ht : t = f k) : (bools (rl m fun j => decide (j < k) && f j)).set k (.bool t) = bools (rl m fun j => decide (j < k + 1) && f j) := by
  rw [bools_set, rl_set]
  congr 1
  refine rl_congr fun i hi => ?_
  by_cases e : i = k
  · subst e; simp [ht]
  · by_cases e2 : i < k
    · have : i < k + 1 := by omega
      simp [e, e2, this]
    · have : ¬ i < k + 1 := by omega
      simp [e, e2, this]
theorem u64_bit2 (W k : Nat) (hW : W < 2 ^ 64) : (((W : Int) / 2 ^ k).tmod 2 == 1) = W.testBit k := by
  have e : (W : Int) / 2 ^ k = ((W / 2 ^ k : Nat) : Int) := by simp
  rw [e, Int.tmod_eq_emod_of_nonneg (Int.natCast_nonneg _), Nat.testBit_eq_decide_div_mod_eq]
  generalize W / 2 ^ k = q
  rw [Bool.eq_iff_iff]
  simp
  omega
end Go.Proofs.YtkoggfahjlnecaaGreatDoor
namespace Go.Proofs.YtkoggfahjlnecaaGreatDoor
set_option linter.unusedVariables false
open Go.RowKit
theorem RO.short {w : World} {p : Option Addr} {n c c' m : Nat} {f : Nat → Bool} (hA : RO w (.slice p n c) 1 n (bools (rl n f))) (hm : m ≤ n) : RO w (.slice p m c') 1 m (bools (rl m f)) := by
  by_cases h0 : m = 0
  · subst h0; exact ⟨rfl, _, _, rfl, fun j u hj => by simp [rl, bools] at hj⟩
  · obtain ⟨b, o, rfl⟩ := hA.ptr (by omega)
    have := hA.part (lo := 0) (m := m) (c' := c') (by omega)
    rw [Nat.add_zero] at this
    rwa [show (fun j => f (0 + j)) = f from funext fun j => by rw [Nat.zero_add]] at this
/-- what fit gives -/
def fitF (g : Nat → Bool) (m j : Nat) : Bool := decide (j < m) && g j
theorem fit_cells (n m : Nat) (g : Nat → Bool) : splice (bools (List.replicate n false)) 0 ((bools (rl m g)).take n) = bools (rl n (fitF g m)) := by
  have ht : (bools (rl m g)).take n = bools (rl (min m n) g) := by
    rw [bools, ← List.map_take]; congr 1
    rw [rl, rl, ← List.map_take, List.take_range, Nat.min_comm]
  rw [ht, ← rl_false]
  unfold splice
  rw [List.take_zero, List.nil_append]
  have hd : (bools (rl n fun _ => false)).drop (0 + (bools (rl (min m n) g)).length) = bools (rl (n - min m n) fun _ => false) := by
    have hlen : (bools (rl (min m n) g)).length = min m n := by simp [bools, rl]
    rw [hlen, Nat.zero_add, bools, ← List.map_drop]; congr 1
    rw [rl_false, rl_false, List.drop_replicate]
  rw [hd, bools_append, rl_append, show min m n + (n - min m n) = n by omega]
  congr 1
  refine rl_congr fun i hi => ?_
  unfold fitF
  by_cases h : i < m
  · rw [if_pos (by omega), decide_eq_true h, Bool.true_and]
  · rw [if_neg (by omega), decide_eq_false h, Bool.false_and]
/-- a vector is returned, its words in no old block -/
def RetV (w : World) (n x : Nat) (e : Ending) (w' : World) : Prop := ∃ v, e = .returned v ∧ VR w' v n x ∧ Below w.heap.size w w' ∧ Far w v
theorem valB_rl (n : Nat) (f : Nat → Bool) : valB (rl n f) = ofB f n := by
  unfold valB; rw [rl_length]; exact ofB_congr fun i hi => rl_getD n f i hi
theorem of_rl {w : World} {vl : Value} {n : Nat} {f : Nat → Bool} (hl : RO w vl 1 n (bools (rl n f))) (h1 : 1 ≤ n) (h2 : n ≤ 128) : Calls Tryz.prog 43 #[vl] w (RetE w n (ofB f n) 0) := by
  have := of_good (w := w) (vl := vl) (l := rl n f) (by rwa [rl_length]) (by rwa [rl_length]) (by rwa [rl_length])
  rwa [rl_length, valB_rl] at this
theorem of_rl_bad {w : World} {vl : Value} {n : Nat} {f : Nat → Bool} (hl : RO w vl 1 n (bools (rl n f))) (hn : n ≤ 1000000000000000000) (h : n < 1 ∨ 128 < n) : Calls Tryz.prog 43 #[vl] w (RetE w 0 0 2) :=
  of_bad (w := w) (vl := vl) (l := rl n f) (by rwa [rl_length]) (by rw [rl_length]; omega) (by rwa [rl_length])
theorem RO.lits {w : World} {b : Nat} {l : List Nat} (h : Blk w b 55 (natsV l)) : RO w (.slice (some ⟨b, 0, none⟩) l.length l.length) 1 l.length (natsV l) := RO.ofCells h (natsV_length l)
end Go.Proofs.YtkoggfahjlnecaaGreatDoor
namespace Go.Proofs.YtkoggfahjlnecaaGreatDoor
set_option linter.unusedVariables false
open Go.RowKit
theorem VR.new_ne {w : World} {p : Option Addr} {c n x : Nat} (h : VR w (.agg #[.int .i64 n, .slice p (wcount n) c]) n x) (hn : 0 < n) : ∀ b o, p = some ⟨b, o, none⟩ → b ≠ w.heap.size := by
  rintro b o rfl
  obtain ⟨b', o', c', e', f'⟩ := h.word (i := 0) (by unfold wcount; omega)
  simp only [Value.agg.injEq, Array.mk.injEq, List.cons.injEq, Value.slice.injEq, true_and, and_true, Option.some.injEq, Addr.mk.injEq] at e'
  have := World.block_lt_of_cell? _ _ f'
  dsimp only at this
  omega
theorem Far.ne {w : World} {k : Value} {p : Option Addr} {m c L : Nat} (h : Far w (.agg #[k, .slice p m c])) (hL : L < w.heap.size) : ∀ b o, p = some ⟨b, o, none⟩ → b ≠ L := fun b o hp => by
  have := h _ _ _ _ _ _ rfl hp
  omega
theorem VR.set2 {w : World} {p : Option Addr} {c n x R : Nat} {x1 y1 : Value} (h : VR w (.agg #[.int .i64 n, .slice p (wcount n) c]) n x) (hne : ∀ b o, p = some ⟨b, o, none⟩ → b ≠ R) :
    VR ((w.setCell ⟨R, 0, none⟩ x1).setCell ⟨R, 1, none⟩ y1) (.agg #[.int .i64 n, .slice p (wcount n) c]) n x := by
  refine ⟨?_, h.lt, h.le⟩
  obtain ⟨⟨p', c', e, hl, p2, c2, e2, hcs⟩, _, _⟩ := h
  simp only [Value.agg.injEq, Array.mk.injEq, List.cons.injEq, Value.slice.injEq, true_and, and_true] at e
  obtain ⟨rfl, rfl⟩ := e
  refine ⟨p, c, rfl, hl, p2, c2, e2, fun j y hj => ?_⟩
  obtain ⟨b, o, h1, h2⟩ := hcs j y hj
  simp only [Value.slice.injEq] at e2
  obtain ⟨rfl, _⟩ := e2
  exact ⟨b, o, h1, (World.cell?_setCell_far _ _ _ _ (Ne.symm (hne b o h1))).trans ((World.cell?_setCell_far _ _ _ _ (Ne.symm (hne b o h1))).trans h2)⟩
end Go.Proofs.YtkoggfahjlnecaaGreatDoor
namespace Go.Proofs.YtkoggfahjlnecaaGreatDoor
set_option linter.unusedVariables false
open Go.RowKit
set_option maxRecDepth 100000 in
set_option maxHeartbeats 4000000 in
theorem un_0 {w : World} {va : Value} {n A : Nat} (hA : VR w va n A) (hn : 0 < n) :
    Calls Tryz.prog 46 #[.int .i64 0, va] w (RetE w n (notN n A) 0) := by
  have HA := Lib.hid hA
  have hni : (n : Int) ≤ 128 := by have := hA.le; omega
  have hn0 : ((n : Int) == 0) = false := by simp; omega
  obtain ⟨pa, ca, rfl, _⟩ := hA.ex
  have HC : Hid (∀ w', Below w.heap.size w w' → Calls Tryz.prog 77 #[.agg #[.int .i64 n, .slice pa (wcount n) ca]] w' (Fresh w' n (notN n A))) := Lib.hid (fun w' hb => not_any (hA.below hb) hn)
  clear hA hn
  go_enter Tryz.func46, Tryz.ntmps46
  go_wp2_with fail
  have hT := ((Tr.nil w).lay 39 [.int .i64 n, .slice pa (wcount n) ca]).lay 39 [.int .i64 0, .slice none 0 0]
  simp only [World.size_alloc] at hT
  generalize (w.alloc (.cells [Value.int .i64 n, .slice pa (wcount n) ca].toArray 39)).alloc (.cells [Value.int .i64 0, .slice none 0 0].toArray 39) = W at *
  have HT := Lib.hid hT
  clear hT
  refine (HC.out _ HT.out.bel).mono ?_; rintro e w2 ⟨v2, b2, rfl, hv2, hge2, hb2⟩
  obtain rfl := hv2.e
  have HT2 := Lib.hid (HT.out.cons hb2 hv2.blk hge2)
  have HL := Lib.hid hv2.lt
  have r0 := (HT2.out.pr 1 rfl).1
  have r1 := (HT2.out.pr 1 rfl).2
  have f0 := (HT2.out.at 1 rfl).frz 0
  have f1 := (HT2.out.at 1 rfl).frz 1
  clear hv2 hge2 hb2
  go_wp2_with fail
  have HT3 := Lib.hid (HT2.out.two 1 (x := .int .i64 n) (y := .slice (some ⟨b2, 0, none⟩) (wcount n) (wcount n)) rfl)
  have e0 := (HT3.out.pr 1 rfl).1
  have e1 := (HT3.out.pr 1 rfl).2
  exact bodyPost_ret (v := .tuple #[vecO n b2, .int .i64 0]) (by simp [results, Tryz.results46, go_sem, e0, e1, vecO]) rfl ⟨_, rfl, (HT3.out.vo 0 rfl HL.out HA.out.le).vr (notN_lt _ _), HT3.out.bel, Far.vec (HT3.out.far 0 rfl)⟩
set_option maxRecDepth 100000 in
set_option maxHeartbeats 4000000 in
theorem un_1 {w : World} {va : Value} {n A : Nat} (hA : VR w va n A) (hn : 0 < n) :
    Calls Tryz.prog 46 #[.int .i64 1, va] w (RetE w n (negN n A) 0) := by
  have HA := Lib.hid hA
  have hni : (n : Int) ≤ 128 := by have := hA.le; omega
  have hn0 : ((n : Int) == 0) = false := by simp; omega
  obtain ⟨pa, ca, rfl, _⟩ := hA.ex
  have HC : Hid (∀ w', Below w.heap.size w w' → Calls Tryz.prog 78 #[.agg #[.int .i64 n, .slice pa (wcount n) ca]] w' (Fresh w' n (negN n A))) := Lib.hid (fun w' hb => neg_any (hA.below hb) hn)
  clear hA hn
  go_enter Tryz.func46, Tryz.ntmps46
  go_wp2_with fail
  have hT := ((Tr.nil w).lay 39 [.int .i64 n, .slice pa (wcount n) ca]).lay 39 [.int .i64 0, .slice none 0 0]
  simp only [World.size_alloc] at hT
  generalize (w.alloc (.cells [Value.int .i64 n, .slice pa (wcount n) ca].toArray 39)).alloc (.cells [Value.int .i64 0, .slice none 0 0].toArray 39) = W at *
  have HT := Lib.hid hT
  clear hT
  refine (HC.out _ HT.out.bel).mono ?_; rintro e w2 ⟨v2, b2, rfl, hv2, hge2, hb2⟩
  obtain rfl := hv2.e
  have HT2 := Lib.hid (HT.out.cons hb2 hv2.blk hge2)
  have HL := Lib.hid hv2.lt
  have r0 := (HT2.out.pr 1 rfl).1
  have r1 := (HT2.out.pr 1 rfl).2
  have f0 := (HT2.out.at 1 rfl).frz 0
  have f1 := (HT2.out.at 1 rfl).frz 1
  clear hv2 hge2 hb2
  go_wp2_with fail
  have HT3 := Lib.hid (HT2.out.two 1 (x := .int .i64 n) (y := .slice (some ⟨b2, 0, none⟩) (wcount n) (wcount n)) rfl)
  have e0 := (HT3.out.pr 1 rfl).1
  have e1 := (HT3.out.pr 1 rfl).2
  exact bodyPost_ret (v := .tuple #[vecO n b2, .int .i64 0]) (by simp [results, Tryz.results46, go_sem, e0, e1, vecO]) rfl ⟨_, rfl, (HT3.out.vo 0 rfl HL.out HA.out.le).vr (negN_lt _ _), HT3.out.bel, Far.vec (HT3.out.far 0 rfl)⟩
end Go.Proofs.YtkoggfahjlnecaaGreatDoor
namespace Go.Proofs.YtkoggfahjlnecaaGreatDoor
set_option linter.unusedVariables false
open Go.RowKit
theorem Tr.subs {w W : World} {ls ls'} (h : Tr w ls W) (hs : ∀ p ∈ ls', p ∈ ls) (hnd : (ls'.map (·.1)).Nodup) : Tr w ls' W := ⟨h.bel, fun p hp => h.blk p (hs p hp), fun p hp => h.ge p (hs p hp), hnd⟩
end Go.Proofs.YtkoggfahjlnecaaGreatDoor
