import Derived.Test.YtmimafbedbohiaaA23
import Derived.Test.YtmimafbedbohiaaP3
import Derived.Test.YtmimafbedbohiaaK2
namespace Go.Proofs.Ytmimafbedbohiaa
set_option linter.unusedVariables false
open Go.RowKit

def natsV (l : List Nat) : List Value := l.map fun x => .int .u64 ((x : Nat) : Int)
theorem natsV_length (l : List Nat) : (natsV l).length = l.length := by simp [natsV]
theorem natsV_words (l : List Nat) (h : ∀ x ∈ l, x < 2 ^ 64) (m : Nat) : splice (wordsV m 0) 0 (natsV (l.take m)) = wordsV m (valW (l.take m)) := by
  have h' : ∀ x ∈ l.take m, x < 2 ^ 64 := fun x hx => h x (List.mem_of_mem_take hx)
  apply List.ext_getElem?
  intro i
  simp only [splice, List.take_zero, List.nil_append, Nat.zero_add, natsV_length]
  by_cases hi : i < m
  · rw [wordsV_at hi, valW_word _ h']
    by_cases h2 : i < (l.take m).length
    · rw [List.getElem?_append_left (by rw [natsV_length]; exact h2), natsV, List.getElem?_map, List.getD, List.getElem?_eq_getElem h2]; rfl
    · rw [List.getElem?_append_right (by rw [natsV_length]; omega), natsV_length, List.getElem?_drop, show (l.take m).length + (i - (l.take m).length) = i by omega, wordsV_at hi, word_zero, List.getD, List.getElem?_eq_none (by omega)]; rfl
  · have h3 : (l.take m).length ≤ m := by simp; omega
    rw [List.getElem?_append_right (by rw [natsV_length]; omega), natsV_length, List.getElem?_drop, show (l.take m).length + (i - (l.take m).length) = i by omega, List.getElem?_eq_none (by rw [wordsV_length]; omega), List.getElem?_eq_none (by rw [wordsV_length]; omega)]

set_option maxRecDepth 100000 in
set_option maxHeartbeats 2000000 in
theorem new_bad {w : World} (n : Int) (vw : Value) {k : Nat} {cs : List Value} (hl : RO w vw 1 k cs) (hb : n < 1 ∨ 128 < n) : Calls Try.prog 14 #[.int .i64 n, vw] w (RetE w 0 0 2) := by
  obtain ⟨p, c, rfl⟩ := hl.form
  have HG : Hid (∀ w, Calls Try.prog 44 #[.int .i64 n] w fun e w' => e = .returned (.bool false) ∧ w = w') := Lib.hid fun w => by
    have := good_any n w
    rwa [show (decide ((1 : Int) ≤ n) && decide (n ≤ 128)) = false by simp; omega] at this
  clear hl hb
  go_enter Try.func14, Try.ntmps14
  go_wp2_with fail
  refine (HG.out _).mono ?_; rintro e w' ⟨rfl, rfl⟩
  go_wp2_with fail
  exact bodyPost_ret (v := .tuple #[.agg #[.int .i64 0, .slice none 0 0], .int .i64 2]) (by simp [results, Try.results14, go_sem]) rfl ⟨_, rfl, VR.zero _, Below.new _ _, Far.zero _ _⟩

set_option maxRecDepth 100000 in
set_option maxHeartbeats 4000000 in
theorem new_good {w : World} (n : Nat) (h1 : 1 ≤ n) (h2 : n ≤ 128) (vw : Value) {l : List Nat} (hl : RO w vw 1 l.length (natsV l)) (hx : ∀ x ∈ l, x < 2 ^ 64) : Calls Try.prog 14 #[.int .i64 n, vw] w (RetE w n (valW l % 2 ^ n) 0) := by
  have HL := Lib.hid hl
  obtain ⟨p, c, rfl⟩ := hl.form
  have HG : Hid (∀ w, Calls Try.prog 44 #[.int .i64 n] w fun e w' => e = .returned (.bool true) ∧ w = w') := Lib.hid fun w => by
    have := good_any n w
    rwa [show (decide ((1 : Int) ≤ n) && decide ((n : Int) ≤ 128)) = true by simp; omega] at this
  have hni : (n : Int) ≤ 128 := by omega
  have HBl := Lib.hid (fun w => blank_any (w := w) n h2)
  have HX := Lib.hid (And.intro hx h1)
  clear hl hx h1 h2
  go_enter Try.func14, Try.ntmps14
  go_wp2_with fail
  refine (HG.out _).mono ?_; rintro e w' ⟨rfl, rfl⟩
  go_wp2_with fail
  have k2 := Blk.new (w := w) 26 [.int .i64 0, .slice none 0 0]
  have hb3 := Below.new w (.cells #[.int .i64 0, .slice none 0 0] 26)
  generalize w.alloc (.cells #[.int .i64 0, .slice none 0 0] 26) = W at *
  have HK := Lib.hid (And.intro k2 hb3)
  clear k2 hb3
  refine (HBl.out _).mono ?_; rintro e w1 ⟨v, b, rfl, hV, hge, hb1⟩
  obtain rfl := hV.e
  have hS := Bld.start (w := w) (bs := [(w.heap.size, [.int .i64 0, .slice none 0 0])]) (by
    intro p hp
    simp only [List.mem_cons, List.not_mem_nil, or_false] at hp
    subst hp
    exact HK.out.1) HK.out.2 hb1 hV hge
  have hS2 := hS.push [.int .i64 n, .slice (some ⟨b, 0, none⟩) (wcount n) (wcount n)]
  have y1 := (hS2.box (p := (w1.heap.size, [.int .i64 n, .slice (some ⟨b, 0, none⟩) (wcount n) (wcount n)])) (by simp)).cell (i := 1) rfl
  dsimp only at y1
  have hbk := hS2.vo.blk
  have hro := HL.out.below hS2.bel
  have hone : ∀ u ∈ natsV l, u.oneCell' = true := by
    intro u hu
    simp only [natsV, List.mem_map] at hu
    obtain ⟨x, _, rfl⟩ := hu; rfl
  have HC := Lib.hid (And.intro hbk (And.intro hro hone))
  have HS2 := Lib.hid hS2
  clear hV hb1 hS hge hS2 hbk hro hone
  have HNext : Hid (∀ w2 : World, Hid (Blk w2 b 22 (splice (wordsV (wcount n) 0) 0 ((natsV l).take (wcount n))) ∧ (w1.alloc (.cells [Value.int .i64 n, .slice (some ⟨b, 0, none⟩) (wcount n) (wcount n)].toArray 26)).grownBy w2 (some b)) → Bld w [(w1.heap.size, [.int .i64 n, .slice (some ⟨b, 0, none⟩) (wcount n) (wcount n)]), (w.heap.size, [.int .i64 0, .slice none 0 0])] n (valW (l.take (wcount n))) b w2) := Lib.hid fun w2 h2 => by
    refine HS2.out.grown h2.out.2 ⟨rfl, ?_, ?_, HS2.out.vo.le⟩
    · have := h2.out.1
      rwa [show (natsV l).take (wcount n) = natsV (l.take (wcount n)) by simp [natsV, List.map_take], natsV_words l HX.out.1] at this
    · refine Nat.lt_of_lt_of_le (valW_lt _ fun x hx => HX.out.1 x (List.mem_of_mem_take hx)) (Nat.pow_le_pow_right (by decide) ?_)
      have : (l.take (wcount n)).length ≤ wcount n := by simp; omega
      omega
  go_wp2_with (refine wpList_copyR rfl _ _ 24 24 rfl 22 Try.underlying24 (by kernel_rfl) b 0 (wcount n) (wcount n) rfl _ 22 HC.out.1 (by rw [wordsV_length]; omega) _ _ _ rfl HC.out.2.1 HC.out.2.2 ?_; intro w2 h2; have hB2 := HNext.out w2 h2; have HB2 := Lib.hid hB2; have x0 := (hB2.box (p := (w1.heap.size, [.int .i64 n, .slice (some ⟨b, 0, none⟩) (wcount n) (wcount n)])) (by simp)).cell (i := 0) rfl; have x1 := (hB2.box (p := (w1.heap.size, [.int .i64 n, .slice (some ⟨b, 0, none⟩) (wcount n) (wcount n)])) (by simp)).cell (i := 1) rfl; dsimp only at x0 x1; clear h2 hB2 y1)
  have HCut := Lib.hid (cut_any HB2.out.vo HX.out.2)
  refine HCut.out.mono ?_; rintro e w3 ⟨rfl, hv3, hg3⟩
  have hB3 := HB2.out.grown hg3 hv3
  have kr := hB3.box (p := (w.heap.size, [.int .i64 0, .slice none 0 0])) (by simp)
  have HB3 := Lib.hid hB3
  have r0 := kr.cell (i := 0) rfl
  have r1 := kr.cell (i := 1) rfl
  have f0 := kr.frz 0
  have f1 := kr.frz 1
  dsimp only [vecO] at r0 r1 f0 f1 ⊢
  clear hv3 hg3 hB3 kr x0 x1
  go_wp2_with fail
  obtain ⟨e0, e1, hv, hbl⟩ := HB3.out.ret (R := w.heap.size) (u := .int .i64 0) (v := .slice none 0 0) (by simp) (Nat.le_refl _)
  rw [valW_take l HX.out.1 n _ (n_le_words n)] at hv
  exact bodyPost_ret (v := .tuple #[vecO n b, .int .i64 0]) (by simp [results, Try.results14, go_sem, e0, e1, vecO]) rfl ⟨_, rfl, hv.vr (Nat.mod_lt _ (Nat.pow_pos (by decide))), hbl, Far.vec HB3.out.ge⟩
end Go.Proofs.Ytmimafbedbohiaa
