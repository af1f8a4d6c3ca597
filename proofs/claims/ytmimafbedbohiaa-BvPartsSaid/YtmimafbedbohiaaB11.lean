import Derived.Test.YtmimafbedbohiaaB6
import Derived.Test.YtmimafbedbohiaaQ1
import Derived.Test.YtmimafbedbohiaaQ2
import Derived.Test.YtmimafbedbohiaaB7
import Derived.Test.YtmimafbedbohiaaB9
import Derived.Test.YtmimafbedbohiaaB10
namespace Go.Proofs.Ytmimafbedbohiaa
set_option linter.unusedVariables false
open Go.RowKit

theorem setB_add {x k : Nat} (h : x < 2 ^ k) : setB x k true = x + 2 ^ k := by
  have := Nat.two_pow_add_eq_or_of_lt h 1
  rw [Nat.mul_one] at this
  rw [Nat.add_comm, this, Nat.or_comm, ← setB_or]
theorem word_small {x k : Nat} (h : x < 2 ^ k) : word x (k / 64) < 2 ^ (k % 64) := by
  unfold word
  refine Nat.lt_of_le_of_lt (Nat.mod_le _ _) ?_
  rw [Nat.div_lt_iff_lt_mul (Nat.pow_pos (by decide)), ← Nat.pow_add]
  rwa [show k % 64 + 64 * (k / 64) = k by omega]
theorem u64_one (k : Nat) (hk : k < 64) : IntKind.u64.wrap (1 * 2 ^ k) = ((2 ^ k : Nat) : Int) := by
  rw [Int.one_mul]; exact u64_pow k hk
theorem words_step (f : Nat → Bool) (k m : Nat) (y : Nat) (hy : y < 2 ^ 64) (he : y = setB (word (ofB f k) (k / 64)) (k % 64) (f k)) : (wordsV m (ofB f k)).set (k / 64) (.int .u64 y) = wordsV m (ofB f (k + 1)) := by
  rw [wordsV_set hy]
  refine wordsV_ext fun i _ => ?_
  rw [setW_word _ _ _ _ hy, ← setB_ofB f k, setB_word, he]
  by_cases e : i = k / 64
  · subst e; rfl
  · rw [if_neg e, if_neg e]
theorem ofB_skip {f : Nat → Bool} {k : Nat} (h : f k = false) : ofB f (k + 1) = ofB f k := by rw [ofB, h]; simp

theorem RO.ofCells {w : World} {b n t : Nat} {l : List Value} (h : Blk w b t l) (hl : l.length = n) : RO w (.slice (some ⟨b, 0, none⟩) n n) 1 n l := by
  refine ⟨by omega, _, _, rfl, fun j u hj => ⟨b, 0, rfl, ?_⟩⟩
  rw [Nat.zero_add]; exact h.cell hj

set_option maxRecDepth 100000 in
set_option maxHeartbeats 8000000 in
theorem rwords_any {w : World} {va : Value} {n : Nat} {f : Nat → Bool} (hA : RO w va 1 n (bools (rl n f))) (hn : n ≤ 140) :
    Calls Try.prog 60 #[va] w fun e w' => ∃ v, e = .returned v ∧ RO w' v 1 (wcount n) (wordsV (wcount n) (ofB f n)) ∧ Below w.heap.size w w' := by
  have hni : (n : Int) ≤ 140 := by omega
  have HA := Lib.hid hA
  obtain ⟨pa, ca, rfl⟩ := hA.form
  have hmk := fun w => mk_words (wcount n) (by unfold wcount; omega) w
  have hq0 : IntKind.i64.wrap ((n : Int) + 63) = (n : Int) + 63 := IntWalk.i64_in _ (by omega)
  have hq1 : ((n : Int) + 63) / 64 = (wcount n : Int) := by unfold wcount; omega
  have hq2 : ((n : Int) + 63).tdiv 64 = (wcount n : Int) := by rw [Int.tdiv_eq_ediv_of_nonneg (by omega)]; exact hq1
  have hq3 : IntKind.i64.wrap (wcount n : Int) = (wcount n : Int) := IntWalk.i64_in _ (by unfold wcount; omega)
  have HWC := Lib.hid (show wcount n * 64 < n + 64 ∧ n ≤ wcount n * 64 by unfold wcount; omega)
  clear hA hn
  go_enter Try.func60, Try.ntmps60
  go_wp2_with fail
  have k1 := Blk.new (w := w) 22 (wordsV (wcount n) 0)
  have hb : Below w.heap.size w (w.alloc (.cells (wordsV (wcount n) 0).toArray 22)) := Below.new _ _
  have HK := Lib.hid (And.intro k1 hb)
  clear k1 hb hmk
  generalize w.alloc (.cells (wordsV (wcount n) 0).toArray 22) = W at *
  go_loopw [4] (fun i wr => ∃ k : Nat, k ≤ n ∧ i = .int .i64 k ∧ Blk wr w.heap.size 22 (wordsV (wcount n) (ofB f k)) ∧ Below w.heap.size w wr) (fun i _ => n - (intOf i).toNat)
  case atStart => exact ⟨0, Nat.zero_le _, rfl, HK.out.1, HK.out.2⟩
  case round =>
    obtain ⟨k, hk, rfl, h1, hbel⟩ := hrel
    have HR := Lib.hid (And.intro h1 hbel)
    by_cases hlt : k < n
    · have hki : (k : Int) < n := by omega
      have hat := bools_at (rl n f) k (by rw [rl_length]; exact hlt)
      rw [rl_getD n f k hlt] at hat
      obtain ⟨bl, ol, rfl⟩ := (HA.out.below hbel).sl hat
      have f0 := (HA.out.below hbel).cell hat
      have HST := Lib.hid (words_step f k (wcount n))
      have HSK := Lib.hid (ofB_skip (f := f) (k := k))
      have hc : k / 64 < wcount n := by have := HWC.out; omega
      have d0 := h1.cell (wordsV_at hc)
      have d1 := h1.frz (k / 64)
      have hsm := word_small (ofB_lt f k)
      have HAD := Lib.hid (setB_add hsm)
      have hpl := pow_lt (k % 64) (Nat.mod_lt _ (by decide))
      have HLT := Lib.hid hlt
      generalize hq : f k = q at *
      have h64 : word (ofB f k) (k / 64) + 2 ^ (k % 64) < 2 ^ 64 := by
        rw [← setB_add hsm]; exact setB_lt true (word_lt _ _) (Nat.mod_lt _ (by decide))
      have HWR : Hid (IntKind.u64.wrap (((word (ofB f k) (k / 64) : Nat) : Int) + IntKind.u64.wrap (2 ^ (k % 64))) = ((word (ofB f k) (k / 64) + 2 ^ (k % 64) : Nat) : Int)) := Lib.hid (by
        rw [u64_pow _ (Nat.mod_lt _ (by decide)), IntKind.wrap_u64]
        generalize word (ofB f k) (k / 64) = x at *
        generalize 2 ^ (k % 64) = y at *
        omega)
      have H64 := Lib.hid h64
      have q1 : (0 : Int) ≤ (k : Int) / 64 := by omega
      have q2 : (k : Int) / 64 < (wcount n : Int) := by omega
      have q3 : ((k : Int) / 64).toNat = k / 64 := by omega
      have q4 : (0 : Int) ≤ (k : Int) % 64 := by omega
      have q5 : ((k : Int) % 64).toNat = k % 64 := by omega
      have q6 : (k : Int).tmod 64 = (k : Int) % 64 := Int.tmod_eq_emod_of_nonneg (by omega)
      have q7 : IntKind.i64.wrap ((k : Int) / 64) = (k : Int) / 64 := IntWalk.i64_in _ (by omega)
      generalize word (ofB f k) (k / 64) = x at *
      clear h1 hbel hat hlt hk hsm hpl hc h64 hq2 hq1 hq0
      cases q
      · go_wp2_with fail
        go_roundw
        case rel => exact ⟨k + 1, HLT.out, by go_num, by rw [HSK.out rfl]; exact HR.out.1, HR.out.2⟩
        case measure => simp [intOf]; omega
      · go_wp2_with fail
        rw [HWR.out]
        go_roundw
        case rel => exact ⟨k + 1, HLT.out, by go_num, by rw [← HST.out _ H64.out HAD.out.symm]; exact HR.out.1.set _ _, HR.out.2.setCell (Nat.le_refl _) _⟩
        case measure => simp [intOf]; omega
    · obtain rfl : k = n := by omega
      clear h1 hbel hlt
      go_wp2_with fail
      go_ret
      exact ⟨_, rfl, RO.ofCells HR.out.1 (wordsV_length _ _), HR.out.2⟩
end Go.Proofs.Ytmimafbedbohiaa
namespace Go.Proofs.Ytmimafbedbohiaa
set_option linter.unusedVariables false
open Go.RowKit

def natsV (l : List Nat) : List Value := l.map fun x => .int .u64 ((x : Nat) : Int)
theorem natsV_length (l : List Nat) : (natsV l).length = l.length := by simp [natsV]
theorem natsV_words (l : List Nat) (h : ∀ x ∈ l, x < 2 ^ 64) (m : Nat) : splice (wordsV m 0) 0 (natsV (l.take m)) = wordsV m (valW (l.take m)) := by
  have h' : ∀ x ∈ l.take m, x < 2 ^ 64 := fun x hx => h x (List.mem_of_mem_take hx)
  apply List.ext_getElem?
  intro i
  simp only [splice, List.take_zero, List.nil_append, Nat.zero_add, natsV_length]
  by_cases hi : i < m
  · rw [wordsV_at hi, valW_word _ h']
    by_cases h2 : i < (l.take m).length
    · rw [List.getElem?_append_left (by rw [natsV_length]; exact h2), natsV, List.getElem?_map, List.getD, List.getElem?_eq_getElem h2]; rfl
    · rw [List.getElem?_append_right (by rw [natsV_length]; omega), natsV_length, List.getElem?_drop, show (l.take m).length + (i - (l.take m).length) = i by omega, wordsV_at hi, word_zero, List.getD, List.getElem?_eq_none (by omega)]; rfl
  · have h3 : (l.take m).length ≤ m := by simp; omega
    rw [List.getElem?_append_right (by rw [natsV_length]; omega), natsV_length, List.getElem?_drop, show (l.take m).length + (i - (l.take m).length) = i by omega, List.getElem?_eq_none (by rw [wordsV_length]; omega), List.getElem?_eq_none (by rw [wordsV_length]; omega)]

set_option maxRecDepth 100000 in
set_option maxHeartbeats 2000000 in
theorem new_bad {w : World} (n : Int) (vw : Value) {k : Nat} {cs : List Value} (hl : RO w vw 1 k cs) (hb : n < 1 ∨ 128 < n) : Calls Try.prog 14 #[.int .i64 n, vw] w (RetE w 0 0 2) := by
  obtain ⟨p, c, rfl⟩ := hl.form
  have HG : Hid (∀ w, Calls Try.prog 44 #[.int .i64 n] w fun e w' => e = .returned (.bool false) ∧ w = w') := Lib.hid fun w => by
    have := good_any n w
    rwa [show (decide ((1 : Int) ≤ n) && decide (n ≤ 128)) = false by simp; omega] at this
  clear hl hb
  go_enter Try.func14, Try.ntmps14
  go_wp2_with fail
  refine (HG.out _).mono ?_; rintro e w' ⟨rfl, rfl⟩
  go_wp2_with fail
  exact bodyPost_ret (v := .tuple #[.agg #[.int .i64 0, .slice none 0 0], .int .i64 2]) (by simp [results, Try.results14, go_sem]) rfl ⟨_, rfl, VR.zero _, Below.new _ _, Far.zero _ _⟩

set_option maxRecDepth 100000 in
set_option maxHeartbeats 4000000 in
theorem new_good {w : World} (n : Nat) (h1 : 1 ≤ n) (h2 : n ≤ 128) (vw : Value) {l : List Nat} (hl : RO w vw 1 l.length (natsV l)) (hx : ∀ x ∈ l, x < 2 ^ 64) : Calls Try.prog 14 #[.int .i64 n, vw] w (RetE w n (valW l % 2 ^ n) 0) := by
  have HL := Lib.hid hl
  obtain ⟨p, c, rfl⟩ := hl.form
  have HG : Hid (∀ w, Calls Try.prog 44 #[.int .i64 n] w fun e w' => e = .returned (.bool true) ∧ w = w') := Lib.hid fun w => by
    have := good_any n w
    rwa [show (decide ((1 : Int) ≤ n) && decide ((n : Int) ≤ 128)) = true by simp; omega] at this
  have hni : (n : Int) ≤ 128 := by omega
  have HBl := Lib.hid (fun w => blank_any (w := w) n h2)
  have HX := Lib.hid (And.intro hx h1)
  clear hl hx h1 h2
  go_enter Try.func14, Try.ntmps14
  go_wp2_with fail
  refine (HG.out _).mono ?_; rintro e w' ⟨rfl, rfl⟩
  go_wp2_with fail
  have k2 := Blk.new (w := w) 26 [.int .i64 0, .slice none 0 0]
  have hb3 := Below.new w (.cells #[.int .i64 0, .slice none 0 0] 26)
  generalize w.alloc (.cells #[.int .i64 0, .slice none 0 0] 26) = W at *
  have HK := Lib.hid (And.intro k2 hb3)
  clear k2 hb3
  refine (HBl.out _).mono ?_; rintro e w1 ⟨v, b, rfl, hV, hge, hb1⟩
  obtain rfl := hV.e
  have hS := Bld.start (w := w) (bs := [(w.heap.size, [.int .i64 0, .slice none 0 0])]) (by
    intro p hp
    simp only [List.mem_cons, List.not_mem_nil, or_false] at hp
    subst hp
    exact HK.out.1) HK.out.2 hb1 hV hge
  have hS2 := hS.push [.int .i64 n, .slice (some ⟨b, 0, none⟩) (wcount n) (wcount n)]
  have y1 := (hS2.box (p := (w1.heap.size, [.int .i64 n, .slice (some ⟨b, 0, none⟩) (wcount n) (wcount n)])) (by simp)).cell (i := 1) rfl
  dsimp only at y1
  have hbk := hS2.vo.blk
  have hro := HL.out.below hS2.bel
  have hone : ∀ u ∈ natsV l, u.oneCell' = true := by
    intro u hu
    simp only [natsV, List.mem_map] at hu
    obtain ⟨x, _, rfl⟩ := hu; rfl
  have HC := Lib.hid (And.intro hbk (And.intro hro hone))
  have HS2 := Lib.hid hS2
  clear hV hb1 hS hge hS2 hbk hro hone
  have HNext : Hid (∀ w2 : World, Hid (Blk w2 b 22 (splice (wordsV (wcount n) 0) 0 ((natsV l).take (wcount n))) ∧ (w1.alloc (.cells [Value.int .i64 n, .slice (some ⟨b, 0, none⟩) (wcount n) (wcount n)].toArray 26)).grownBy w2 (some b)) → Bld w [(w1.heap.size, [.int .i64 n, .slice (some ⟨b, 0, none⟩) (wcount n) (wcount n)]), (w.heap.size, [.int .i64 0, .slice none 0 0])] n (valW (l.take (wcount n))) b w2) := Lib.hid fun w2 h2 => by
    refine HS2.out.grown h2.out.2 ⟨rfl, ?_, ?_, HS2.out.vo.le⟩
    · have := h2.out.1
      rwa [show (natsV l).take (wcount n) = natsV (l.take (wcount n)) by simp [natsV, List.map_take], natsV_words l HX.out.1] at this
    · refine Nat.lt_of_lt_of_le (valW_lt _ fun x hx => HX.out.1 x (List.mem_of_mem_take hx)) (Nat.pow_le_pow_right (by decide) ?_)
      have : (l.take (wcount n)).length ≤ wcount n := by simp; omega
      omega
  go_wp2_with (refine wpList_copyR rfl _ _ 24 24 rfl 22 Try.underlying24 (by kernel_rfl) b 0 (wcount n) (wcount n) rfl _ 22 HC.out.1 (by rw [wordsV_length]; omega) _ _ _ rfl HC.out.2.1 HC.out.2.2 ?_; intro w2 h2; have hB2 := HNext.out w2 h2; have HB2 := Lib.hid hB2; have x0 := (hB2.box (p := (w1.heap.size, [.int .i64 n, .slice (some ⟨b, 0, none⟩) (wcount n) (wcount n)])) (by simp)).cell (i := 0) rfl; have x1 := (hB2.box (p := (w1.heap.size, [.int .i64 n, .slice (some ⟨b, 0, none⟩) (wcount n) (wcount n)])) (by simp)).cell (i := 1) rfl; dsimp only at x0 x1; clear h2 hB2 y1)
  have HCut := Lib.hid (cut_any HB2.out.vo HX.out.2)
  refine HCut.out.mono ?_; rintro e w3 ⟨rfl, hv3, hg3⟩
  have hB3 := HB2.out.grown hg3 hv3
  have kr := hB3.box (p := (w.heap.size, [.int .i64 0, .slice none 0 0])) (by simp)
  have HB3 := Lib.hid hB3
  have r0 := kr.cell (i := 0) rfl
  have r1 := kr.cell (i := 1) rfl
  have f0 := kr.frz 0
  have f1 := kr.frz 1
  dsimp only [vecO] at r0 r1 f0 f1 ⊢
  clear hv3 hg3 hB3 kr x0 x1
  go_wp2_with fail
  obtain ⟨e0, e1, hv, hbl⟩ := HB3.out.ret (R := w.heap.size) (u := .int .i64 0) (v := .slice none 0 0) (by simp) (Nat.le_refl _)
  rw [valW_take l HX.out.1 n _ (n_le_words n)] at hv
  exact bodyPost_ret (v := .tuple #[vecO n b, .int .i64 0]) (by simp [results, Try.results14, go_sem, e0, e1, vecO]) rfl ⟨_, rfl, hv.vr (Nat.mod_lt _ (Nat.pow_pos (by decide))), hbl, Far.vec HB3.out.ge⟩
end Go.Proofs.Ytmimafbedbohiaa
namespace Go.Proofs.Ytmimafbedbohiaa
set_option linter.unusedVariables false
open Go.RowKit

/-- bits lo and on -/
def sliceR (f : Nat → Bool) (lo j : Nat) : Bool := f (lo + j)
/-- the part of a list that is read -/
theorem RO.part {w : World} {b o n c lo m c' : Nat} {f : Nat → Bool} (h : RO w (.slice (some ⟨b, o, none⟩) n c) 1 n (bools (rl n f))) (hm : lo + m ≤ n) :
    RO w (.slice (some ⟨b, o + lo, none⟩) m c') 1 m (bools (rl m fun j => f (lo + j))) := by
  refine ⟨by simp [bools, rl], _, _, rfl, fun j u hj => ⟨b, o + lo, rfl, ?_⟩⟩
  have hjm : j < m := by
    rcases Nat.lt_or_ge j m with h | h
    · exact h
    · rw [List.getElem?_eq_none (by simp [bools, rl]; omega)] at hj; cases hj
  rw [bools_at _ j (by rw [rl_length]; exact hjm), rl_getD _ _ _ hjm] at hj
  have hat := bools_at (rl n f) (lo + j) (by rw [rl_length]; omega)
  rw [rl_getD n f (lo + j) (by omega), hj] at hat
  rw [Nat.add_assoc]; exact h.cell hat
theorem RO.ptr {w : World} {p : Option Addr} {n c : Nat} {f : Nat → Bool} (h : RO w (.slice p n c) 1 n (bools (rl n f))) (h0 : 0 < n) : ∃ b o, p = some ⟨b, o, none⟩ := by
  exact h.sl (bools_at (rl n f) 0 (by rw [rl_length]; exact h0))

set_option maxHeartbeats 1000000 in
theorem rslice_bad {w : World} {va : Value} {n : Nat} {cs : List Value} (hA : RO w va 1 n cs) (hn : n ≤ 140) (lo k : Int) (hb : lo < 0 ∨ k < 1 ∨ (n : Int) < k ∨ (n : Int) - k < lo) :
    Calls Try.prog 37 #[va, .int .i64 lo, .int .i64 k] w (RetEL w 0 (fun _ => false) 3) := by
  obtain ⟨pa, ca, rfl⟩ := hA.form
  clear hA
  by_cases h0 : lo < 0
  · clear hb
    go_enter Try.func37, Try.ntmps37
    go_wp2_with fail
    go_ret2
    exact ⟨_, rfl, RO.nil _ _ _, Below.refl _ _⟩
  have g0 : decide (lo < 0) = false := by simp; omega
  by_cases h1 : k < 1
  · clear hb h0
    go_enter Try.func37, Try.ntmps37
    go_wp2_with fail
    go_ret2
    exact ⟨_, rfl, RO.nil _ _ _, Below.refl _ _⟩
  have g1 : decide (k < 1) = false := by simp; omega
  by_cases h2 : (n : Int) < lo
  · clear hb h0 h1
    go_enter Try.func37, Try.ntmps37
    go_wp2_with fail
    go_ret2
    exact ⟨_, rfl, RO.nil _ _ _, Below.refl _ _⟩
  · have g2 : decide ((n : Int) < lo) = false := by simp; omega
    have h3 : (n : Int) - lo < k := by omega
    have hw : IntKind.i64.wrap ((n : Int) - lo) = (n : Int) - lo := IntWalk.i64_in _ (by omega)
    clear hb h0 h1 h2
    go_enter Try.func37, Try.ntmps37
    go_wp2_with fail
    go_ret2
    exact ⟨_, rfl, RO.nil _ _ _, Below.refl _ _⟩

set_option maxHeartbeats 1000000 in
theorem rslice_good {w : World} {p : Option Addr} {n c : Nat} {f : Nat → Bool} (hA : RO w (.slice p n c) 1 n (bools (rl n f))) (hc : n ≤ c) (hn : n ≤ 140) (lo m : Nat) (hm : 1 ≤ m) (hlm : lo + m ≤ n) :
    Calls Try.prog 37 #[.slice p n c, .int .i64 lo, .int .i64 m] w (RetEL w m (sliceR f lo) 0) := by
  obtain ⟨b, o, rfl⟩ := hA.ptr (by omega)
  have HA : Hid (∀ c', RO (w.alloc (.cells #[] 4)) (.slice (some ⟨b, o + lo, none⟩) m c') 1 m (bools (rl m (sliceR f lo)))) := Lib.hid fun c' => (hA.part hlm).below (Below.new w (.cells #[] 4))
  have g0 : decide ((lo : Int) < 0) = false := by simp
  have g1 : decide ((m : Int) < 1) = false := by simp; omega
  have g2 : decide ((n : Int) < lo) = false := by simp; omega
  have g2' : decide (n < lo) = false := decide_eq_false (by omega)
  have hcl : ¬ c = lo := by omega
  have g3 : decide ((n : Int) - lo < m) = false := by simp; omega
  have hw : IntKind.i64.wrap ((n : Int) - lo) = (n : Int) - lo := IntWalk.i64_in _ (by omega)
  have hw2 : IntKind.i64.wrap ((lo : Int) + m) = (lo : Int) + m := IntWalk.i64_in _ (by omega)
  have q1 : (0 : Int) ≤ (lo : Int) + m := by omega
  have q2 : ((lo : Int) + m) ≤ c := by omega
  have q3 : (lo : Int) ≤ (lo : Int) + m := by omega
  have q4 : ((lo : Int) + m).toNat = lo + m := by omega
  have q5 : lo + m - lo = m := by omega
  have HS := Lib.hid (own_bools0 w)
  have hmi : m ≤ 140 := by omega
  clear hA hm hlm
  go_enter Try.func37, Try.ntmps37
  go_wp2_with (at_builtin; go_must (refine wpList_appR rfl _ _ 35 rfl Try.T35 w.heap.size (.slice (some ⟨w.heap.size, 0, none⟩) 0 0) 0 (bools []) rfl HS.out _ m _ rfl (HA.out _) (bools_one _) (by omega) (by omega) (by simp) ?_); intro v4 w4 happ; have HP := Lib.hid happ; clear happ)
  go_ret2
  refine ⟨_, rfl, ?_, HP.out.below (Below.new _ _) (by simp) (fun k hk => by have := own_bk hk; omega)⟩
  have := RO.own HP.out.own
  rwa [Nat.zero_add, bools_append, List.nil_append] at this

theorem RO.part' {w : World} {b o n c lo m c' : Nat} {f : Nat → Bool} {p : Option Addr} (h : RO w (.slice (some ⟨b, o, none⟩) n c) 1 n (bools (rl n f))) (hm : lo + m ≤ n) (hp : 0 < m → p = some ⟨b, o + lo, none⟩) :
    RO w (.slice p m c') 1 m (bools (rl m fun j => f (lo + j))) := by
  by_cases h0 : m = 0
  · subst h0
    exact ⟨rfl, _, _, rfl, fun j u hj => by simp [rl, bools] at hj⟩
  · obtain rfl := hp (by omega)
    exact h.part hm

set_option maxHeartbeats 1000000 in
theorem rput_bad {w : World} {va vb : Value} {n m : Nat} {cs ds : List Value} (hA : RO w va 1 n cs) (hB : RO w vb 1 m ds) (hn : n ≤ 140) (hm : m ≤ 140) (lo : Int) (hb : lo < 0 ∨ m < 1 ∨ (n : Int) < lo ∨ (n : Int) - lo < m) :
    Calls Try.prog 38 #[va, .int .i64 lo, vb] w (RetEL w 0 (fun _ => false) 3) := by
  obtain ⟨pa, ca, rfl⟩ := hA.form
  obtain ⟨pb, cb, rfl⟩ := hB.form
  clear hA hB
  by_cases h0 : lo < 0
  · clear hb
    go_enter Try.func38, Try.ntmps38
    go_wp2_with fail
    go_ret2
    exact ⟨_, rfl, RO.nil _ _ _, Below.refl _ _⟩
  have g0 : decide (lo < 0) = false := by simp; omega
  by_cases h1 : m < 1
  · have h1i : (m : Int) < 1 := by omega
    clear hb h0
    go_enter Try.func38, Try.ntmps38
    go_wp2_with fail
    go_ret2
    exact ⟨_, rfl, RO.nil _ _ _, Below.refl _ _⟩
  have g1 : decide ((m : Int) < 1) = false := by simp; omega
  by_cases h2 : (n : Int) < lo
  · clear hb h0 h1
    go_enter Try.func38, Try.ntmps38
    go_wp2_with fail
    go_ret2
    exact ⟨_, rfl, RO.nil _ _ _, Below.refl _ _⟩
  · have g2 : decide ((n : Int) < lo) = false := by simp; omega
    have h3 : (n : Int) - lo < m := by omega
    have hw : IntKind.i64.wrap ((n : Int) - lo) = (n : Int) - lo := IntWalk.i64_in _ (by omega)
    clear hb h0 h1 h2
    go_enter Try.func38, Try.ntmps38
    go_wp2_with fail
    go_ret2
    exact ⟨_, rfl, RO.nil _ _ _, Below.refl _ _⟩

/-- what Put gives -/
def putR (f g : Nat → Bool) (lo m j : Nat) : Bool := if j < lo then f j else if j < lo + m then g (j - lo) else f j

set_option maxHeartbeats 2000000 in
theorem rput_good {w : World} {p : Option Addr} {vb : Value} {n c m : Nat} {f g : Nat → Bool} (hA : RO w (.slice p n c) 1 n (bools (rl n f))) (hc : n ≤ c) (hn : n ≤ 140) (hB : RO w vb 1 m (bools (rl m g))) (lo : Nat) (hm : 1 ≤ m) (hlm : lo + m ≤ n) :
    Calls Try.prog 38 #[.slice p n c, .int .i64 lo, vb] w (RetEL w n (putR f g lo m) 0) := by
  obtain ⟨b, o, rfl⟩ := hA.ptr (by omega)
  obtain ⟨pb, cb, rfl⟩ := hB.form
  have HA := Lib.hid hA
  have HB := Lib.hid hB
  have HP1 : Hid (∀ c', RO (w.alloc (.cells #[] 4)) (.slice (some ⟨b, o, none⟩) lo c') 1 lo (bools (rl lo fun j => f (0 + j)))) := Lib.hid fun c' => (hA.part' (lo := 0) (m := lo) (by omega) (fun _ => rfl)).below (Below.new w (.cells #[] 4))
  have HP3 : Hid (∀ w' c', Below w.heap.size w w' → RO w' (.slice (if c = lo + m then some ⟨b, o, none⟩ else some ⟨b, o + (lo + m), none⟩) (n - (lo + m)) c') 1 (n - (lo + m)) (bools (rl (n - (lo + m)) fun j => f (lo + m + j)))) := Lib.hid fun w' c' hb => by
    refine (hA.part' (lo := lo + m) (m := n - (lo + m)) (by omega) (fun h0 => ?_)).below hb
    rw [if_neg (by omega)]
  have g0 : decide ((lo : Int) < 0) = false := by simp
  have g1 : decide ((m : Int) < 1) = false := by simp; omega
  have g2 : decide ((n : Int) < lo) = false := by simp; omega
  have g2' : decide (n < lo) = false := decide_eq_false (by omega)
  have g3 : decide ((n : Int) - lo < m) = false := by simp; omega
  have hw : IntKind.i64.wrap ((n : Int) - lo) = (n : Int) - lo := IntWalk.i64_in _ (by omega)
  have hw2 : IntKind.i64.wrap ((lo : Int) + m) = (lo : Int) + m := IntWalk.i64_in _ (by omega)
  have q1 : (0 : Int) ≤ (lo : Int) + m := by omega
  have q2 : ((lo : Int) + m) ≤ n := by omega
  have q2' : ((lo : Int)) ≤ c := by omega
  have q4 : ((lo : Int) + m).toNat = lo + m := by omega
  have q5 : (n : Int) ≤ c := by omega
  have HS := Lib.hid (own_bools0 w)
  have HL := Lib.hid (And.intro hn (And.intro hm hlm))
  clear hA hB hm hlm hn
  go_enter Try.func38, Try.ntmps38
  have HFin : Hid (bools (rl lo fun j => f (0 + j)) ++ bools (rl m g) ++ bools (rl (n - (lo + m)) fun j => f (lo + m + j)) = bools (rl n (putR f g lo m))) := Lib.hid (by
    have hl := HL.out
    rw [bools_append, bools_append, rl_append, rl_append, show lo + m + (n - (lo + m)) = n by omega]
    congr 1
    refine rl_congr fun i hi => ?_
    unfold putR
    by_cases h1 : i < lo
    · rw [if_pos (show i < lo + m by omega), if_pos h1, if_pos h1, Nat.zero_add]
    · by_cases h2 : i < lo + m
      · rw [if_pos h2, if_neg h1, if_neg h1, if_pos h2]
      · rw [if_neg h2, if_neg h1, if_neg h2, show lo + m + (i - (lo + m)) = i by omega])
  go_wp2_with (first
    | (at_builtin; refine wpList_appR rfl _ _ 35 rfl Try.T35 w.heap.size (.slice pv5 (lo + m) cv5) (lo + m) _ rfl HP2.out.1 _ (n - (lo + m)) _ rfl (HP3.out _ _ HP2.out.2) (bools_one _) (by have := HL.out; omega) (by have := HL.out; omega) HP2.out.2.size ?_; intro v6 w6 happ; have HP4 := Lib.hid (And.intro happ (happ.below HP2.out.2 HP2.out.2.size (fun k hk => (HP2.out.1.lt k hk).1))); clear happ)
    | (at_builtin; refine wpList_appR rfl _ _ 35 rfl Try.T35 w.heap.size (.slice pv4 lo cv4) lo _ rfl HP.out.1 _ m _ rfl (HB.out.below HP.out.2) (bools_one _) (by have := HL.out; omega) (by have := HL.out; omega) HP.out.2.size ?_; intro v5 w5 happ; have HP2 := Lib.hid (And.intro happ.own (happ.below HP.out.2 HP.out.2.size (fun k hk => (HP.out.1.lt k hk).1))); obtain ⟨pv5, cv5, ev5⟩ := ownsRow_form happ.own; subst ev5; clear happ)
    | (at_builtin; refine wpList_appR rfl _ _ 35 rfl Try.T35 w.heap.size (.slice (some ⟨w.heap.size, 0, none⟩) 0 0) 0 (bools []) rfl HS.out _ lo _ rfl (HP1.out _) (bools_one _) (by have := HL.out; omega) (by have := HL.out; omega) (by simp) ?_; intro v4 w4 happ; have hown := happ.own; rw [Nat.zero_add] at hown; have HP := Lib.hid (And.intro hown (happ.below (Below.new _ _) (by simp) (fun k hk => by have := own_bk hk; omega))); obtain ⟨pv4, cv4, ev4⟩ := ownsRow_form hown; subst ev4; clear happ hown))
  all_goals
    go_ret2
    refine ⟨_, rfl, ?_, HP4.out.2⟩
    have := RO.own HP4.out.1.own
    rwa [show bools [] = [] from rfl, List.nil_append, HFin.out, show lo + m + (n - (lo + m)) = n by have := HL.out; omega] at this
end Go.Proofs.Ytmimafbedbohiaa
namespace Go.Proofs.Ytmimafbedbohiaa
set_option linter.unusedVariables false
open Go.RowKit

theorem rext_bad {w : World} {va : Value} {n : Nat} {cs : List Value} (hA : RO w va 1 n cs) (m : Int) (s : Bool) (hb : m < 1 ∨ 128 < m ∨ n = 0) :
    Calls Try.prog 40 #[va, .int .i64 m, .bool s] w (RetEL w 0 (fun _ => false) 2) := by
  obtain ⟨pa, ca, rfl⟩ := hA.form
  clear hA
  by_cases h1 : m < 1
  · clear hb
    go_enter Try.func40, Try.ntmps40
    go_wp2_with fail
    go_ret2
    exact ⟨_, rfl, RO.nil _ _ _, Below.refl _ _⟩
  have g1 : decide (m < 1) = false := by simp; omega
  by_cases h2 : 128 < m
  · clear hb h1
    go_enter Try.func40, Try.ntmps40
    go_wp2_with fail
    go_ret2
    exact ⟨_, rfl, RO.nil _ _ _, Below.refl _ _⟩
  · have g2 : decide (128 < m) = false := by simp; omega
    obtain rfl : n = 0 := by omega
    clear hb h1 h2
    go_enter Try.func40, Try.ntmps40
    go_wp2_with fail
    go_ret2
    exact ⟨_, rfl, RO.nil _ _ _, Below.refl _ _⟩

/-- what Ext gives -/
def extR (f : Nat → Bool) (n : Nat) (s : Bool) (j : Nat) : Bool := if j < n then f j else s && f (n - 1)
theorem rl_step (m k : Nat) (f : Nat → Bool) (t : Bool) (ht : t = f k) : (bools (rl m fun j => decide (j < k) && f j)).set k (.bool t) = bools (rl m fun j => decide (j < k + 1) && f j) := by
  rw [bools_set, rl_set]
  congr 1
  refine rl_congr fun i hi => ?_
  by_cases e : i = k
  · subst e; simp [ht]
  · by_cases e2 : i < k
    · have : i < k + 1 := by omega
      simp [e, e2, this]
    · have : ¬ i < k + 1 := by omega
      simp [e, e2, this]

set_option maxRecDepth 100000 in
set_option maxHeartbeats 4000000 in
theorem rext_good {w : World} {va : Value} {n : Nat} {f : Nat → Bool} (hA : RO w va 1 n (bools (rl n f))) (hn : n ≤ 128) (m : Nat) (s : Bool) (hm : 1 ≤ m) (hlm : m ≤ 128) (hn0 : 1 ≤ n) :
    Calls Try.prog 40 #[va, .int .i64 m, .bool s] w (RetEL w m (extR f n s) 0) := by
  have hmi : (m : Int) ≤ 128 := by omega
  have hmi1 : decide ((m : Int) < 1) = false := by simp; omega
  have hmi2 : decide ((128 : Int) < m) = false := by simp; omega
  have hn1 : ((n : Int) == 0) = false := by simp; omega
  have HTop := Lib.hid (fun w' (hb : Below w.heap.size w w') => rtop_any (hA.below hb) hn hn0)
  have HA := Lib.hid hA
  obtain ⟨pa, ca, rfl⟩ := hA.form
  have hmk := fun w => mk_bools m (by omega) w
  clear hA hn hm hlm
  go_enter Try.func40, Try.ntmps40
  go_wp2_with fail
  have k1 := Blk.new (w := w) 4 (bools (List.replicate m false))
  have hb : Below w.heap.size w (w.alloc (.cells (bools (List.replicate m false)).toArray 4)) := Below.new _ _
  have HK := Lib.hid (And.intro k1 hb)
  clear k1 hb hmk
  generalize w.alloc (.cells (bools (List.replicate m false)).toArray 4) = W at *
  go_loopw [9] (fun i wr => ∃ k : Nat, k ≤ m ∧ i = .int .i64 k ∧ Blk wr w.heap.size 4 (bools (rl m fun j => decide (j < k) && extR f n s j)) ∧ Below w.heap.size w wr) (fun i _ => m - (intOf i).toNat)
  case atStart =>
    refine ⟨0, Nat.zero_le _, rfl, ?_, HK.out.2⟩
    have : (rl m fun j => decide (j < 0) && extR f n s j) = List.replicate m false := by rw [← rl_false]; exact rl_congr fun i _ => by simp
    rw [this]; exact HK.out.1
  case round =>
    obtain ⟨k, hk, rfl, h1, hbel⟩ := hrel
    have HR := Lib.hid (And.intro h1 hbel)
    by_cases hlt : k < m
    · have hki : (k : Int) < m := by omega
      have HS := Lib.hid (fun t ht => rl_step m k (extR f n s) t ht)
      have d0 := h1.cell (bools_at (rl m fun j => decide (j < k) && extR f n s j) k (by rw [rl_length]; exact hlt))
      have d1 := h1.frz k
      have HLT := Lib.hid hlt
      by_cases hin : k < n
      · have hii : (k : Int) < n := by omega
        have hM : extR f n s k = f k := by unfold extR; rw [if_pos hin]
        have hat := bools_at (rl n f) k (by rw [rl_length]; exact hin)
        rw [rl_getD n f k hin] at hat
        obtain ⟨bl, ol, rfl⟩ := (HA.out.below hbel).sl hat
        have g0 := (HA.out.below hbel).cell hat
        rw [← hM] at g0
        generalize hfun : extR f n s = fx at *
        generalize fx k = q at *
        clear h1 hbel hat hlt hk hin hM
        go_wp2_with fail
        go_roundw
        case rel => exact ⟨k + 1, HLT.out, by go_num, by rw [← HS.out _ rfl]; exact HR.out.1.set k _, HR.out.2.setCell (Nat.le_refl _) _⟩
        case measure => simp [intOf]; omega
      · have hii : decide (k < n) = false := decide_eq_false hin
        have hM : extR f n s k = (s && f (n - 1)) := by unfold extR; rw [if_neg hin]
        have HTop2 := Lib.hid (HTop.out wr hbel)
        generalize hfun : extR f n s = fx at *
        rw [hM] at HS
        cases s
        · rw [Bool.false_and] at HS
          clear h1 hbel hlt hk hin hM
          go_wp2_with fail
          go_roundw
          case rel => exact ⟨k + 1, HLT.out, by go_num, by rw [← HS.out _ rfl]; exact HR.out.1.set k _, HR.out.2.setCell (Nat.le_refl _) _⟩
          case measure => simp [intOf]; omega
        · rw [Bool.true_and] at HS
          generalize f (n - 1) = q at *
          clear h1 hbel hlt hk hin hM
          go_wp2_with fail
          refine HTop2.out.mono ?_; rintro e w' ⟨rfl, rfl⟩
          go_wp2_with fail
          go_roundw
          case rel => exact ⟨k + 1, HLT.out, by go_num, by rw [← HS.out _ rfl]; exact HR.out.1.set k _, HR.out.2.setCell (Nat.le_refl _) _⟩
          case measure => simp [intOf]; omega
    · obtain rfl : k = m := by omega
      have hfin : (rl k fun j => decide (j < k) && extR f n s j) = rl k (extR f n s) := rl_congr fun i hi => by simp [hi]
      have HF := Lib.hid hfin
      clear h1 hbel hlt hfin
      go_wp2_with fail
      go_ret2
      exact ⟨_, rfl, by rw [← HF.out]; exact RO.ofBlk HR.out.1, HR.out.2⟩

theorem rnew_bad {w : World} {vw : Value} {n : Nat} {cs : List Value} (hA : RO w vw 1 n cs) (m : Int) (hb : m < 1 ∨ 128 < m) :
    Calls Try.prog 19 #[.int .i64 m, vw] w (RetEL w 0 (fun _ => false) 2) := by
  obtain ⟨pa, ca, rfl⟩ := hA.form
  clear hA
  by_cases h1 : m < 1
  · clear hb
    go_enter Try.func19, Try.ntmps19
    go_wp2_with fail
    go_ret2
    exact ⟨_, rfl, RO.nil _ _ _, Below.refl _ _⟩
  have g1 : decide (m < 1) = false := by simp; omega
  have h2 : 128 < m := by omega
  clear hb h1
  go_enter Try.func19, Try.ntmps19
  go_wp2_with fail
  go_ret2
  exact ⟨_, rfl, RO.nil _ _ _, Below.refl _ _⟩

theorem u64_bit2 (W k : Nat) (hW : W < 2 ^ 64) : (((W : Int) / 2 ^ k).tmod 2 == 1) = W.testBit k := by
  have e : (W : Int) / 2 ^ k = ((W / 2 ^ k : Nat) : Int) := by simp
  rw [e, Int.tmod_eq_emod_of_nonneg (Int.natCast_nonneg _), Nat.testBit_eq_decide_div_mod_eq]
  generalize W / 2 ^ k = q
  rw [Bool.eq_iff_iff]
  simp
  omega

set_option maxRecDepth 100000 in
set_option maxHeartbeats 4000000 in
theorem rnew_good {w : World} {vw : Value} {l : List Nat} (hA : RO w vw 1 l.length (natsV l)) (hx : ∀ x ∈ l, x < 2 ^ 64) (m : Nat) (hm : 1 ≤ m) (hlm : m ≤ 128) :
    Calls Try.prog 19 #[.int .i64 m, vw] w (RetEL w m (valW l).testBit 0) := by
  have hmi : (m : Int) ≤ 128 := by omega
  have hmi1 : decide ((m : Int) < 1) = false := by simp; omega
  have hmi2 : decide ((128 : Int) < m) = false := by simp; omega
  have HA := Lib.hid hA
  have HX := Lib.hid hx
  obtain ⟨pa, ca, rfl⟩ := hA.form
  have hmk := fun w => mk_bools m (by omega) w
  have HW := Lib.hid (valW_word l hx)
  generalize hX : valW l = X at *
  clear hA hm hlm hX hx
  go_enter Try.func19, Try.ntmps19
  go_wp2_with fail
  have k1 := Blk.new (w := w) 4 (bools (List.replicate m false))
  have hb : Below w.heap.size w (w.alloc (.cells (bools (List.replicate m false)).toArray 4)) := Below.new _ _
  have HK := Lib.hid (And.intro k1 hb)
  clear k1 hb hmk
  generalize w.alloc (.cells (bools (List.replicate m false)).toArray 4) = W at *
  go_loopw [7] (fun i wr => ∃ k : Nat, k ≤ m ∧ i = .int .i64 k ∧ Blk wr w.heap.size 4 (bools (rl m fun j => decide (j < k) && X.testBit j)) ∧ Below w.heap.size w wr) (fun i _ => m - (intOf i).toNat)
  case atStart =>
    refine ⟨0, Nat.zero_le _, rfl, ?_, HK.out.2⟩
    have : (rl m fun j => decide (j < 0) && X.testBit j) = List.replicate m false := by rw [← rl_false]; exact rl_congr fun i _ => by simp
    rw [this]; exact HK.out.1
  case round =>
    obtain ⟨k, hk, rfl, h1, hbel⟩ := hrel
    have HR := Lib.hid (And.intro h1 hbel)
    have q0 : IntKind.i64.wrap ((k : Int) / 64) = (k : Int) / 64 := IntWalk.i64_in _ (by omega)
    have q6 : (k : Int).tmod 64 = (k : Int) % 64 := Int.tmod_eq_emod_of_nonneg (by omega)
    have q8 : (k : Int).tdiv 64 = (k : Int) / 64 := Int.tdiv_eq_ediv_of_nonneg (by omega)
    by_cases hlt : k < m
    · have hki : (k : Int) < m := by omega
      have HS := Lib.hid (fun t ht => rl_step m k X.testBit t ht)
      have d0 := h1.cell (bools_at (rl m fun j => decide (j < k) && X.testBit j) k (by rw [rl_length]; exact hlt))
      have d1 := h1.frz k
      have HLT := Lib.hid hlt
      by_cases hin : k / 64 < l.length
      · have hii : (k : Int) / 64 < l.length := by omega
        have hword := HW.out (k / 64)
        have hatL : (natsV l)[k / 64]? = some (.int .u64 ((word X (k / 64) : Nat) : Int)) := by
          rw [hword, natsV, List.getElem?_map, List.getD, List.getElem?_eq_getElem hin]; rfl
        obtain ⟨bl, ol, rfl⟩ := (HA.out.below hbel).sl hatL
        have g0 := (HA.out.below hbel).cell hatL
        have HB := Lib.hid ((u64_bit2 (word X (k / 64)) (k % 64) (word_lt _ _)).trans (bit_word X k).symm)
        have q1 : (0 : Int) ≤ (k : Int) / 64 := by omega
        have q3 : ((k : Int) / 64).toNat = k / 64 := by omega
        have q4 : (0 : Int) ≤ (k : Int) % 64 := by omega
        have q5 : ((k : Int) % 64).toNat = k % 64 := by omega
        have q7 : min (k % 64) 64 = k % 64 := by omega
        generalize word X (k / 64) = x at *
        clear h1 hbel hatL hlt hk hin hword
        go_wp2_with fail
        go_roundw
        case rel => exact ⟨k + 1, HLT.out, by go_num, by rw [← HS.out _ HB.out]; exact HR.out.1.set k _, HR.out.2.setCell (Nat.le_refl _) _⟩
        case measure => simp [intOf]; omega
      · have hii : decide ((k : Int) / 64 < l.length) = false := by simp; omega
        clear h1 hbel hlt hk
        have hfin : (rl m fun j => decide (j < k) && X.testBit j) = rl m X.testBit := rl_congr fun i hi => by
          by_cases e : i < k
          · simp [e]
          · rw [bit_word X, HW.out, List.getD, List.getElem?_eq_none (by omega)]; simp [e]
        have HF := Lib.hid hfin
        clear hfin hin
        go_wp2_with fail
        go_ret2
        exact ⟨_, rfl, by rw [← HF.out]; exact RO.ofBlk HR.out.1, HR.out.2⟩
    · obtain rfl : k = m := by omega
      have hfin : (rl k fun j => decide (j < k) && X.testBit j) = rl k X.testBit := rl_congr fun i hi => by simp [hi]
      have HF := Lib.hid hfin
      have hii : decide ((k : Int) < k) = false := by simp
      clear h1 hbel hlt hfin
      go_wp2_with fail
      go_ret2
      exact ⟨_, rfl, by rw [← HF.out]; exact RO.ofBlk HR.out.1, HR.out.2⟩
end Go.Proofs.Ytmimafbedbohiaa
namespace Go.Proofs.Ytmimafbedbohiaa
set_option linter.unusedVariables false
open Go.RowKit

theorem short_any {w : World} {p : Option Addr} {n c : Nat} {f : Nat → Bool} (hA : RO w (.slice p n c) 1 n (bools (rl n f))) (hc : n ≤ c) (hn : n ≤ 1000000000000000000) : Calls Try.prog 18 #[.slice p n c] w fun e w' => e = .returned (.slice p (min n 140) c) ∧ w = w' := by
  by_cases h : n ≤ 140
  · have hi : (n : Int) ≤ 140 := by omega
    have e : min n 140 = n := by omega
    rw [e]
    clear hA e h
    go_enter Try.func18, Try.ntmps18
    go_wp2_with fail
    go_ret
    exact ⟨rfl, rfl⟩
  · obtain ⟨b, o, rfl⟩ := hA.ptr (by omega)
    have hi : (140 : Int) < n := by omega
    have e : min n 140 = 140 := by omega
    have hci : (140 : Int) ≤ c := by omega
    rw [e]
    clear hA e h
    go_enter Try.func18, Try.ntmps18
    go_wp2_with fail
    go_ret
    exact ⟨rfl, rfl⟩
theorem RO.short {w : World} {p : Option Addr} {n c c' m : Nat} {f : Nat → Bool} (hA : RO w (.slice p n c) 1 n (bools (rl n f))) (hm : m ≤ n) : RO w (.slice p m c') 1 m (bools (rl m f)) := by
  by_cases h0 : m = 0
  · subst h0; exact ⟨rfl, _, _, rfl, fun j u hj => by simp [rl, bools] at hj⟩
  · obtain ⟨b, o, rfl⟩ := hA.ptr (by omega)
    have := hA.part (lo := 0) (m := m) (c' := c') (by omega)
    rw [Nat.add_zero] at this
    rwa [show (fun j => f (0 + j)) = f from funext fun j => by rw [Nat.zero_add]] at this

/-- what fit gives -/
def fitF (g : Nat → Bool) (m j : Nat) : Bool := decide (j < m) && g j
theorem fit_cells (n m : Nat) (g : Nat → Bool) : splice (bools (List.replicate n false)) 0 ((bools (rl m g)).take n) = bools (rl n (fitF g m)) := by
  have ht : (bools (rl m g)).take n = bools (rl (min m n) g) := by
    rw [bools, ← List.map_take]; congr 1
    rw [rl, rl, ← List.map_take, List.take_range, Nat.min_comm]
  rw [ht, ← rl_false]
  unfold splice
  rw [List.take_zero, List.nil_append]
  have hd : (bools (rl n fun _ => false)).drop (0 + (bools (rl (min m n) g)).length) = bools (rl (n - min m n) fun _ => false) := by
    have hlen : (bools (rl (min m n) g)).length = min m n := by simp [bools, rl]
    rw [hlen, Nat.zero_add, bools, ← List.map_drop]; congr 1
    rw [rl_false, rl_false, List.drop_replicate]
  rw [hd, bools_append, rl_append, show min m n + (n - min m n) = n by omega]
  congr 1
  refine rl_congr fun i hi => ?_
  unfold fitF
  by_cases h : i < m
  · rw [if_pos (by omega), decide_eq_true h, Bool.true_and]
  · rw [if_neg (by omega), decide_eq_false h, Bool.false_and]

set_option maxRecDepth 100000 in
set_option maxHeartbeats 1000000 in
theorem fit_any {w : World} {vb : Value} {m n : Nat} {g : Nat → Bool} (hB : RO w vb 1 m (bools (rl m g))) (hn : n ≤ 140) : Calls Try.prog 29 #[vb, .int .i64 n] w (RetL w n (fitF g m)) := by
  have hni : (n : Int) ≤ 140 := by omega
  have HB := Lib.hid (hB.below (Below.new w (.cells (bools (List.replicate n false)).toArray 4)))
  obtain ⟨pb, cb, rfl⟩ := hB.form
  have hmk := fun w => mk_bools n (by omega) w
  have k1 := Blk.new (w := w) 4 (bools (List.replicate n false))
  have HK := Lib.hid (And.intro k1 (Below.new w (.cells (bools (List.replicate n false)).toArray 4)))
  clear hB hn k1
  go_enter Try.func29, Try.ntmps29
  go_wp2_with (refine wpList_copyR rfl _ _ 35 35 rfl 4 Try.underlying35 (by kernel_rfl) w.heap.size 0 n n rfl _ 4 HK.out.1 (by simp [bools]) _ _ _ rfl HB.out (bools_one _) ?_; intro w2 h2)
  go_ret
  refine ⟨_, rfl, ?_, below_grown HK.out.2 h2.out.2 HK.out.2.size (Nat.le_refl _)⟩
  have := h2.out.1
  rw [fit_cells] at this
  exact RO.ofBlk this

/-- a vector is returned, its words in no old block -/
def RetV (w : World) (n x : Nat) (e : Ending) (w' : World) : Prop := ∃ v, e = .returned v ∧ VR w' v n x ∧ Below w.heap.size w w' ∧ Far w v
theorem valB_rl (n : Nat) (f : Nat → Bool) : valB (rl n f) = ofB f n := by
  unfold valB; rw [rl_length]; exact ofB_congr fun i hi => rl_getD n f i hi
theorem of_rl {w : World} {vl : Value} {n : Nat} {f : Nat → Bool} (hl : RO w vl 1 n (bools (rl n f))) (h1 : 1 ≤ n) (h2 : n ≤ 128) : Calls Try.prog 21 #[vl] w (RetE w n (ofB f n) 0) := by
  have := of_good (w := w) (vl := vl) (l := rl n f) (by rwa [rl_length]) (by rwa [rl_length]) (by rwa [rl_length])
  rwa [rl_length, valB_rl] at this
theorem of_rl_bad {w : World} {vl : Value} {n : Nat} {f : Nat → Bool} (hl : RO w vl 1 n (bools (rl n f))) (hn : n ≤ 1000000000000000000) (h : n < 1 ∨ 128 < n) : Calls Try.prog 21 #[vl] w (RetE w 0 0 2) :=
  of_bad (w := w) (vl := vl) (l := rl n f) (by rwa [rl_length]) (by rw [rl_length]; omega) (by rwa [rl_length])

set_option maxRecDepth 100000 in
set_option maxHeartbeats 1000000 in
theorem own_of {w : World} {vl : Value} {n x : Nat} {err : Int} (H : ∀ w', Below w.heap.size w w' → Calls Try.prog 21 #[vl] w' (RetE w' n x err)) : Calls Try.prog 27 #[vl] w (RetV w n x) := by
  have HO := Lib.hid H
  clear H
  go_enter Try.func27, Try.ntmps27
  go_wp2_with fail
  have hT := (Tr.nil w).lay 26 [.int .i64 0, .slice none 0 0]
  generalize w.alloc (.cells [Value.int .i64 0, .slice none 0 0].toArray 26) = W at *
  have HT := Lib.hid hT
  clear hT
  refine (HO.out _ HT.out.bel).mono ?_; rintro e w1 ⟨v, rfl, hv, hb, hf⟩
  obtain ⟨p, c, rfl, _⟩ := hv.ex
  have HT1 := Lib.hid (HT.out.below hb)
  have HV := Lib.hid (And.intro hv hf)
  have HLT := Lib.hid (HT.out.at 0 rfl).lt
  have r0 := fun o => ((HT1.out.at 0 rfl).alloc o).cell (i := 0) rfl
  have r1 := fun o => ((HT1.out.at 0 rfl).alloc o).cell (i := 1) rfl
  have f0 := fun o => ((HT1.out.at 0 rfl).alloc o).frz 0
  have f1 := fun o => ((HT1.out.at 0 rfl).alloc o).frz 1
  clear hv hb hf
  go_wp2_with fail
  have hne : ∀ b o, p = some ⟨b, o, none⟩ → b ≠ w.heap.size := fun b o h => by
    have h1 := HV.out.2 _ _ _ _ _ _ rfl h
    have h2 := HLT.out
    omega
  obtain ⟨e0, e1, hv, hbl⟩ := ret3 (w := w) (((HT1.out.lay 26 [.int .i64 n, .slice p (wcount n) c]).at 1 rfl)) (HT1.out.lay 26 [.int .i64 n, .slice p (wcount n) c]).bel (Nat.le_refl _) (HV.out.1.below (Below.new _ _)) hne
  exact bodyPost_ret (v := .agg #[.int .i64 n, .slice p (wcount n) c]) (by simp [results, Try.results27, go_sem, e0, e1]) rfl ⟨_, rfl, hv, hbl, fun k p' m' c' b o e h => Nat.le_trans HT.out.bel.size (HV.out.2 k p' m' c' b o e h)⟩
theorem own_good {w : World} {vl : Value} {n : Nat} {f : Nat → Bool} (hl : RO w vl 1 n (bools (rl n f))) (h1 : 1 ≤ n) (h2 : n ≤ 128) : Calls Try.prog 27 #[vl] w (RetV w n (ofB f n)) :=
  own_of (err := 0) fun w' hb => of_rl (hl.below hb) h1 h2
theorem own_bad {w : World} {vl : Value} {n : Nat} {f : Nat → Bool} (hl : RO w vl 1 n (bools (rl n f))) (hn : n ≤ 1000000000000000000) (h : n < 1 ∨ 128 < n) : Calls Try.prog 27 #[vl] w (RetV w 0 0) :=
  own_of (err := 2) fun w' hb => of_rl_bad (hl.below hb) hn h

theorem RO.lits {w : World} {b : Nat} {l : List Nat} (h : Blk w b 22 (natsV l)) : RO w (.slice (some ⟨b, 0, none⟩) l.length l.length) 1 l.length (natsV l) := RO.ofCells h (natsV_length l)
set_option maxRecDepth 100000 in
set_option maxHeartbeats 4000000 in
theorem awake_any (w : World) : Calls Try.prog 13 #[] w fun e w' => e = .returned (.bool true) ∧ Below w.heap.size w w' := by
  have HN9 : Hid (∀ (w' : World) (k : Nat), w'.heap.size = k → Calls Try.prog 14 #[.int .i64 4, .slice (some ⟨k, 0, none⟩) 1 1] (w'.alloc (.cells #[.int .u64 9] 22)) (RetE (w'.alloc (.cells #[.int .u64 9] 22)) 4 9 0)) := Lib.hid fun w' k hk => by
    subst hk; exact new_good (l := [9]) 4 (by decide) (by decide) _ (RO.lits (Blk.new 22 (natsV [9]))) (by simp)
  have HN8 : Hid (∀ (w' : World) (k : Nat), w'.heap.size = k → Calls Try.prog 14 #[.int .i64 4, .slice (some ⟨k, 0, none⟩) 1 1] (w'.alloc (.cells #[.int .u64 8] 22)) (RetE (w'.alloc (.cells #[.int .u64 8] 22)) 4 8 0)) := Lib.hid fun w' k hk => by
    subst hk; exact new_good (l := [8]) 4 (by decide) (by decide) _ (RO.lits (Blk.new 22 (natsV [8]))) (by simp)
  have HT9 : Hid (∀ (w' : World) (v : Value), VR w' v 4 9 → Calls Try.prog 43 #[v] w' fun e w'' => e = .returned (.string { data := #[49, 48, 48, 49] }) ∧ Below w'.heap.size w' w'') := Lib.hid fun w' v h => text_any h
  have HT1 : Hid (∀ (w' : World) (v : Value), VR w' v 4 1 → Calls Try.prog 43 #[v] w' fun e w'' => e = .returned (.string { data := #[48, 48, 48, 49] }) ∧ Below w'.heap.size w' w'') := Lib.hid fun w' v h => text_any h
  go_enter Try.func13, Try.ntmps13
  go_wp2_with fail
  refine (HN9.out _ _ rfl).mono ?_; rintro e w1 ⟨v1, rfl, hv1, hb1, _⟩
  obtain ⟨p1, c1, rfl, _⟩ := hv1.ex
  have HX1 := Lib.hid (((Tr.nil w).below (Below.then (Below.new w _) hb1 (Nat.le_refl _))).lay 26 [.int .i64 4, .slice p1 (wcount 4) c1])
  have V1 := Lib.hid (hv1.below (Below.new w1 (.cells #[.int .i64 4, .slice p1 (wcount 4) c1] 26)))
  clear hv1 hb1
  go_wp2_with fail
  refine (HN8.out _ _ (by simp)).mono ?_; rintro e w2 ⟨v2, rfl, hv2, hb2, _⟩
  obtain ⟨p2, c2, rfl, _⟩ := hv2.ex
  have HB2 := Lib.hid (Below.then (Below.new _ _) hb2 (Nat.le_refl _))
  have HX2 := Lib.hid ((HX1.out.below HB2.out).lay 26 [.int .i64 4, .slice p2 (wcount 4) c2])
  have V2 := Lib.hid (And.intro ((V1.out.below HB2.out).below (Below.new w2 (.cells #[.int .i64 4, .slice p2 (wcount 4) c2] 26))) (hv2.below (Below.new w2 (.cells #[.int .i64 4, .slice p2 (wcount 4) c2] 26))))
  have q0 := (HX2.out.pr 1 rfl).1
  have q1 := (HX2.out.pr 1 rfl).2
  clear hv2 hb2
  go_wp2_with fail
  refine (bin_0 V2.out.1 V2.out.2 (by decide)).mono ?_; rintro e w3 ⟨v3, rfl, hv3, hb3, _⟩
  obtain ⟨p3, c3, rfl, _⟩ := hv3.ex
  have HX3 := Lib.hid ((HX2.out.below hb3).lay 26 [.int .i64 4, .slice p3 (wcount 4) c3])
  have V3 := Lib.hid (And.intro ((V2.out.1.below hb3).below (Below.new w3 (.cells #[.int .i64 4, .slice p3 (wcount 4) c3] 26))) (hv3.below (Below.new w3 (.cells #[.int .i64 4, .slice p3 (wcount 4) c3] 26))))
  have q0 := (HX3.out.pr 2 rfl).1
  have q1 := (HX3.out.pr 2 rfl).2
  clear hv3 hb3
  go_wp2_with fail
  refine (HT9.out _ _ V3.out.1).mono ?_; rintro e w4 ⟨rfl, hb4⟩
  have HX4 := Lib.hid (HX3.out.below hb4)
  have V4 := Lib.hid (V3.out.2.below hb4)
  have q0 := (HX4.out.pr 0 rfl).1
  have q1 := (HX4.out.pr 0 rfl).2
  clear hb4
  go_wp2_with fail
  refine (HT1.out _ _ V4.out).mono ?_; rintro e w5 ⟨rfl, hb5⟩
  have HX5 := Lib.hid (HX4.out.below hb5)
  clear hb5
  go_wp2_with fail
  go_ret
  exact ⟨rfl, HX5.out.bel⟩
end Go.Proofs.Ytmimafbedbohiaa
namespace Go.Proofs.Ytmimafbedbohiaa
set_option linter.unusedVariables false
open Go.RowKit

theorem VR.new_ne {w : World} {p : Option Addr} {c n x : Nat} (h : VR w (.agg #[.int .i64 n, .slice p (wcount n) c]) n x) (hn : 0 < n) : ∀ b o, p = some ⟨b, o, none⟩ → b ≠ w.heap.size := by
  rintro b o rfl
  obtain ⟨b', o', c', e', f'⟩ := h.word (i := 0) (by unfold wcount; omega)
  simp only [Value.agg.injEq, Array.mk.injEq, List.cons.injEq, Value.slice.injEq, true_and, and_true, Option.some.injEq, Addr.mk.injEq] at e'
  have := World.block_lt_of_cell? _ _ f'
  dsimp only at this
  omega
theorem Far.ne {w : World} {k : Value} {p : Option Addr} {m c L : Nat} (h : Far w (.agg #[k, .slice p m c])) (hL : L < w.heap.size) : ∀ b o, p = some ⟨b, o, none⟩ → b ≠ L := fun b o hp => by
  have := h _ _ _ _ _ _ rfl hp
  omega
theorem VR.set2 {w : World} {p : Option Addr} {c n x R : Nat} {x1 y1 : Value} (h : VR w (.agg #[.int .i64 n, .slice p (wcount n) c]) n x) (hne : ∀ b o, p = some ⟨b, o, none⟩ → b ≠ R) :
    VR ((w.setCell ⟨R, 0, none⟩ x1).setCell ⟨R, 1, none⟩ y1) (.agg #[.int .i64 n, .slice p (wcount n) c]) n x := by
  refine ⟨?_, h.lt, h.le⟩
  obtain ⟨⟨p', c', e, hl, p2, c2, e2, hcs⟩, _, _⟩ := h
  simp only [Value.agg.injEq, Array.mk.injEq, List.cons.injEq, Value.slice.injEq, true_and, and_true] at e
  obtain ⟨rfl, rfl⟩ := e
  refine ⟨p, c, rfl, hl, p2, c2, e2, fun j y hj => ?_⟩
  obtain ⟨b, o, h1, h2⟩ := hcs j y hj
  simp only [Value.slice.injEq] at e2
  obtain ⟨rfl, _⟩ := e2
  exact ⟨b, o, h1, (World.cell?_setCell_far _ _ _ _ (Ne.symm (hne b o h1))).trans ((World.cell?_setCell_far _ _ _ _ (Ne.symm (hne b o h1))).trans h2)⟩

set_option maxRecDepth 100000 in
set_option maxHeartbeats 1000000 in
/-- the closure of BvOrders -/
theorem is_any {w : World} {va vb : Value} {n m A B k : Nat} {q : Bool} (hA : VR w va n A) (hB : VR w vb m B)
    (H : ∀ w', Below w.heap.size w w' → Calls Try.prog 15 #[.int .i64 k, va, vb] w' (RetE w' 1 (b2n q) 0)) :
    Calls Try.prog 30 #[.int .i64 k, va, vb] w fun e w' => e = .returned (.int .i64 (if q then 1 else 0)) ∧ Below w.heap.size w w' := by
  have HO := Lib.hid H
  obtain ⟨pa, ca, rfl, _⟩ := hA.ex
  obtain ⟨pb, cb, rfl, _⟩ := hB.ex
  have HNm : Hid (∀ (w' : World) (v : Value), VR w' v 1 (b2n q) → Calls Try.prog 16 #[v, .int .i64 9] w' fun e w'' => e = .returned (.int .i64 (if q then 1 else 0)) ∧ Below w'.heap.size w' w'') := Lib.hid fun w' v h => (num_any h 9 (by decide)).mono fun e w'' ⟨he, hb⟩ => ⟨by rw [he]; cases q <;> rfl, hb⟩
  clear hA hB H
  generalize (if q = true then (1 : Int) else 0) = r at *
  go_enter Try.func30, Try.ntmps30
  go_wp2_with fail
  have hT := ((Tr.nil w).lay 26 [.int .i64 n, .slice pa (wcount n) ca]).lay 26 [.int .i64 m, .slice pb (wcount m) cb]
  generalize (w.alloc (.cells [Value.int .i64 n, .slice pa (wcount n) ca].toArray 26)).alloc (.cells [Value.int .i64 m, .slice pb (wcount m) cb].toArray 26) = W at *
  have HT := Lib.hid hT
  clear hT
  refine (HO.out _ HT.out.bel).mono ?_; rintro e w1 ⟨v, rfl, hv, hb, _⟩
  obtain ⟨p, c, rfl, _⟩ := hv.ex
  have HT1 := Lib.hid ((HT.out.below hb).lay 26 [.int .i64 (1 : Nat), .slice p (wcount 1) c])
  have HV := Lib.hid (hv.below (Below.new w1 (.cells #[.int .i64 (1 : Nat), .slice p (wcount 1) c] 26)))
  clear hv hb
  go_wp2_with fail
  refine (HNm.out _ _ HV.out).mono ?_; rintro e w2 ⟨rfl, hb2⟩
  have HT2 := Lib.hid (HT1.out.below hb2)
  clear hb2
  go_wp2_with fail
  go_ret
  exact ⟨rfl, HT2.out.bel⟩
end Go.Proofs.Ytmimafbedbohiaa
namespace Go.Proofs.Ytmimafbedbohiaa
set_option linter.unusedVariables false
open Go.RowKit

set_option maxRecDepth 100000 in
set_option maxHeartbeats 4000000 in
theorem un_0 {w : World} {va : Value} {n A : Nat} (hA : VR w va n A) (hn : 0 < n) :
    Calls Try.prog 33 #[.int .i64 0, va] w (RetE w n (notN n A) 0) := by
  have HA := Lib.hid hA
  have hni : (n : Int) ≤ 128 := by have := hA.le; omega
  have hn0 : ((n : Int) == 0) = false := by simp; omega
  obtain ⟨pa, ca, rfl, _⟩ := hA.ex
  have HC : Hid (∀ w', Below w.heap.size w w' → Calls Try.prog 48 #[.agg #[.int .i64 n, .slice pa (wcount n) ca]] w' (Fresh w' n (notN n A))) := Lib.hid (fun w' hb => not_any (hA.below hb) hn)
  clear hA hn
  go_enter Try.func33, Try.ntmps33
  go_wp2_with fail
  have hT := ((Tr.nil w).lay 26 [.int .i64 n, .slice pa (wcount n) ca]).lay 26 [.int .i64 0, .slice none 0 0]
  simp only [World.size_alloc] at hT
  generalize (w.alloc (.cells [Value.int .i64 n, .slice pa (wcount n) ca].toArray 26)).alloc (.cells [Value.int .i64 0, .slice none 0 0].toArray 26) = W at *
  have HT := Lib.hid hT
  clear hT
  refine (HC.out _ HT.out.bel).mono ?_; rintro e w2 ⟨v2, b2, rfl, hv2, hge2, hb2⟩
  obtain rfl := hv2.e
  have HT2 := Lib.hid (HT.out.cons hb2 hv2.blk hge2)
  have HL := Lib.hid hv2.lt
  have r0 := (HT2.out.pr 1 rfl).1
  have r1 := (HT2.out.pr 1 rfl).2
  have f0 := (HT2.out.at 1 rfl).frz 0
  have f1 := (HT2.out.at 1 rfl).frz 1
  clear hv2 hge2 hb2
  go_wp2_with fail
  have HT3 := Lib.hid (HT2.out.two 1 (x := .int .i64 n) (y := .slice (some ⟨b2, 0, none⟩) (wcount n) (wcount n)) rfl)
  have e0 := (HT3.out.pr 1 rfl).1
  have e1 := (HT3.out.pr 1 rfl).2
  exact bodyPost_ret (v := .tuple #[vecO n b2, .int .i64 0]) (by simp [results, Try.results33, go_sem, e0, e1, vecO]) rfl ⟨_, rfl, (HT3.out.vo 0 rfl HL.out HA.out.le).vr (notN_lt _ _), HT3.out.bel, Far.vec (HT3.out.far 0 rfl)⟩

set_option maxRecDepth 100000 in
set_option maxHeartbeats 4000000 in
theorem un_1 {w : World} {va : Value} {n A : Nat} (hA : VR w va n A) (hn : 0 < n) :
    Calls Try.prog 33 #[.int .i64 1, va] w (RetE w n (negN n A) 0) := by
  have HA := Lib.hid hA
  have hni : (n : Int) ≤ 128 := by have := hA.le; omega
  have hn0 : ((n : Int) == 0) = false := by simp; omega
  obtain ⟨pa, ca, rfl, _⟩ := hA.ex
  have HC : Hid (∀ w', Below w.heap.size w w' → Calls Try.prog 73 #[.agg #[.int .i64 n, .slice pa (wcount n) ca]] w' (Fresh w' n (negN n A))) := Lib.hid (fun w' hb => neg_any (hA.below hb) hn)
  clear hA hn
  go_enter Try.func33, Try.ntmps33
  go_wp2_with fail
  have hT := ((Tr.nil w).lay 26 [.int .i64 n, .slice pa (wcount n) ca]).lay 26 [.int .i64 0, .slice none 0 0]
  simp only [World.size_alloc] at hT
  generalize (w.alloc (.cells [Value.int .i64 n, .slice pa (wcount n) ca].toArray 26)).alloc (.cells [Value.int .i64 0, .slice none 0 0].toArray 26) = W at *
  have HT := Lib.hid hT
  clear hT
  refine (HC.out _ HT.out.bel).mono ?_; rintro e w2 ⟨v2, b2, rfl, hv2, hge2, hb2⟩
  obtain rfl := hv2.e
  have HT2 := Lib.hid (HT.out.cons hb2 hv2.blk hge2)
  have HL := Lib.hid hv2.lt
  have r0 := (HT2.out.pr 1 rfl).1
  have r1 := (HT2.out.pr 1 rfl).2
  have f0 := (HT2.out.at 1 rfl).frz 0
  have f1 := (HT2.out.at 1 rfl).frz 1
  clear hv2 hge2 hb2
  go_wp2_with fail
  have HT3 := Lib.hid (HT2.out.two 1 (x := .int .i64 n) (y := .slice (some ⟨b2, 0, none⟩) (wcount n) (wcount n)) rfl)
  have e0 := (HT3.out.pr 1 rfl).1
  have e1 := (HT3.out.pr 1 rfl).2
  exact bodyPost_ret (v := .tuple #[vecO n b2, .int .i64 0]) (by simp [results, Try.results33, go_sem, e0, e1, vecO]) rfl ⟨_, rfl, (HT3.out.vo 0 rfl HL.out HA.out.le).vr (negN_lt _ _), HT3.out.bel, Far.vec (HT3.out.far 0 rfl)⟩
end Go.Proofs.Ytmimafbedbohiaa
namespace Go.Proofs.Ytmimafbedbohiaa
set_option linter.unusedVariables false
open Go.RowKit

theorem Tr.subs {w W : World} {ls ls'} (h : Tr w ls W) (hs : ∀ p ∈ ls', p ∈ ls) (hnd : (ls'.map (·.1)).Nodup) : Tr w ls' W := ⟨h.bel, fun p hp => h.blk p (hs p hp), fun p hp => h.ge p (hs p hp), hnd⟩

set_option maxRecDepth 100000 in
set_option maxHeartbeats 1000000 in
/-- the closure of BvRing -/
theorem op_any {w : World} {va vb : Value} {n m A B q x : Nat} {k err : Int} (hA : VR w va n A) (hB : VR w vb m B)
    (H : ∀ w', Below w.heap.size w w' → Calls Try.prog 15 #[.int .i64 k, va, vb] w' (RetE w' q x err)) :
    Calls Try.prog 32 #[.int .i64 k, va, vb] w (RetV w q x) := by
  have HO := Lib.hid H
  obtain ⟨pa, ca, rfl, _⟩ := hA.ex
  obtain ⟨pb, cb, rfl, _⟩ := hB.ex
  clear hA hB H
  go_enter Try.func32, Try.ntmps32
  go_wp2_with fail
  have hT := (((Tr.nil w).lay 26 [.int .i64 n, .slice pa (wcount n) ca]).lay 26 [.int .i64 m, .slice pb (wcount m) cb]).lay 26 [.int .i64 0, .slice none 0 0]
  simp only [World.size_alloc] at hT
  generalize ((w.alloc (.cells [Value.int .i64 n, .slice pa (wcount n) ca].toArray 26)).alloc (.cells [Value.int .i64 m, .slice pb (wcount m) cb].toArray 26)).alloc (.cells [Value.int .i64 0, .slice none 0 0].toArray 26) = W at *
  have HT := Lib.hid hT
  clear hT
  refine (HO.out _ HT.out.bel).mono ?_; rintro e w1 ⟨v, rfl, hv, hb, hf⟩
  obtain ⟨p, c, rfl, _⟩ := hv.ex
  have HT1 := Lib.hid (HT.out.below hb)
  have HV := Lib.hid (And.intro hv hf)
  have HLT := Lib.hid (HT.out.at 0 rfl).lt
  have r0 := fun o => ((HT1.out.at 0 rfl).alloc o).cell (i := 0) rfl
  have r1 := fun o => ((HT1.out.at 0 rfl).alloc o).cell (i := 1) rfl
  have f0 := fun o => ((HT1.out.at 0 rfl).alloc o).frz 0
  have f1 := fun o => ((HT1.out.at 0 rfl).alloc o).frz 1
  clear hv hb hf
  go_wp2_with fail
  have hne : ∀ b o, p = some ⟨b, o, none⟩ → b ≠ w.heap.size + 1 + 1 := Far.ne HV.out.2 HLT.out
  obtain ⟨e0, e1, hv, hbl⟩ := ret3 (w := w) (((HT1.out.lay 26 [.int .i64 q, .slice p (wcount q) c]).at 1 rfl)) (HT1.out.lay 26 [.int .i64 q, .slice p (wcount q) c]).bel (by omega) (HV.out.1.below (Below.new _ _)) hne
  exact bodyPost_ret (v := .agg #[.int .i64 q, .slice p (wcount q) c]) (by simp [results, Try.results32, go_sem, e0, e1]) rfl ⟨_, rfl, hv, hbl, fun k p' m' c' b o e h => Nat.le_trans HT.out.bel.size (HV.out.2 k p' m' c' b o e h)⟩
end Go.Proofs.Ytmimafbedbohiaa
