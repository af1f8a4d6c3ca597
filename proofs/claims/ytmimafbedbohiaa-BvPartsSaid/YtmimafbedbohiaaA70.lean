import Derived.Test.YtmimafbedbohiaaA69
import Derived.Test.YtmimafbedbohiaaA62
import Derived.Test.YtmimafbedbohiaaA61
import Derived.Test.YtmimafbedbohiaaP11
namespace Go.Proofs.Ytmimafbedbohiaa
set_option linter.unusedVariables false
open Go.RowKit

theorem LN.keep2 {w : World} {p q : Option Addr} {c n x L t m d : Nat} {a : Int} {x1 y1 : Value} (h : LN w (.slice p n c) n x) (hk : Blk w L t [.int .i64 a, .slice q m d]) :
    LN ((w.setCell ⟨L, 0, none⟩ x1).setCell ⟨L, 1, none⟩ y1) (.slice p n c) n x := by
  obtain ⟨f, ⟨h1, p', c', e, hr⟩, hx⟩ := h
  refine ⟨f, ⟨h1, p', c', e, fun j u hj => ?_⟩, hx⟩
  obtain ⟨b, o, hp, hc⟩ := hr j u hj
  refine ⟨b, o, hp, ?_⟩
  have hne : b ≠ L := by
    rintro rfl
    unfold Blk at hk
    simp [World.cell?, hk] at hc
    have hu : ∃ t, u = .bool t := by
      simp only [bools, List.getElem?_map, Option.map_eq_some_iff] at hj
      obtain ⟨t, _, rfl⟩ := hj; exact ⟨t, rfl⟩
    obtain ⟨t, rfl⟩ := hu
    generalize o + j = i at hc
    match i with
    | 0 => simp at hc
    | 1 => simp at hc
    | i + 2 => simp at hc
  simp only [World.cell?] at hc ⊢
  rw [Below.heap_setCell _ _ _ _ hne, Below.heap_setCell _ _ _ _ hne]
  exact hc
theorem RetEL.ne {w : World} {n x : Nat} {f : Nat → Bool} {err : Int} {e : Ending} {w' : World} (h : RetEL w n f err e w') (hx : ofB f n = x) : RetNE w n x err e w' := by
  obtain ⟨v, he, hr, hb⟩ := h
  exact ⟨v, he, ⟨f, hr, hx⟩, hb⟩
theorem slice_both {n A : Nat} (hn : n ≤ 128) (lo k : Int) : ∃ (N X : Nat) (err : Int),
    (∀ W va, VR W va n A → Calls Try.prog 34 #[va, .int .i64 lo, .int .i64 k] W (RetX W N X err)) ∧ (∀ W p c, n ≤ c → LN W (.slice p n c) n A → Calls Try.prog 37 #[.slice p n c, .int .i64 lo, .int .i64 k] W (RetNE W N X err)) := by
  by_cases h1 : lo < 0 ∨ k < 1 ∨ (n : Int) < k ∨ (n : Int) - k < lo
  · exact ⟨0, 0, 3, fun W va ha => (slice_bad ha lo k h1).mono fun _ _ h => h.x, fun W p c hc ⟨f, ha, _⟩ => (rslice_bad ha (by omega) lo k h1).mono fun _ _ h => h.ne rfl⟩
  · obtain ⟨l, rfl⟩ : ∃ l : Nat, lo = l := ⟨lo.toNat, by omega⟩
    obtain ⟨m, rfl⟩ : ∃ m : Nat, k = m := ⟨k.toNat, by omega⟩
    refine ⟨m, ofB (sliceF A l) m, 0, fun W va ha => (slice_good ha l m (by omega) (by omega)).mono fun _ _ h => h.x, fun W p c hc ⟨f, ha, e⟩ => (rslice_good ha hc (by omega) l m (by omega) (by omega)).mono fun _ _ h => h.ne ?_⟩
    refine ofB_congr fun i hi => ?_
    subst e
    unfold sliceF sliceR
    rw [testBit_ofB, decide_eq_true (by omega), Bool.true_and]
theorem put_both {n m A B : Nat} (hn : n ≤ 128) (hm : m ≤ 128) (lo : Int) : ∃ (N X : Nat) (err : Int),
    (∀ W va vb, VR W va n A → VR W vb m B → Calls Try.prog 31 #[va, .int .i64 lo, vb] W (RetX W N X err)) ∧ (∀ W p c vb, n ≤ c → LN W (.slice p n c) n A → LN W vb m B → Calls Try.prog 38 #[.slice p n c, .int .i64 lo, vb] W (RetNE W N X err)) := by
  by_cases h1 : lo < 0 ∨ m < 1 ∨ n < m ∨ (n : Int) - m < lo
  · exact ⟨0, 0, 3, fun W va vb ha hb => (put_bad ha hb lo h1).mono fun _ _ h => h.x, fun W p c vb hc ⟨f, ha, _⟩ ⟨g, hb, _⟩ => (rput_bad ha hb (by omega) (by omega) lo (by omega)).mono fun _ _ h => h.ne rfl⟩
  · obtain ⟨l, rfl⟩ : ∃ l : Nat, lo = l := ⟨lo.toNat, by omega⟩
    refine ⟨n, ofB (putF A B l m) n, 0, fun W va vb ha hb => (put_good ha hb l (by omega) (by omega)).mono fun _ _ h => h.x, fun W p c vb hc ⟨f, ha, e⟩ ⟨g, hb, e'⟩ => (rput_good ha hc (by omega) hb l (by omega) (by omega)).mono fun _ _ h => h.ne ?_⟩
    refine ofB_congr fun i hi => ?_
    subst e; subst e'
    unfold putF putR
    rw [testBit_ofB, testBit_ofB, decide_eq_true (show i < n by omega), Bool.true_and]
    by_cases h2 : i < l
    · rw [if_pos h2, if_pos h2]
    · rw [if_neg h2, if_neg h2]
      by_cases h3 : i < l + m
      · rw [if_pos h3, if_pos h3, decide_eq_true (by omega), Bool.true_and]
      · rw [if_neg h3, if_neg h3]
theorem ext_both {n A : Nat} (hn : n ≤ 128) (k : Int) (s : Bool) : ∃ (N X : Nat) (err : Int),
    (∀ W va, VR W va n A → Calls Try.prog 36 #[va, .int .i64 k, .bool s] W (RetX W N X err)) ∧ (∀ W va, LN W va n A → Calls Try.prog 40 #[va, .int .i64 k, .bool s] W (RetNE W N X err)) := by
  by_cases h1 : k < 1 ∨ 128 < k ∨ n = 0
  · exact ⟨0, 0, 2, fun W va ha => (ext_bad ha k s h1).mono fun _ _ h => h.x, fun W va ⟨f, ha, _⟩ => (rext_bad ha k s h1).mono fun _ _ h => h.ne rfl⟩
  · obtain ⟨m, rfl⟩ : ∃ m : Nat, k = m := ⟨k.toNat, by omega⟩
    refine ⟨m, ofB (extF A n s) m, 0, fun W va ha => (ext_good ha m s (by omega) (by omega) (by omega)).mono fun _ _ h => h.x, fun W va ⟨f, ha, e⟩ => (rext_good ha hn m s (by omega) (by omega) (by omega)).mono fun _ _ h => h.ne ?_⟩
    refine ofB_congr fun i hi => ?_
    subst e
    unfold extF extR
    have hb : bitI (ofB f n) ((n : Int) - 1) = f (n - 1) := by
      unfold bitI
      rw [decide_eq_true (by omega), Bool.true_and, show ((n : Int) - 1).toNat = n - 1 by omega, testBit_ofB, decide_eq_true (by omega), Bool.true_and]
    rw [hb, testBit_ofB]
    by_cases h2 : i < n
    · have h3 : ¬ n ≤ i := by omega
      simp [h2, h3]
    · have h3 : n ≤ i := by omega
      simp [h2, h3]
theorem equal_both {n m A B : Nat} (hn : n ≤ 128) (hm : m ≤ 128) {W : World} {va vb : Value} (ha : LN W va n A) (hb : LN W vb m B) : Calls Try.prog 41 #[va, vb] W fun e w' => e = .returned (.bool (decide (n = m ∧ A = B))) ∧ Below W.heap.size W w' := by
  obtain ⟨f, ha, rfl⟩ := ha
  obtain ⟨g, hb, rfl⟩ := hb
  by_cases h : n = m
  · subst h
    refine (requal_any ha hb (by omega)).mono fun e w' ⟨he, hw⟩ => ⟨by rw [he]; simp, hw⟩
  · refine (requal_diff ha hb h).mono fun e w' ⟨he, hw⟩ => ⟨by rw [he]; simp [h], by subst hw; exact Below.refl _ _⟩
def tri (a b c : Nat) (j : Nat) : Nat := if j = 0 then a else if j = 1 then b else c
/-- Cat of three, the program's and the reference's -/
theorem cat_three (n m A B : Nat) (hn : n ≤ 128) (hm : m ≤ 128) : ∃ (N X : Nat) (err : Int),
    (∀ (W : World) (p q : Option Addr) (c d L : Nat), W.heap.size = L → VR W (.agg #[.int .i64 n, .slice p (wcount n) c]) n A → VR W (.agg #[.int .i64 m, .slice q (wcount m) d]) m B →
      Calls Try.prog 35 #[.slice (some ⟨L, 0, none⟩) 3 3] (W.alloc (.cells #[.int .i64 n, .slice p (wcount n) c, .int .i64 m, .slice q (wcount m) d, .int .i64 n, .slice p (wcount n) c] 26)) (RetX (W.alloc (.cells #[.int .i64 n, .slice p (wcount n) c, .int .i64 m, .slice q (wcount m) d, .int .i64 n, .slice p (wcount n) c] 26)) N X err)) ∧
    (∀ (W : World) (p q : Option Addr) (c d L : Nat), W.heap.size = L → LN W (.slice p n c) n A → LN W (.slice q m d) m B →
      Calls Try.prog 39 #[.slice (some ⟨L, 0, none⟩) 3 3] (W.alloc (.cells #[.slice p n c, .slice q m d, .slice p n c] 35)) (RetNE (W.alloc (.cells #[.slice p n c, .slice q m d, .slice p n c] 35)) N X err)) := by
  have h1 : ∀ (W : World) (p q : Option Addr) (c d L : Nat), W.heap.size = L → VR W (.agg #[.int .i64 n, .slice p (wcount n) c]) n A → VR W (.agg #[.int .i64 m, .slice q (wcount m) d]) m B →
      Calls Try.prog 35 #[.slice (some ⟨L, 0, none⟩) 3 3] (W.alloc (.cells #[.int .i64 n, .slice p (wcount n) c, .int .i64 m, .slice q (wcount m) d, .int .i64 n, .slice p (wcount n) c] 26)) (CatR (W.alloc (.cells #[.int .i64 n, .slice p (wcount n) c, .int .i64 m, .slice q (wcount m) d, .int .i64 n, .slice p (wcount n) c] 26)) 3 (tri n m n) (tri A B A)) := by
    intro W p q c d L hL ha hb
    subst hL
    have hbw := Below.new W (.cells #[.int .i64 n, .slice p (wcount n) c, .int .i64 m, .slice q (wcount m) d, .int .i64 n, .slice p (wcount n) c] 26)
    have hB : Blk (W.alloc (.cells #[.int .i64 n, .slice p (wcount n) c, .int .i64 m, .slice q (wcount m) d, .int .i64 n, .slice p (wcount n) c] 26)) W.heap.size 26 [.int .i64 n, .slice p (wcount n) c, .int .i64 m, .slice q (wcount m) d, .int .i64 n, .slice p (wcount n) c] := Blk.new 26 _
    refine cat_any 3 (tri n m n) (tri A B A) (fun j => if j = 1 then (q, wcount m, d) else (p, wcount n, c)) (by decide) (.inr ⟨_, _, _, rfl, by simp, fun j hj => ?_⟩) (fun j hj => ?_)
    · match j, hj with
      | 0, _ => exact ⟨hB.cell (i := 0) rfl, hB.cell (i := 1) rfl⟩
      | 1, _ => exact ⟨hB.cell (i := 2) rfl, hB.cell (i := 3) rfl⟩
      | 2, _ => exact ⟨hB.cell (i := 4) rfl, hB.cell (i := 5) rfl⟩
    · match j, hj with
      | 0, _ => exact ha.below hbw
      | 1, _ => exact hb.below hbw
      | 2, _ => exact ha.below hbw
  have h2 : ∀ (W : World) (p q : Option Addr) (c d L : Nat), W.heap.size = L → LN W (.slice p n c) n A → LN W (.slice q m d) m B →
      Calls Try.prog 39 #[.slice (some ⟨L, 0, none⟩) 3 3] (W.alloc (.cells #[.slice p n c, .slice q m d, .slice p n c] 35)) (CatN (W.alloc (.cells #[.slice p n c, .slice q m d, .slice p n c] 35)) 3 (tri n m n) (tri A B A)) := by
    intro W p q c d L hL ha hb
    subst hL
    have hbw := Below.new W (.cells #[.slice p n c, .slice q m d, .slice p n c] 35)
    have hB : Blk (W.alloc (.cells #[.slice p n c, .slice q m d, .slice p n c] 35)) W.heap.size 35 [.slice p n c, .slice q m d, .slice p n c] := Blk.new 35 _
    have hro : ∀ {p : Option Addr} {c n A : Nat}, LN W (.slice p n c) n A → RO (W.alloc (.cells #[.slice p n c, .slice q m d, .slice p n c] 35)) (.slice p n c) 1 n (bools (bitsOf n A)) → True := fun _ _ => trivial
    have hbits : ∀ {V : World} {p : Option Addr} {c n A : Nat}, LN V (.slice p n c) n A → RO V (.slice p n c) 1 n (bools (bitsOf n A)) := by
      rintro V p c n A ⟨f, hf, rfl⟩
      rwa [show bitsOf n (ofB f n) = rl n f from rl_congr fun i hi => by rw [testBit_ofB, decide_eq_true hi, Bool.true_and]]
    refine rcat_any 3 (tri n m n) (tri A B A) (fun j => if j = 1 then (q, d) else (p, c)) (by decide) (fun j hj => ?_) (by simp) (fun j hj => ?_) (fun j hj => ?_)
    · match j, hj with
      | 0, _ => exact hB.cell (i := 0) rfl
      | 1, _ => exact hB.cell (i := 1) rfl
      | 2, _ => exact hB.cell (i := 2) rfl
    · match j, hj with
      | 0, _ => exact hbits (ha.below hbw)
      | 1, _ => exact hbits (hb.below hbw)
      | 2, _ => exact hbits (ha.below hbw)
    · match j, hj with
      | 0, _ => exact (by show n ≤ 140; omega)
      | 1, _ => exact (by show m ≤ 140; omega)
      | 2, _ => exact (by show n ≤ 140; omega)
  by_cases hk : catOK (tri n m n) (tri A B A) 3
  · refine ⟨_, _, 0, fun W p q c d L hL ha hb => (h1 W p q c d L hL ha hb).mono fun e w' hR => ?_, fun W p q c d L hL ha hb => (h2 W p q c d L hL ha hb).mono fun e w' hR => hR.1 hk⟩
    unfold CatR at hR
    have hk' := hk
    unfold catOK at hk'
    rw [if_pos hk'] at hR
    exact hR.x
  · refine ⟨0, 0, 2, fun W p q c d L hL ha hb => (h1 W p q c d L hL ha hb).mono fun e w' hR => ?_, fun W p q c d L hL ha hb => (h2 W p q c d L hL ha hb).mono fun e w' hR => hR.2 hk⟩
    unfold CatR at hR
    have hk' := hk
    unfold catOK at hk'
    rw [if_neg hk'] at hR
    exact hR.x
theorem cat_none (W : World) : Calls Try.prog 35 #[.slice none 0 0] W (RetX W 0 0 2) := by
  refine (cat_any 0 (fun _ => 0) (fun _ => 0) (fun _ => (none, 0, 0)) (by decide) (.inl ⟨rfl, rfl⟩) (fun j hj => absurd hj (by omega))).mono fun e w' hR => ?_
  unfold CatR at hR
  rw [if_neg (by rw [show catL (fun _ => 0) (fun _ => 0) (downs 0 0) = [] from rfl]; simp)] at hR
  exact hR.x
end Go.Proofs.Ytmimafbedbohiaa
