import Derived.Test.YtmimafbedbohiaaR6
import Derived.Deep.CutRange
import Derived.BigRegion
import Derived.RegionTactic
namespace Go.Proofs.Ytmimafbedbohiaa
set_option linter.unusedVariables false
open Go.RowKit

/-- a list of bits that lies in a block of one's own, with cells behind -/
def OB (w : World) (v : Value) (l : List Bool) (g : Nat) : Prop := ∃ cap rest, v = .slice (some ⟨g, 0, none⟩) l.length cap ∧ Blk w g 4 (bools l ++ rest)
theorem own_bits {w : World} {base n : Nat} {v : Value} {l : List Bool} (h : w.ownsRow base 4 1 v n (bools l)) (hn : 1 ≤ n) : ∃ g, base ≤ g ∧ OB w v l g := by
  obtain ⟨hl, h | ⟨g, cap, cur, rfl, hb, hg, h1, h2, h3, h4⟩⟩ := h
  · omega
  · have hlen : l.length = n := by simpa [bools] using hl
    refine ⟨g, hb, cap, cur.toList.drop (n * 1), by rw [hlen], ?_⟩
    unfold Blk
    rw [hg, ← h4, List.take_append_drop]
theorem OB.ro {w : World} {g cap : Nat} {l : List Bool} {rest : List Value} (h : Blk w g 4 (bools l ++ rest)) : RO w (.slice (some ⟨g, 0, none⟩) l.length cap) 1 l.length (bools l) := by
  refine ⟨by simp [bools], _, _, rfl, fun j u hj => ⟨g, 0, rfl, ?_⟩⟩
  rw [Nat.zero_add]
  refine h.cell ?_
  rw [List.getElem?_append_left (by rcases Nat.lt_or_ge j (bools l).length with h' | h'; exact h'; rw [List.getElem?_eq_none h'] at hj; cases hj)]; exact hj
theorem OB.setb {w : World} {g i : Nat} {l : List Bool} {rest : List Value} {q : Bool} (h : Blk w g 4 (bools l ++ rest)) (hi : i < l.length) : Blk (w.setCell ⟨g, i, none⟩ (.bool q)) g 4 (bools (l.set i q) ++ rest) := by
  have := h.set i (.bool q)
  rwa [List.set_append_left _ _ (by simpa [bools] using hi), bools_set] at this
theorem OB.at {l : List Bool} {rest : List Value} {i : Nat} (hi : i < l.length) : (bools l ++ rest)[i]? = some (.bool (l.getD i false)) := by
  rw [List.getElem?_append_left (by simpa [bools] using hi)]; exact bools_at _ _ hi
theorem turn_top {n A : Nat} (h1 : 1 ≤ n) : (rl n A.testBit).set (n - 1) (!(A.testBit (n - 1))) = rl n (A ^^^ 2 ^ (n - 1)).testBit := by
  rw [rl_set]
  refine rl_congr fun i hi => ?_
  rw [Nat.testBit_xor, Nat.testBit_two_pow]
  by_cases e : i = n - 1
  · subst e; simp
  · have : ¬ n - 1 = i := fun h => e h.symm
    simp [e, this]
theorem xor_top_lt {n A : Nat} (h1 : 1 ≤ n) (hA : A < 2 ^ n) : A ^^^ 2 ^ (n - 1) < 2 ^ n := Nat.xor_lt_two_pow hA (Nat.pow_lt_pow_right (by decide) (by omega))

set_option maxRecDepth 100000 in
set_option maxHeartbeats 8000000 in
theorem rbin_17 {w : World} {va vb : Value} {n A B : Nat} (hA : LN w va n A) (hB : LN w vb n B) (h1 : 1 ≤ n) (hn : n ≤ 128) : Calls Try.prog 28 #[.int .i64 17, va, vb] w (RetNE w 1 (b2n (cmpB 17 n A B)) 0) := by
  have hni : (n : Int) ≤ 128 := by omega
  have hn0 : ((n : Int) == 0) = false := by simp; omega
  have HN := Lib.hid (And.intro h1 hn)
  obtain ⟨pa, ca, rfl⟩ := hA.form
  obtain ⟨pb, cb, rfl⟩ := hB.form
  have hmk := fun w => mk_bools n (by omega) w
  have hbl : Below w.heap.size w (w.alloc (.cells (bools (List.replicate n false)).toArray 4)) := Below.new _ _
  have HA := Lib.hid (hA.below hbl)
  have HB := Lib.hid (hB.below hbl)
  have HW := Lib.hid hbl
  obtain ⟨S, hS⟩ : ∃ S, min B n = S := ⟨_, rfl⟩
  have HNum := Lib.hid (nnum (n := n) (hB.below hbl) hn hn)
  rw [hS] at HNum
  have HS := Lib.hid hS
  have hSi : (S : Int) ≤ 128 := by omega
  have hSn : IntKind.i64.wrap (-(S : Int)) = -(S : Int) := IntWalk.i64_in _ (by omega)
  have hlA := hA.lt
  have hlB := hB.lt
  obtain ⟨q, hq⟩ : ∃ q, decide (A ^^^ 2 ^ (n - 1) < B ^^^ 2 ^ (n - 1)) = q := ⟨_, rfl⟩
  have HQ := Lib.hid hq
  have HC : Hid (cmpB 17 n A B = q) := Lib.hid (by rw [← hq, ← slt_xor (by omega) hlA hlB]; rfl)
  rw [HC.out]
  have HL := Lib.hid (And.intro hlA hlB)
  have HAB := Lib.hid (hA.bits.below hbl)
  have HBB := Lib.hid (hB.bits.below hbl)
  have q0 : (0 : Int) ≤ (n : Int) - 1 := by omega
  have q1 : (n : Int) - 1 < n := by omega
  have q2 : ((n : Int) - 1).toNat = n - 1 := by omega
  have q3 : IntKind.i64.wrap ((n : Int) - 1) = (n : Int) - 1 := IntWalk.i64_in _ (by omega)
  have q4 : (1 : Int) ≤ n := by omega
  clear hA hB h1 hn hbl hS hq HC hlA hlB
  go_enter Try.func28, Try.ntmps28
  go_wp2_with fail
  generalize w.alloc (.cells (bools (List.replicate n false)).toArray 4) = W at *
  refine HNum.out.mono ?_; rintro e w' ⟨rfl, rfl⟩
  clear hmk
  have HS0 := Lib.hid (own_bools0 W)
  have HR0 := Lib.hid (HAB.out.below (Below.new W (.cells #[] 4)))
  go_upto_region 43 with (at_builtin; go_must (refine wpList_appR rfl _ _ 35 rfl Try.T35 W.heap.size (.slice (some ⟨W.heap.size, 0, none⟩) 0 0) 0 (bools []) rfl HS0.out _ n _ rfl HR0.out (bools_one _) (by have := HN.out; omega) (by have := HN.out; omega) (by simp) ?_); intro v4 w4 happ; have HP := Lib.hid happ; clear happ)
  have hb4 := HP.out.below (Below.new W _) (by simp) (fun k hk => by have := own_bk hk; omega)
  have hown := HP.out.own
  rw [Nat.zero_add, bools_append, List.nil_append] at hown
  obtain ⟨g4, hg4, cap4, rest4, ev4, hk4⟩ := own_bits hown HN.out.1
  rw [rl_length] at ev4
  subst ev4
  have HK4 := Lib.hid (And.intro hk4 (And.intro hk4.lt (And.intro hb4 hg4)))
  have HS1 := Lib.hid (own_bools0 w4)
  have HR1 := Lib.hid ((HBB.out.below hb4).below (Below.new w4 (.cells #[] 4)))
  clear hb4 hown hg4 hk4 HP HS0 HR0
  go_upto_region 44 with (at_builtin; go_must (refine wpList_appR rfl _ _ 35 rfl Try.T35 w4.heap.size (.slice (some ⟨w4.heap.size, 0, none⟩) 0 0) 0 (bools []) rfl HS1.out _ n _ rfl HR1.out (bools_one _) (by have := HN.out; omega) (by have := HN.out; omega) (by simp) ?_); intro v5 w5 happ; have HP := Lib.hid happ; clear happ)
  have hb5 := HP.out.below (Below.new w4 _) (by simp) (fun k hk => by have := own_bk hk; omega)
  have hown := HP.out.own
  rw [Nat.zero_add, bools_append, List.nil_append] at hown
  obtain ⟨g5, hg5, cap5, rest5, ev5, hk5⟩ := own_bits hown HN.out.1
  rw [rl_length] at ev5
  subst ev5
  have HX5 := Lib.hid (HK4.out.1.below hb5 HK4.out.2.1)
  have HY5 := Lib.hid hk5
  have HNE := Lib.hid (show g4 ≠ g5 by have := HK4.out.2.1; omega)
  have HB5 := Lib.hid (HK4.out.2.2.1.trans (hb5.mono HK4.out.2.2.1.size))
  have HGE := Lib.hid (show W.heap.size ≤ g4 ∧ W.heap.size ≤ g5 by have := HK4.out.2.2.1.size; have := HK4.out.2.2.2; exact ⟨by omega, by omega⟩)
  clear hb5 hown hg5 hk5 HP HS1 HR1 HK4
  have x0 := HX5.out.cell (OB.at (l := rl n A.testBit) (rest := rest4) (i := n - 1) (by rw [rl_length]; have := HN.out; omega))
  rw [rl_getD _ _ _ (by have := HN.out; omega)] at x0
  have x1 := HX5.out.frz (n - 1)
  go_upto_region 45 with fail
  have hX6 := OB.setb (i := n - 1) (q := !(A.testBit (n - 1))) HX5.out (by rw [rl_length]; have := HN.out; omega)
  rw [turn_top HN.out.1] at hX6
  have HX6 := Lib.hid hX6
  have HY6 := Lib.hid (HY5.out.other (.bool (!(A.testBit (n - 1)))) (a := ⟨g4, n - 1, none⟩) (fun h => HNE.out h.symm))
  have HB6 := Lib.hid (HB5.out.setCell (p := ⟨g4, n - 1, none⟩) HGE.out.1 (.bool (!(A.testBit (n - 1)))))
  clear hX6 x0 x1 HX5 HY5
  generalize w5.setCell ⟨g4, n - 1, none⟩ (.bool (!(A.testBit (n - 1)))) = W6 at *
  have y0 := HY6.out.cell (OB.at (l := rl n B.testBit) (rest := rest5) (i := n - 1) (by rw [rl_length]; have := HN.out; omega))
  rw [rl_getD _ _ _ (by have := HN.out; omega)] at y0
  have y1 := HY6.out.frz (n - 1)
  go_upto_region 46 with fail
  have hY7 := OB.setb (i := n - 1) (q := !(B.testBit (n - 1))) HY6.out (by rw [rl_length]; have := HN.out; omega)
  rw [turn_top HN.out.1] at hY7
  have hX7 := HX6.out.other (.bool (!(B.testBit (n - 1)))) (a := ⟨g5, n - 1, none⟩) HNE.out
  have HW7 := Lib.hid (HW.out.trans ((HB6.out.setCell (p := ⟨g5, n - 1, none⟩) HGE.out.2 (.bool (!(B.testBit (n - 1))))).mono HW.out.size))
  have hX7r := OB.ro (cap := cap4) hX7
  have hY7r := OB.ro (cap := cap5) hY7
  rw [rl_length] at hX7r hY7r
  have HX7 : Hid (LN _ _ n (A ^^^ 2 ^ (n - 1))) := Lib.hid ⟨_, hX7r, by rw [ofB_mod', Nat.mod_eq_of_lt (xor_top_lt HN.out.1 HL.out.1)]⟩
  have HY7 : Hid (LN _ _ n (B ^^^ 2 ^ (n - 1))) := Lib.hid ⟨_, hY7r, by rw [ofB_mod', Nat.mod_eq_of_lt (xor_top_lt HN.out.1 HL.out.2)]⟩
  clear hX7r hY7r hX7 hY7 y0 y1 HX6 HY6 HB6
  generalize W6.setCell ⟨g5, n - 1, none⟩ (.bool (!(B.testBit (n - 1)))) = W7 at *
  go_wp2_with fail
  have hc := nless HX7.out HY7.out (by have := HN.out; omega)
  rw [HQ.out] at hc
  refine hc.mono ?_; rintro e w8 ⟨rfl, hb8⟩
  have HW8 := Lib.hid (HW7.out.trans (hb8.mono HW7.out.size))
  clear hb8 hc
  go_wp2_with fail
  refine (none_one _ _).mono ?_; rintro e w9 ⟨v9, rfl, h9, hb9⟩
  have HF := Lib.hid (And.intro h9 (HW8.out.trans (hb9.mono HW8.out.size)))
  clear h9 hb9
  go_wp2_with fail
  go_ret2
  exact ⟨_, rfl, HF.out.1, HF.out.2⟩

set_option maxRecDepth 100000 in
set_option maxHeartbeats 8000000 in
theorem rbin_18 {w : World} {va vb : Value} {n A B : Nat} (hA : LN w va n A) (hB : LN w vb n B) (h1 : 1 ≤ n) (hn : n ≤ 128) : Calls Try.prog 28 #[.int .i64 18, va, vb] w (RetNE w 1 (b2n (cmpB 18 n A B)) 0) := by
  have hni : (n : Int) ≤ 128 := by omega
  have hn0 : ((n : Int) == 0) = false := by simp; omega
  have HN := Lib.hid (And.intro h1 hn)
  obtain ⟨pa, ca, rfl⟩ := hA.form
  obtain ⟨pb, cb, rfl⟩ := hB.form
  have hmk := fun w => mk_bools n (by omega) w
  have hbl : Below w.heap.size w (w.alloc (.cells (bools (List.replicate n false)).toArray 4)) := Below.new _ _
  have HA := Lib.hid (hA.below hbl)
  have HB := Lib.hid (hB.below hbl)
  have HW := Lib.hid hbl
  obtain ⟨S, hS⟩ : ∃ S, min B n = S := ⟨_, rfl⟩
  have HNum := Lib.hid (nnum (n := n) (hB.below hbl) hn hn)
  rw [hS] at HNum
  have HS := Lib.hid hS
  have hSi : (S : Int) ≤ 128 := by omega
  have hSn : IntKind.i64.wrap (-(S : Int)) = -(S : Int) := IntWalk.i64_in _ (by omega)
  have hlA := hA.lt
  have hlB := hB.lt
  obtain ⟨q, hq⟩ : ∃ q, decide (B ^^^ 2 ^ (n - 1) < A ^^^ 2 ^ (n - 1)) = q := ⟨_, rfl⟩
  have HQ := Lib.hid hq
  have HC : Hid (cmpB 18 n A B = !q) := Lib.hid (by rw [← hq, ← slt_xor (by omega) hlB hlA]; rfl)
  rw [HC.out]
  have HL := Lib.hid (And.intro hlA hlB)
  have HAB := Lib.hid (hA.bits.below hbl)
  have HBB := Lib.hid (hB.bits.below hbl)
  have q0 : (0 : Int) ≤ (n : Int) - 1 := by omega
  have q1 : (n : Int) - 1 < n := by omega
  have q2 : ((n : Int) - 1).toNat = n - 1 := by omega
  have q3 : IntKind.i64.wrap ((n : Int) - 1) = (n : Int) - 1 := IntWalk.i64_in _ (by omega)
  have q4 : (1 : Int) ≤ n := by omega
  clear hA hB h1 hn hbl hS hq HC hlA hlB
  go_enter Try.func28, Try.ntmps28
  go_wp2_with fail
  generalize w.alloc (.cells (bools (List.replicate n false)).toArray 4) = W at *
  refine HNum.out.mono ?_; rintro e w' ⟨rfl, rfl⟩
  clear hmk
  have HS0 := Lib.hid (own_bools0 W)
  have HR0 := Lib.hid (HAB.out.below (Below.new W (.cells #[] 4)))
  go_upto_region 43 with (at_builtin; go_must (refine wpList_appR rfl _ _ 35 rfl Try.T35 W.heap.size (.slice (some ⟨W.heap.size, 0, none⟩) 0 0) 0 (bools []) rfl HS0.out _ n _ rfl HR0.out (bools_one _) (by have := HN.out; omega) (by have := HN.out; omega) (by simp) ?_); intro v4 w4 happ; have HP := Lib.hid happ; clear happ)
  have hb4 := HP.out.below (Below.new W _) (by simp) (fun k hk => by have := own_bk hk; omega)
  have hown := HP.out.own
  rw [Nat.zero_add, bools_append, List.nil_append] at hown
  obtain ⟨g4, hg4, cap4, rest4, ev4, hk4⟩ := own_bits hown HN.out.1
  rw [rl_length] at ev4
  subst ev4
  have HK4 := Lib.hid (And.intro hk4 (And.intro hk4.lt (And.intro hb4 hg4)))
  have HS1 := Lib.hid (own_bools0 w4)
  have HR1 := Lib.hid ((HBB.out.below hb4).below (Below.new w4 (.cells #[] 4)))
  clear hb4 hown hg4 hk4 HP HS0 HR0
  go_upto_region 44 with (at_builtin; go_must (refine wpList_appR rfl _ _ 35 rfl Try.T35 w4.heap.size (.slice (some ⟨w4.heap.size, 0, none⟩) 0 0) 0 (bools []) rfl HS1.out _ n _ rfl HR1.out (bools_one _) (by have := HN.out; omega) (by have := HN.out; omega) (by simp) ?_); intro v5 w5 happ; have HP := Lib.hid happ; clear happ)
  have hb5 := HP.out.below (Below.new w4 _) (by simp) (fun k hk => by have := own_bk hk; omega)
  have hown := HP.out.own
  rw [Nat.zero_add, bools_append, List.nil_append] at hown
  obtain ⟨g5, hg5, cap5, rest5, ev5, hk5⟩ := own_bits hown HN.out.1
  rw [rl_length] at ev5
  subst ev5
  have HX5 := Lib.hid (HK4.out.1.below hb5 HK4.out.2.1)
  have HY5 := Lib.hid hk5
  have HNE := Lib.hid (show g4 ≠ g5 by have := HK4.out.2.1; omega)
  have HB5 := Lib.hid (HK4.out.2.2.1.trans (hb5.mono HK4.out.2.2.1.size))
  have HGE := Lib.hid (show W.heap.size ≤ g4 ∧ W.heap.size ≤ g5 by have := HK4.out.2.2.1.size; have := HK4.out.2.2.2; exact ⟨by omega, by omega⟩)
  clear hb5 hown hg5 hk5 HP HS1 HR1 HK4
  have x0 := HX5.out.cell (OB.at (l := rl n A.testBit) (rest := rest4) (i := n - 1) (by rw [rl_length]; have := HN.out; omega))
  rw [rl_getD _ _ _ (by have := HN.out; omega)] at x0
  have x1 := HX5.out.frz (n - 1)
  go_upto_region 45 with fail
  have hX6 := OB.setb (i := n - 1) (q := !(A.testBit (n - 1))) HX5.out (by rw [rl_length]; have := HN.out; omega)
  rw [turn_top HN.out.1] at hX6
  have HX6 := Lib.hid hX6
  have HY6 := Lib.hid (HY5.out.other (.bool (!(A.testBit (n - 1)))) (a := ⟨g4, n - 1, none⟩) (fun h => HNE.out h.symm))
  have HB6 := Lib.hid (HB5.out.setCell (p := ⟨g4, n - 1, none⟩) HGE.out.1 (.bool (!(A.testBit (n - 1)))))
  clear hX6 x0 x1 HX5 HY5
  generalize w5.setCell ⟨g4, n - 1, none⟩ (.bool (!(A.testBit (n - 1)))) = W6 at *
  have y0 := HY6.out.cell (OB.at (l := rl n B.testBit) (rest := rest5) (i := n - 1) (by rw [rl_length]; have := HN.out; omega))
  rw [rl_getD _ _ _ (by have := HN.out; omega)] at y0
  have y1 := HY6.out.frz (n - 1)
  go_upto_region 46 with fail
  have hY7 := OB.setb (i := n - 1) (q := !(B.testBit (n - 1))) HY6.out (by rw [rl_length]; have := HN.out; omega)
  rw [turn_top HN.out.1] at hY7
  have hX7 := HX6.out.other (.bool (!(B.testBit (n - 1)))) (a := ⟨g5, n - 1, none⟩) HNE.out
  have HW7 := Lib.hid (HW.out.trans ((HB6.out.setCell (p := ⟨g5, n - 1, none⟩) HGE.out.2 (.bool (!(B.testBit (n - 1))))).mono HW.out.size))
  have hX7r := OB.ro (cap := cap4) hX7
  have hY7r := OB.ro (cap := cap5) hY7
  rw [rl_length] at hX7r hY7r
  have HX7 : Hid (LN _ _ n (A ^^^ 2 ^ (n - 1))) := Lib.hid ⟨_, hX7r, by rw [ofB_mod', Nat.mod_eq_of_lt (xor_top_lt HN.out.1 HL.out.1)]⟩
  have HY7 : Hid (LN _ _ n (B ^^^ 2 ^ (n - 1))) := Lib.hid ⟨_, hY7r, by rw [ofB_mod', Nat.mod_eq_of_lt (xor_top_lt HN.out.1 HL.out.2)]⟩
  clear hX7r hY7r hX7 hY7 y0 y1 HX6 HY6 HB6
  generalize W6.setCell ⟨g5, n - 1, none⟩ (.bool (!(B.testBit (n - 1)))) = W7 at *
  go_wp2_with fail
  have hc := nless HY7.out HX7.out (by have := HN.out; omega)
  rw [HQ.out] at hc
  refine hc.mono ?_; rintro e w8 ⟨rfl, hb8⟩
  have HW8 := Lib.hid (HW7.out.trans (hb8.mono HW7.out.size))
  clear hb8 hc
  go_wp2_with fail
  refine (none_one _ _).mono ?_; rintro e w9 ⟨v9, rfl, h9, hb9⟩
  have HF := Lib.hid (And.intro h9 (HW8.out.trans (hb9.mono HW8.out.size)))
  clear h9 hb9
  go_wp2_with fail
  go_ret2
  exact ⟨_, rfl, HF.out.1, HF.out.2⟩
end Go.Proofs.Ytmimafbedbohiaa
