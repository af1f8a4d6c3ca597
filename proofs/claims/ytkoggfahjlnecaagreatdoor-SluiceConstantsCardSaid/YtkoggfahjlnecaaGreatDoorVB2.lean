
import Derived.Test.YtkoggfahjlnecaaGreatDoorVB1
namespace Go.Proofs.YtkoggfahjlnecaaGreatDoor
set_option linter.unusedVariables false
open Go.RowKit
/-- after k rounds the words of the sum stand -/
def PlusRel (w : World) (bs : List (Nat × List Value)) (n b S : Nat) (k : Nat) (wr : World) : Prop := ∃ X, Bld w bs n X b wr ∧ ∀ i, i < wcount n → word X i = if i < k then word S i else 0
theorem PlusRel.step {w bs n b S k wr w'} {y : Nat} (h : PlusRel w bs n b S k wr) (hk : k < wcount n) (hy : y = word S k) (hw : w' = (wr.setCell ⟨b, k, none⟩ (.int .u64 y)).drew) : PlusRel w bs n b S (k + 1) w' := by
  obtain ⟨X, hB, hX⟩ := h
  subst hw
  have hlt : y < 2 ^ 64 := hy ▸ word_lt _ _
  refine ⟨_, (hB.word hk hlt).drew, fun i hi => ?_⟩
  rw [setW_word _ _ _ _ hlt, hX i hi]
  by_cases e : i = k
  · subst e; rw [if_pos rfl, if_pos (Nat.lt_succ_self _), hy]
  · by_cases e2 : i < k
    · rw [if_neg e, if_pos e2, if_pos (by omega)]
    · rw [if_neg e, if_neg e2, if_neg (by omega)]
theorem PlusRel.done {w bs n b S wr} (h : PlusRel w bs n b S (wcount n) wr) : ∃ X, Bld w bs n X b wr ∧ X % 2 ^ n = S % 2 ^ n := by
  obtain ⟨X, hB, hX⟩ := h
  exact ⟨X, hB, cut_of_words (n_le_words n) fun i hi => by rw [hX i hi, if_pos hi]⟩
set_option maxRecDepth 100000 in
set_option maxHeartbeats 4000000 in
theorem plus_any {w : World} {va vb : Value} {n A B : Nat} (hA : VR w va n A) (hB : VR w vb n B) (hn : 0 < n) (c : Nat) (hc : c ≤ 1) :
    Calls Tryz.prog 82 #[va, vb, .int .u64 c] w (Fresh w n ((A + B + c) % 2 ^ n)) := by
  have HA := Lib.hid hA
  have HB := Lib.hid hB
  have hn128 := hA.le
  have hni : (n : Int) ≤ 128 := by omega
  obtain ⟨pa, ca, rfl, ra⟩ := hA.ex
  obtain ⟨pb, cb, rfl, rb⟩ := hB.ex
  have HC := Lib.hid hc
  have HBl := Lib.hid (fun w => blank_any (w := w) n hn128)
  have HN := Lib.hid hn
  clear hA hB ra rb hc hn128 hn
  go_enter Tryz.func82, Tryz.ntmps82
  go_wp2_with fail
  have k0 := ((Blk.new (w := w) 39 [.int .i64 n, .slice pa (wcount n) ca]).alloc (.cells #[.int .i64 n, .slice pb (wcount n) cb] 39)).alloc (.cells #[.int .i64 0, .slice none 0 0] 39)
  have k1 := (Blk.new (w := w.alloc (.cells #[.int .i64 n, .slice pa (wcount n) ca] 39)) 39 [.int .i64 n, .slice pb (wcount n) cb]).alloc (.cells #[.int .i64 0, .slice none 0 0] 39)
  have k2 := Blk.new (w := (w.alloc (.cells #[.int .i64 n, .slice pa (wcount n) ca] 39)).alloc (.cells #[.int .i64 n, .slice pb (wcount n) cb] 39)) 39 [.int .i64 0, .slice none 0 0]
  have hb3 : Below w.heap.size w (((w.alloc (.cells #[.int .i64 n, .slice pa (wcount n) ca] 39)).alloc (.cells #[.int .i64 n, .slice pb (wcount n) cb] 39)).alloc (.cells #[.int .i64 0, .slice none 0 0] 39)) := ((Below.new _ _).alloc (by simp) _).alloc (by simp; omega) _
  simp only [World.size_alloc] at k1 k2
  generalize ((w.alloc (.cells #[.int .i64 n, .slice pa (wcount n) ca] 39)).alloc (.cells #[.int .i64 n, .slice pb (wcount n) cb] 39)).alloc (.cells #[.int .i64 0, .slice none 0 0] 39) = W at *
  have HK := Lib.hid (And.intro k0 (And.intro k1 (And.intro k2 hb3)))
  clear k0 k1 k2 hb3
  refine (HBl.out _).mono ?_; rintro e w1 ⟨v, b, rfl, hV, hge, hb1⟩
  obtain rfl := hV.e
  have hS := Bld.start (w := w) (bs := [(w.heap.size, [.int .i64 n, .slice pa (wcount n) ca]), (w.heap.size + 1, [.int .i64 n, .slice pb (wcount n) cb]), (w.heap.size + 1 + 1, [.int .i64 0, .slice none 0 0])]) (by
    intro p hp
    simp only [List.mem_cons, List.not_mem_nil, or_false] at hp
    rcases hp with rfl | rfl | rfl
    · exact HK.out.1
    · exact HK.out.2.1
    · exact HK.out.2.2.1) HK.out.2.2.2 hb1 hV hge
  have hS2 := Lib.hid (hS.push [.int .i64 n, .slice (some ⟨b, 0, none⟩) (wcount n) (wcount n)])
  clear hV hb1 hS hge
  go_wp2_with fail
  generalize w1.alloc (.cells #[.int .i64 n, .slice (some ⟨b, 0, none⟩) (wcount n) (wcount n)] 39) = w2 at *
  generalize w1.heap.size = L at *
  have HM := Lib.hid (show wcount n ≤ 3 by unfold wcount; omega)
  have hmi : (wcount n : Int) ≤ 3 := by have := HM.out; omega
  generalize hbs : [(L, [Value.int IntKind.i64 n, Value.slice (some ⟨b, 0, none⟩) (wcount n) (wcount n)]), (w.heap.size, [Value.int IntKind.i64 n, Value.slice pa (wcount n) ca]), (w.heap.size + 1, [Value.int IntKind.i64 n, Value.slice pb (wcount n) cb]), (w.heap.size + 1 + 1, [Value.int IntKind.i64 0, Value.slice none 0 0])] = bs at *
  have HS := Lib.hid hbs
  clear hbs
  go_loopw [2, 15] (fun cy i wr => ∃ k : Nat, k ≤ wcount n ∧ i = .int .i64 k ∧ cy = .int .u64 (carryTo A B c k) ∧ PlusRel w bs n b (A + B + c) k wr) (fun _ i _ => wcount n - (intOf i).toNat)
  case atStart => exact ⟨0, Nat.zero_le _, rfl, by rw [carry_zero], 0, hS2.out, fun i _ => by rw [if_neg (Nat.not_lt_zero _), word_zero]⟩
  case round =>
    obtain ⟨k, hk, rfl, rfl, hP⟩ := hrel
    have HP := Lib.hid hP
    obtain ⟨X, hX, hXw⟩ := hP
    by_cases hlt : k < wcount n
    · have hki : (k : Int) < (wcount n : Int) := by omega
      obtain ⟨ba, oa, ca', ea, fa⟩ := (HA.out.below hX.bel).word hlt
      obtain ⟨bb, ob, cb', eb, fb⟩ := (HB.out.below hX.bel).word hlt
      simp only [Value.agg.injEq, Array.mk.injEq, List.cons.injEq, Value.slice.injEq, true_and, and_true] at ea eb
      obtain ⟨rfl, rfl⟩ := ea
      obtain ⟨rfl, rfl⟩ := eb
      have x0 := (hX.drew.box (p := (L, [.int .i64 n, .slice (some ⟨b, 0, none⟩) (wcount n) (wcount n)])) (by rw [← HS.out]; simp)).cell (i := 1) rfl
      have x1 := (hX.drew.box (p := (w.heap.size, [.int .i64 n, .slice (some ⟨ba, oa, none⟩) (wcount n) ca])) (by rw [← HS.out]; simp)).cell (i := 1) rfl
      have x2 := (hX.drew.box (p := (w.heap.size + 1, [.int .i64 n, .slice (some ⟨bb, ob, none⟩) (wcount n) cb])) (by rw [← HS.out]; simp)).cell (i := 1) rfl
      have y0 := hX.vo.drew.blk.cell (wordsV_at hlt)
      have y1 := hX.vo.drew.blk.frz k
      have n0 := Ne.symm (hX.bx (L, [.int .i64 n, .slice (some ⟨b, 0, none⟩) (wcount n) (wcount n)]) (by rw [← HS.out]; simp)).2
      have n1 := Ne.symm (hX.bx (w.heap.size, [.int .i64 n, .slice (some ⟨ba, oa, none⟩) (wcount n) ca]) (by rw [← HS.out]; simp)).2
      have n2 := Ne.symm (hX.bx (w.heap.size + 1, [.int .i64 n, .slice (some ⟨bb, ob, none⟩) (wcount n) cb]) (by rw [← HS.out]; simp)).2
      have na : b ≠ ba := by
        obtain ⟨b', o', c', e', f'⟩ := HA.out.word hlt
        simp only [Value.agg.injEq, Array.mk.injEq, List.cons.injEq, Value.slice.injEq, true_and, and_true, Option.some.injEq, Addr.mk.injEq] at e'
        have := World.block_lt_of_cell? _ _ f'
        have := hX.ge
        dsimp only at *
        omega
      have nb : b ≠ bb := by
        obtain ⟨b', o', c', e', f'⟩ := HB.out.word hlt
        simp only [Value.agg.injEq, Array.mk.injEq, List.cons.injEq, Value.slice.injEq, true_and, and_true, Option.some.injEq, Addr.mk.injEq] at e'
        have := World.block_lt_of_cell? _ _ f'
        have := hX.ge
        dsimp only at *
        omega
      dsimp only at n0 n1 n2
      have hadd := add64_run (word A k) (word B k) (carryTo A B c k) (carry_le A B c k HC.out)
      have HST := Lib.hid (carry_step A B c k)
      have HLT := Lib.hid hlt
      generalize word A k = wa at *
      generalize word B k = wb at *
      generalize word X k = wx at *
      generalize carryTo A B c k = cy at *
      dsimp only at x0 x1 x2
      clear hXw hX hlt hk
      go_wp2_with fail
      go_region_held3 (fun w' => w'.cell? ⟨L, 1, none⟩ = some (.slice (some ⟨b, 0, none⟩) (wcount n) (wcount n)) ∧ w'.cell? ⟨w.heap.size, 1, none⟩ = some (.slice (some ⟨ba, oa, none⟩) (wcount n) ca) ∧ w'.cell? ⟨w.heap.size + 1, 1, none⟩ = some (.slice (some ⟨bb, ob, none⟩) (wcount n) cb) ∧ w'.cell? ⟨ba, oa + k, none⟩ = some (.int .u64 wa) ∧ w'.cell? ⟨bb, ob + k, none⟩ = some (.int .u64 wb))
        (first | exact ⟨x0, x1, x2, fa, fb⟩ | exact ⟨(World.cell?_setCell_far _ _ _ _ n0).trans x0, (World.cell?_setCell_far _ _ _ _ n1).trans x1, (World.cell?_setCell_far _ _ _ _ n2).trans x2, (World.cell?_setCell_far _ _ _ _ na).trans fa, (World.cell?_setCell_far _ _ _ _ nb).trans fb⟩)
        (fail)
      go_wp2_with fail
      go_roundw
      case rel =>
        exact ⟨k + 1, HLT.out, by go_num, by rw [← HST.out.2]; congr 1, HP.out.step HLT.out HST.out.1 rfl⟩
      case measure => simp [intOf]; omega
    · obtain rfl : k = wcount n := by omega
      clear hX hXw hlt hk
      obtain ⟨X, hX, hXS⟩ := HP.out.done
      have HXS := Lib.hid (And.intro hX hXS)
      have x0 := (hX.box (p := (L, [.int .i64 n, .slice (some ⟨b, 0, none⟩) (wcount n) (wcount n)])) (by rw [← HS.out]; simp)).cell (i := 0) rfl
      have x1 := (hX.box (p := (L, [.int .i64 n, .slice (some ⟨b, 0, none⟩) (wcount n) (wcount n)])) (by rw [← HS.out]; simp)).cell (i := 1) rfl
      dsimp only at x0 x1
      have HCut := Lib.hid (cut_any hX.vo HN.out)
      clear hX hXS
      go_wp2_with fail
      refine HCut.out.mono ?_; rintro e w3 ⟨rfl, hv3, hg3⟩
      have hB3 := HXS.out.1.grown hg3 hv3
      have kr := hB3.box (p := (w.heap.size + 1 + 1, [.int .i64 0, .slice none 0 0])) (by rw [← HS.out]; simp)
      have HB3 := Lib.hid (And.intro hB3 kr)
      have r0 := kr.cell (i := 0) rfl
      have r1 := kr.cell (i := 1) rfl
      have f0 := kr.frz 0
      have f1 := kr.frz 1
      have hne := (hB3.bx (w.heap.size + 1 + 1, [.int .i64 0, .slice none 0 0]) (by rw [← HS.out]; simp)).2
      dsimp only [vecO] at r0 r1 f0 f1 hne ⊢
      clear hv3 hg3 hB3 kr x0 x1
      go_wp2_with fail
      obtain ⟨e0, e1, hv, hbl⟩ := HB3.out.1.ret (R := w.heap.size + 1 + 1) (u := .int .i64 0) (v := .slice none 0 0) (by rw [← HS.out]; simp) (by omega)
      rw [HXS.out.2] at hv
      exact bodyPost_ret (v := vecO n b) (by simp [results, Tryz.results82, go_sem, e0, e1, vecO]) rfl ⟨_, _, rfl, hv, HB3.out.1.ge, hbl⟩
end Go.Proofs.YtkoggfahjlnecaaGreatDoor
namespace Go.Proofs.YtkoggfahjlnecaaGreatDoor
set_option linter.unusedVariables false
open Go.RowKit
theorem u64_turn (a : Nat) (ha : a < 2 ^ 64) : bits .xor .u64 (if IntKind.u64.signed = true then -1 else IntKind.u64.max) (a : Int) = ((18446744073709551615 - a : Nat) : Int) := by
  have e : (if IntKind.u64.signed = true then (-1 : Int) else IntKind.u64.max) = ((18446744073709551615 : Nat) : Int) := rfl
  have h2 : (18446744073709551615 : Nat) ^^^ a = 18446744073709551615 - a := by
    apply eq_bits; intro j
    rw [show 18446744073709551615 - a = 2 ^ 64 - (a + 1) by omega, Nat.testBit_two_pow_sub_succ ha, Nat.testBit_xor, show (18446744073709551615 : Nat) = 2 ^ 64 - (0 + 1) from rfl, Nat.testBit_two_pow_sub_succ (by decide)]
    by_cases hj : j < 64
    · simp [hj]
    · rw [bit_big ha (by omega)]; simp [hj]
  rw [e, u64_xor_nat _ a (by decide) ha, h2]
theorem PlusRel.step0 {w bs n b S k wr} {y : Nat} (h : PlusRel w bs n b S k wr) (hk : k < wcount n) (hy : y = word S k) : PlusRel w bs n b S (k + 1) (wr.setCell ⟨b, k, none⟩ (.int .u64 y)) := by
  obtain ⟨X, hB, hX⟩ := h
  have hlt : y < 2 ^ 64 := hy ▸ word_lt _ _
  refine ⟨_, hB.word hk hlt, fun i hi => ?_⟩
  rw [setW_word _ _ _ _ hlt, hX i hi]
  by_cases e : i = k
  · subst e; rw [if_pos rfl, if_pos (Nat.lt_succ_self _), hy]
  · by_cases e2 : i < k
    · rw [if_neg e, if_pos e2, if_pos (by omega)]
    · rw [if_neg e, if_neg e2, if_neg (by omega)]
set_option maxRecDepth 100000 in
set_option maxHeartbeats 4000000 in
theorem not_any {w : World} {va : Value} {n A : Nat} (hA : VR w va n A) (hn : 0 < n) :
    Calls Tryz.prog 77 #[va] w (Fresh w n (notN n A)) := by
  have HA := Lib.hid hA
  have hn128 := hA.le
  have hni : (n : Int) ≤ 128 := by omega
  obtain ⟨pa, ca, rfl, ra⟩ := hA.ex
  have HBl := Lib.hid (fun w => blank_any (w := w) n hn128)
  have HN := Lib.hid hn
  clear hA ra hn128 hn
  go_enter Tryz.func77, Tryz.ntmps77
  go_wp2_with fail
  have k0 := (Blk.new (w := w) 39 [.int .i64 n, .slice pa (wcount n) ca]).alloc (.cells #[.int .i64 0, .slice none 0 0] 39)
  have k2 := Blk.new (w := (w.alloc (.cells #[.int .i64 n, .slice pa (wcount n) ca] 39))) 39 [.int .i64 0, .slice none 0 0]
  have hb3 : Below w.heap.size w ((w.alloc (.cells #[.int .i64 n, .slice pa (wcount n) ca] 39)).alloc (.cells #[.int .i64 0, .slice none 0 0] 39)) := (Below.new _ _).alloc (by simp) _
  simp only [World.size_alloc] at k2
  generalize (w.alloc (.cells #[.int .i64 n, .slice pa (wcount n) ca] 39)).alloc (.cells #[.int .i64 0, .slice none 0 0] 39) = W at *
  have p1 := k0.cell (i := 0) rfl
  have HK := Lib.hid (And.intro k0 (And.intro k2 hb3))
  clear k0 k2 hb3
  refine (HBl.out _).mono ?_; rintro e w1 ⟨v, b, rfl, hV, hge, hb1⟩
  obtain rfl := hV.e
  have hS := Bld.start (w := w) (bs := [(w.heap.size, [.int .i64 n, .slice pa (wcount n) ca]), (w.heap.size + 1, [.int .i64 0, .slice none 0 0])]) (by
    intro p hp
    simp only [List.mem_cons, List.not_mem_nil, or_false] at hp
    rcases hp with rfl | rfl
    · exact HK.out.1
    · exact HK.out.2.1) HK.out.2.2 hb1 hV hge
  have q1 := (hS.box (p := (w.heap.size, [.int .i64 n, .slice pa (wcount n) ca])) (by simp)).cell (i := 1) rfl
  have hwz : w.heap.size < w1.heap.size := (hS.box (p := (w.heap.size, [.int .i64 n, .slice pa (wcount n) ca])) (by simp)).lt
  dsimp only at q1
  have hS2 := Lib.hid (hS.push [.int .i64 n, .slice (some ⟨b, 0, none⟩) (wcount n) (wcount n)])
  clear hV hb1 hS hge p1
  go_wp2_with fail
  generalize w1.alloc (.cells #[.int .i64 n, .slice (some ⟨b, 0, none⟩) (wcount n) (wcount n)] 39) = w2 at *
  generalize w1.heap.size = L at *
  have HM := Lib.hid (show wcount n ≤ 3 by unfold wcount; omega)
  have hmi : (wcount n : Int) ≤ 3 := by have := HM.out; omega
  generalize hbs : [(L, [Value.int IntKind.i64 n, Value.slice (some ⟨b, 0, none⟩) (wcount n) (wcount n)]), (w.heap.size, [Value.int IntKind.i64 n, Value.slice pa (wcount n) ca]), (w.heap.size + 1, [Value.int IntKind.i64 0, Value.slice none 0 0])] = bs at *
  have HS := Lib.hid hbs
  have HA64 : Hid (A < 2 ^ (64 * wcount n)) := Lib.hid (Nat.lt_of_lt_of_le HA.out.lt (Nat.pow_le_pow_right (by decide) (n_le_words n)))
  clear hbs q1
  go_loopw [12] (fun i wr => ∃ k : Nat, k ≤ wcount n ∧ i = .int .i64 k ∧ PlusRel w bs n b (2 ^ (64 * wcount n) - 1 - A) k wr) (fun i _ => wcount n - (intOf i).toNat)
  case atStart => exact ⟨0, Nat.zero_le _, rfl, 0, hS2.out, fun i _ => by rw [if_neg (Nat.not_lt_zero _), word_zero]⟩
  case round =>
    obtain ⟨k, hk, rfl, hP⟩ := hrel
    have HP := Lib.hid hP
    obtain ⟨X, hX, hXw⟩ := hP
    by_cases hlt : k < wcount n
    · have hki : (k : Int) < (wcount n : Int) := by omega
      obtain ⟨ba, oa, ca', ea, fa⟩ := (HA.out.below hX.bel).word hlt
      simp only [Value.agg.injEq, Array.mk.injEq, List.cons.injEq, Value.slice.injEq, true_and, and_true] at ea
      obtain ⟨rfl, rfl⟩ := ea
      have x0 := (hX.box (p := (L, [.int .i64 n, .slice (some ⟨b, 0, none⟩) (wcount n) (wcount n)])) (by rw [← HS.out]; simp)).cell (i := 1) rfl
      have y0 := hX.vo.blk.cell (wordsV_at hlt)
      have y1 := hX.vo.blk.frz k
      have HST := Lib.hid (word_not A (wcount n) k HA64.out hlt)
      have HU := Lib.hid (u64_turn (word A k) (word_lt A k))
      have HLT := Lib.hid hlt
      generalize word A k = wa at *
      generalize word X k = wx at *
      dsimp only at x0
      clear hXw hX hlt hk
      go_wp2_with fail
      rw [HU.out]
      exact ⟨⟨k + 1, HLT.out, by go_num, HP.out.step0 HLT.out HST.out.symm⟩, by simp [intOf]; omega⟩
    · obtain rfl : k = wcount n := by omega
      clear hX hXw hlt hk
      obtain ⟨X, hX, hXS⟩ := HP.out.done
      rw [not_cut HA.out.lt (n_le_words n)] at hXS
      have HXS := Lib.hid (And.intro hX hXS)
      have x0 := (hX.box (p := (L, [.int .i64 n, .slice (some ⟨b, 0, none⟩) (wcount n) (wcount n)])) (by rw [← HS.out]; simp)).cell (i := 0) rfl
      have x1 := (hX.box (p := (L, [.int .i64 n, .slice (some ⟨b, 0, none⟩) (wcount n) (wcount n)])) (by rw [← HS.out]; simp)).cell (i := 1) rfl
      dsimp only at x0 x1
      have HCut := Lib.hid (cut_any hX.vo HN.out)
      clear hX hXS
      go_wp2_with fail
      refine HCut.out.mono ?_; rintro e w3 ⟨rfl, hv3, hg3⟩
      have hB3 := HXS.out.1.grown hg3 hv3
      have kr := hB3.box (p := (w.heap.size + 1, [.int .i64 0, .slice none 0 0])) (by rw [← HS.out]; simp)
      have HB3 := Lib.hid hB3
      have r0 := kr.cell (i := 0) rfl
      have r1 := kr.cell (i := 1) rfl
      have f0 := kr.frz 0
      have f1 := kr.frz 1
      dsimp only [vecO] at r0 r1 f0 f1 ⊢
      clear hv3 hg3 hB3 kr x0 x1
      go_wp2_with fail
      obtain ⟨e0, e1, hv, hbl⟩ := HB3.out.ret (R := w.heap.size + 1) (u := .int .i64 0) (v := .slice none 0 0) (by rw [← HS.out]; simp) (by omega)
      rw [HXS.out.2] at hv
      exact bodyPost_ret (v := vecO n b) (by simp [results, Tryz.results77, go_sem, e0, e1, vecO]) rfl ⟨_, _, rfl, hv, HB3.out.ge, hbl⟩
end Go.Proofs.YtkoggfahjlnecaaGreatDoor
namespace Go.Proofs.YtkoggfahjlnecaaGreatDoor
set_option linter.unusedVariables false
open Go.RowKit
/-- bit i of x, at any index -/
def bitI (x : Nat) (i : Int) : Bool := decide (0 ≤ i) && x.testBit i.toNat
theorem u64_bit (W k : Nat) (hW : W < 2 ^ 64) (r : Bool) (hr : W.testBit k = r) : (bits .and .u64 ((W : Int) / 2 ^ k) 1 == 1) = r := by
  have e : (W : Int) / 2 ^ k = ((W / 2 ^ k : Nat) : Int) := by simp
  have h1 : W / 2 ^ k < 18446744073709551616 := Nat.lt_of_le_of_lt (Nat.div_le_self _ _) hW
  rw [e, show (1 : Int) = ((1 : Nat) : Int) from rfl, u64_and_nat _ 1 h1 (by decide), nat_mask1, ← hr, Nat.testBit_eq_decide_div_mod_eq]
  generalize W / 2 ^ k % 2 = q
  rw [Bool.eq_iff_iff]
  simp
  omega
set_option maxRecDepth 100000 in
set_option maxHeartbeats 1000000 in
theorem bit_any {w : World} {v : Value} {n x : Nat} (h : VR w v n x) (i : Int) : Calls Tryz.prog 44 #[v, .int .i64 i] w fun e w' => e = .returned (.bool (bitI x i)) ∧ Below w.heap.size w w' := by
  by_cases h0 : i < 0
  · have hb : bitI x i = false := by unfold bitI; rw [decide_eq_false (by omega)]; rfl
    obtain ⟨⟨p, c, rfl, _⟩, _, _⟩ := h
    rw [hb]
    clear hb
    have hd : decide (0 ≤ i) = false := by simp; omega
    go_enter Tryz.func44, Tryz.ntmps44
    go_wp2_with fail
    go_ret
    exact ⟨rfl, Below.new _ _⟩
  · obtain ⟨j, rfl⟩ : ∃ j : Nat, i = j := ⟨i.toNat, by omega⟩
    have hb : bitI x j = x.testBit j := by unfold bitI; simp
    rw [hb]
    have hle := h.le
    by_cases hj : j < n
    · have hk : j / 64 < wcount n := by unfold wcount; omega
      obtain ⟨b, o, c, rfl, hc⟩ := h.word hk
      have hlt := World.block_lt_of_cell? _ _ hc
      have hji : (j : Int) < n := by omega
      have hji2 : (j : Int) ≤ 128 := by omega
      have q1 : (0 : Int) ≤ (j : Int) / 64 := by omega
      have q2 : (j : Int) / 64 < (wcount n : Int) := by omega
      have q3 : ((j : Int) / 64).toNat = j / 64 := by omega
      have q4 : (0 : Int) ≤ (j : Int) % 64 := by omega
      have q5 : ((j : Int) % 64).toNat = j % 64 := by omega
      have q6 : (j : Int).tmod 64 = (j : Int) % 64 := Int.tmod_eq_emod_of_nonneg (by omega)
      have q7 : min (j % 64) 64 = j % 64 := by omega
      have q0 : IntKind.i64.wrap ((j : Int) / 64) = (j : Int) / 64 := IntWalk.i64_in _ (by omega)
      obtain ⟨r, hr⟩ : ∃ r, x.testBit j = r := ⟨_, rfl⟩
      have hu := u64_bit (word x (j / 64)) (j % 64) (word_lt _ _) r (by rw [← hr]; exact (bit_word x j).symm)
      have hd : decide (0 ≤ (j : Int)) = true := by simp
      have hd2 : decide ((j : Int) < n) = true := by simp; omega
      rw [hr]
      have HU := Lib.hid hu
      generalize word x (j / 64) = wx at *
      clear h hb hr hk hj
      go_enter Tryz.func44, Tryz.ntmps44
      go_wp2_with fail
      go_ret
      exact ⟨rfl, Below.new _ _⟩
    · have hb2 : x.testBit j = false := bit_big h.lt (by omega)
      rw [hb2]
      obtain ⟨⟨p, c, rfl, _⟩, _, _⟩ := h
      have hd : decide (0 ≤ (j : Int)) = true := by simp
      have hd2 : decide ((j : Int) < n) = false := by simp; omega
      have hji : (n : Int) ≤ j := by omega
      clear hb hb2 hj
      go_enter Tryz.func44, Tryz.ntmps44
      go_wp2_with fail
      go_ret
      exact ⟨rfl, Below.new _ _⟩
end Go.Proofs.YtkoggfahjlnecaaGreatDoor
namespace Go.Proofs.YtkoggfahjlnecaaGreatDoor
set_option linter.unusedVariables false
open Go.RowKit
theorem two_step {w w' w'' : World} {a : Nat} {u v : Value} (h : w'.cell? ⟨a, 0, none⟩ = some u ∧ w'.cell? ⟨a, 1, none⟩ = some v ∧ Below w.heap.size w w') (hb : Below w'.heap.size w' w'') :
    w''.cell? ⟨a, 0, none⟩ = some u ∧ w''.cell? ⟨a, 1, none⟩ = some v ∧ Below w.heap.size w w'' :=
  ⟨(hb.cell (World.block_lt_of_cell? _ _ h.1)).trans h.1, (hb.cell (World.block_lt_of_cell? _ _ h.2.1)).trans h.2.1, h.2.2.trans (hb.mono h.2.2.size)⟩
theorem two_set {w w' : World} {a R : Nat} {u v x y : Value} (h : w'.cell? ⟨a, 0, none⟩ = some u ∧ w'.cell? ⟨a, 1, none⟩ = some v ∧ Below w.heap.size w w') (hne : R ≠ a) (hR : w.heap.size ≤ R) :
    ((w'.setCell ⟨R, 0, none⟩ x).setCell ⟨R, 1, none⟩ y).cell? ⟨a, 0, none⟩ = some u ∧ ((w'.setCell ⟨R, 0, none⟩ x).setCell ⟨R, 1, none⟩ y).cell? ⟨a, 1, none⟩ = some v ∧ Below w.heap.size w ((w'.setCell ⟨R, 0, none⟩ x).setCell ⟨R, 1, none⟩ y) :=
  ⟨(World.cell?_setCell_far _ _ _ _ hne).trans ((World.cell?_setCell_far _ _ _ _ hne).trans h.1), (World.cell?_setCell_far _ _ _ _ hne).trans ((World.cell?_setCell_far _ _ _ _ hne).trans h.2.1), (h.2.2.setCell hR _).setCell hR _⟩
theorem Blk.next {w w' : World} {b t l} (h : Blk w b t l) (hb : Below w.heap.size w w') : Blk w' b t l := h.below hb h.lt
/-- .. behind the store of a result: the block R has n and the slice -/
theorem ret2 {w w3 : World} {R n b x : Nat} {u v : Value} (hR : Blk w3 R 39 [u, v]) (hb : Below w.heap.size w w3) (hge : w.heap.size ≤ R) (hv : VO w3 (vecO n b) n x b) (hne : R ≠ b) :
    ((w3.setCell ⟨R, 0, none⟩ (.int .i64 n)).setCell ⟨R, 1, none⟩ (.slice (some ⟨b, 0, none⟩) (wcount n) (wcount n))).cell? ⟨R, 0, none⟩ = some (.int .i64 n) ∧
    ((w3.setCell ⟨R, 0, none⟩ (.int .i64 n)).setCell ⟨R, 1, none⟩ (.slice (some ⟨b, 0, none⟩) (wcount n) (wcount n))).cell? ⟨R, 1, none⟩ = some (.slice (some ⟨b, 0, none⟩) (wcount n) (wcount n)) ∧
    VO ((w3.setCell ⟨R, 0, none⟩ (.int .i64 n)).setCell ⟨R, 1, none⟩ (.slice (some ⟨b, 0, none⟩) (wcount n) (wcount n))) (vecO n b) n x b ∧
    Below w.heap.size w ((w3.setCell ⟨R, 0, none⟩ (.int .i64 n)).setCell ⟨R, 1, none⟩ (.slice (some ⟨b, 0, none⟩) (wcount n) (wcount n))) := by
  have hk := (hR.set 0 (.int .i64 n)).set 1 (.slice (some ⟨b, 0, none⟩) (wcount n) (wcount n))
  exact ⟨hk.cell (i := 0) rfl, hk.cell (i := 1) rfl, (hv.other (Ne.symm hne) _).other (Ne.symm hne) _, (hb.setCell hge _).setCell hge _⟩
set_option maxRecDepth 100000 in
set_option maxHeartbeats 4000000 in
theorem neg_any {w : World} {va : Value} {n A : Nat} (hA : VR w va n A) (hn : 0 < n) :
    Calls Tryz.prog 78 #[va] w (Fresh w n (negN n A)) := by
  have HA := Lib.hid hA
  have hn128 := hA.le
  have hni : (n : Int) ≤ 128 := by omega
  obtain ⟨pa, ca, rfl, ra⟩ := hA.ex
  have HNt : Hid (∀ w', Below w.heap.size w w' → Calls Tryz.prog 77 #[.agg #[.int .i64 n, .slice pa (wcount n) ca]] w' (Fresh w' n (notN n A))) := Lib.hid fun w' hb => not_any (hA.below hb) hn
  have HBl := Lib.hid (fun w => blank_any (w := w) n hn128)
  have HPl := Lib.hid (fun w va vb h1 h2 => plus_any (w := w) (va := va) (vb := vb) (n := n) (A := notN n A) (B := 0) h1 h2 hn 1 (Nat.le_refl _))
  have HE := Lib.hid (negN_eq hA.lt)
  have HN := Lib.hid hn
  clear hA ra hn128 hn
  go_enter Tryz.func78, Tryz.ntmps78
  go_wp2_with fail
  have k0 := (Blk.new (w := w) 39 [.int .i64 n, .slice pa (wcount n) ca]).alloc (.cells #[.int .i64 0, .slice none 0 0] 39)
  have k2 := Blk.new (w := (w.alloc (.cells #[.int .i64 n, .slice pa (wcount n) ca] 39))) 39 [.int .i64 0, .slice none 0 0]
  have hb3 : Below w.heap.size w ((w.alloc (.cells #[.int .i64 n, .slice pa (wcount n) ca] 39)).alloc (.cells #[.int .i64 0, .slice none 0 0] 39)) := (Below.new _ _).alloc (by simp) _
  simp only [World.size_alloc] at k2
  generalize (w.alloc (.cells #[.int .i64 n, .slice pa (wcount n) ca] 39)).alloc (.cells #[.int .i64 0, .slice none 0 0] 39) = W at *
  have s0 : W.drew.cell? ⟨w.heap.size, 0, none⟩ = some (.int .i64 n) ∧ W.drew.cell? ⟨w.heap.size, 1, none⟩ = some (.slice pa (wcount n) ca) ∧ Below w.heap.size w W.drew := ⟨k0.cell (i := 0) rfl, k0.cell (i := 1) rfl, hb3.drew⟩
  have K0 := Lib.hid k2.drew
  clear k0 k2 hb3
  go_region_held3 (fun w' => w'.cell? ⟨w.heap.size, 0, none⟩ = some (.int .i64 n) ∧ w'.cell? ⟨w.heap.size, 1, none⟩ = some (.slice pa (wcount n) ca) ∧ Below w.heap.size w w')
    (first | assumption | exact two_set s6 (Nat.succ_ne_self _) (Nat.le_succ _))
    (first
      | (go_at_call 77; refine (HNt.out _ s0.2.2).mono ?_; rintro e w4 ⟨v4, b4, rfl, hv4, hge4, hb4⟩; have s4 := two_step s0 hb4; have K4 := Lib.hid (K0.out.next hb4); have V4 := Lib.hid (hv4.vr (notN_lt _ _)); clear hv4 hge4 hb4)
      | (go_at_call 24; refine (HBl.out _).mono ?_; rintro e w5 ⟨v5, b5, rfl, hv5, hge5, hb5⟩; have s5 := two_step s4 hb5; have K5 := Lib.hid (K4.out.next hb5); have V5 := Lib.hid (And.intro (V4.out.below hb5) (hv5.vr (Nat.pow_pos (by decide)))); clear hv5 hge5 hb5)
      | (go_at_call 82; refine (HPl.out _ _ _ V5.out.1 V5.out.2).mono ?_; rintro e w6 ⟨v6, b6, rfl, hv6, hge6, hb6⟩; obtain rfl := hv6.e; have s6 := two_step s5 hb6; have k6 := K5.out.next hb6; have r0 := k6.cell (i := 0) rfl; have r1 := k6.cell (i := 1) rfl; have f0 := k6.frz 0; have f1 := k6.frz 1; have H6 := Lib.hid (And.intro hv6 (And.intro hge6 k6)); clear hv6 hge6 k6 hb6))
  go_wp2_with fail
  obtain ⟨e0, e1, hv, hbl⟩ := ret2 H6.out.2.2 s6.2.2 (Nat.le_succ _) H6.out.1 (by have := H6.out.2.1; have := K5.out.lt; omega)
  rw [HE.out] at hv
  exact bodyPost_ret (v := vecO n b6) (by simp [results, Tryz.results78, go_sem, e0, e1, vecO]) rfl ⟨_, _, rfl, hv, Nat.le_trans s5.2.2.size H6.out.2.1, hbl⟩
theorem negative_any {w : World} {v : Value} {n x : Nat} (h : VR w v n x) : Calls Tryz.prog 93 #[v] w fun e w' => e = .returned (.bool (bitI x ((n : Int) - 1))) ∧ Below w.heap.size w w' := by
  have hn : (n : Int) ≤ 128 := by have := h.le; omega
  have HB := Lib.hid (fun o => bit_any (h.below (Below.new w o)) ((n : Int) - 1))
  obtain ⟨⟨p, c, rfl, _⟩, _, _⟩ := h
  go_enter Tryz.func93, Tryz.ntmps93
  go_wp2_with fail
  refine (HB.out _).mono ?_; rintro e w1 ⟨rfl, hb⟩
  have HH := Lib.hid (Below.then (Below.new _ _) hb (Nat.le_refl _))
  clear hb
  go_wp2_with fail
  go_ret
  exact ⟨rfl, HH.out⟩
theorem ne0_any (y : Nat) (w : World) : Calls Tryz.prog 116 #[.int .u64 y] w fun e w' => e = .returned (.bool ((y : Int) != 0)) ∧ w = w' := by
  go_enter Tryz.func116, Tryz.ntmps116
  go_wp2_with fail
  go_ret
  exact ⟨rfl, rfl⟩
set_option maxHeartbeats 1000000 in
set_option maxRecDepth 100000 in
theorem indexf_any {w : World} (v : Value) (m x : Nat) (hr : RO w v 1 m (wordsV m x)) (hm : m ≤ 100) : Calls Tryz.prog 138 #[v, .func (Fn.func 116) #[] #[]] w fun e w' => (∃ r : Int, e = .returned (.int .i64 r) ∧ (0 ≤ r ↔ ∃ i, i < m ∧ word x i ≠ 0)) ∧ w = w' := by
  obtain ⟨p, c, rfl⟩ := hr.form
  have hm' : (m : Int) ≤ 100 := by omega
  have H := Lib.hid hr
  clear hr
  go_enter Tryz.func138, Tryz.ntmps138
  go_wp2_with fail
  go_loop [8] (fun i => ∃ k : Nat, k ≤ m ∧ i = .int .i64 k ∧ ∀ j, j < k → word x j = 0) (fun i => m - (intOf i).toNat)
  case atStart => exact ⟨0, Nat.zero_le _, rfl, fun j hj => absurd hj (Nat.not_lt_zero _)⟩
  case round =>
    obtain ⟨k, hk, rfl, hno⟩ := hrel
    have HN := Lib.hid hno
    clear hno
    by_cases hlt : k < m
    · obtain ⟨b, o, rfl⟩ := H.out.sl (wordsV_at hlt)
      have f0 := H.out.cell (wordsV_at hlt)
      have hki : (k : Int) < m := by omega
      have hc := fun w => ne0_any (word x k) w
      by_cases h0 : word x k = 0
      · have h0' : (((word x k : Nat) : Int) != 0) = false := by simp [h0]
        have HC : Hid (∀ w, Calls Tryz.prog 116 #[.int .u64 ((word x k : Nat) : Int)] w fun e w' => e = .returned (.bool false) ∧ w = w') := Lib.hid fun w => by have := hc w; rwa [h0'] at this
        have H0 := Lib.hid (show (fun j => word x j) k = 0 from h0)
        generalize word x k = y at *
        clear hc h0 h0'
        go_wp2_with fail
        refine (HC.out _).mono ?_; rintro e w' ⟨rfl, rfl⟩
        go_wp2_with fail
        go_round
        case rel => exact ⟨k + 1, by omega, by go_num, fun j hj => by
                      by_cases e : j = k
                      · subst e; exact H0.out
                      · exact HN.out j (by omega)⟩
        case measure => simp [intOf]; omega
      · have h0' : (((word x k : Nat) : Int) != 0) = true := by simp [h0]
        have HC : Hid (∀ w, Calls Tryz.prog 116 #[.int .u64 ((word x k : Nat) : Int)] w fun e w' => e = .returned (.bool true) ∧ w = w') := Lib.hid fun w => by have := hc w; rwa [h0'] at this
        have H0 := Lib.hid (show (fun j => word x j) k ≠ 0 from h0)
        generalize word x k = y at *
        clear hc h0 h0'
        go_wp2_with fail
        refine (HC.out _).mono ?_; rintro e w' ⟨rfl, rfl⟩
        go_wp2_with fail
        go_ret
        exact ⟨⟨k, rfl, ⟨fun _ => ⟨k, hlt, H0.out⟩, fun _ => by omega⟩⟩, rfl⟩
    · obtain rfl : k = m := by omega
      clear hlt
      go_wp2_with fail
      go_ret
      exact ⟨⟨-1, rfl, ⟨fun h => by omega, fun ⟨i, hi, h⟩ => absurd (HN.out i hi) h⟩⟩, rfl⟩
theorem zero_words {x n : Nat} (hx : x < 2 ^ n) : x ≠ 0 ↔ ∃ i, i < wcount n ∧ word x i ≠ 0 := by
  constructor
  · intro h
    rcases Classical.em (∃ i, i < wcount n ∧ word x i ≠ 0) with h' | h'
    · exact h'
    · exact absurd (words_ext (m := wcount n) (Nat.lt_of_lt_of_le hx (Nat.pow_le_pow_right (by decide) (n_le_words n))) (Nat.pow_pos (by decide)) fun i hi => by
        rw [word_zero]
        rcases Nat.eq_zero_or_pos (word x i) with e | e
        · exact e
        · exact absurd ⟨i, hi, by omega⟩ h') h
  · rintro ⟨i, _, h⟩ rfl
    exact h (word_zero i)
def nz (x : Nat) : Bool := x != 0
theorem any_any {w : World} {v : Value} {n x : Nat} (h : VR w v n x) : Calls Tryz.prog 80 #[v] w fun e w' => e = .returned (.bool (nz x)) ∧ Below w.heap.size w w' := by
  have hz := zero_words h.lt
  obtain ⟨⟨p, c, rfl, hr⟩, _, hle⟩ := h
  have HI := Lib.hid (fun o => indexf_any _ (wcount n) x (hr.below (Below.new w o)) (by unfold wcount; omega))
  have HZ := Lib.hid hz
  clear hr hz
  go_enter Tryz.func80, Tryz.ntmps80
  go_wp2_with fail
  have hc : Calls Tryz.prog 115 #[.slice p (wcount n) c, .func (Fn.func 116) #[] #[]] (w.alloc (.cells #[.int .i64 n, .slice p (wcount n) c] 39)) fun e w' => e = .returned (.bool (nz x)) ∧ w.alloc (.cells #[.int .i64 n, .slice p (wcount n) c] 39) = w' := by
    go_enter Tryz.func115, Tryz.ntmps115
    go_wp2_with fail
    refine (HI.out _).mono ?_; rintro e w1 ⟨⟨r, rfl, hr⟩, rfl⟩
    have HR := Lib.hid hr
    clear hr
    go_wp2_with fail
    go_ret
    refine ⟨?_, rfl⟩
    have : decide (0 ≤ r) = nz x := by
      rw [Bool.eq_iff_iff, decide_eq_true_eq, HR.out, ← HZ.out]; simp [nz]
    rw [← this]; rfl
  refine hc.mono ?_; rintro e w1 ⟨rfl, rfl⟩
  clear hc
  go_wp2_with fail
  go_ret
  exact ⟨rfl, Below.new _ _⟩
end Go.Proofs.YtkoggfahjlnecaaGreatDoor
