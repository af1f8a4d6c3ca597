import Derived.Test.YtmimafbedbohiaaA6
namespace Go.Proofs.Ytmimafbedbohiaa
set_option linter.unusedVariables false
open Go.RowKit

theorem u64_turn (a : Nat) (ha : a < 2 ^ 64) : bits .xor .u64 (if IntKind.u64.signed = true then -1 else IntKind.u64.max) (a : Int) = ((18446744073709551615 - a : Nat) : Int) := by
  have e : (if IntKind.u64.signed = true then (-1 : Int) else IntKind.u64.max) = ((18446744073709551615 : Nat) : Int) := rfl
  have h2 : (18446744073709551615 : Nat) ^^^ a = 18446744073709551615 - a := by
    apply eq_bits; intro j
    rw [show 18446744073709551615 - a = 2 ^ 64 - (a + 1) by omega, Nat.testBit_two_pow_sub_succ ha, Nat.testBit_xor, show (18446744073709551615 : Nat) = 2 ^ 64 - (0 + 1) from rfl, Nat.testBit_two_pow_sub_succ (by decide)]
    by_cases hj : j < 64
    · simp [hj]
    · rw [bit_big ha (by omega)]; simp [hj]
  rw [e, u64_xor_nat _ a (by decide) ha, h2]
theorem PlusRel.step0 {w bs n b S k wr} {y : Nat} (h : PlusRel w bs n b S k wr) (hk : k < wcount n) (hy : y = word S k) : PlusRel w bs n b S (k + 1) (wr.setCell ⟨b, k, none⟩ (.int .u64 y)) := by
  obtain ⟨X, hB, hX⟩ := h
  have hlt : y < 2 ^ 64 := hy ▸ word_lt _ _
  refine ⟨_, hB.word hk hlt, fun i hi => ?_⟩
  rw [setW_word _ _ _ _ hlt, hX i hi]
  by_cases e : i = k
  · subst e; rw [if_pos rfl, if_pos (Nat.lt_succ_self _), hy]
  · by_cases e2 : i < k
    · rw [if_neg e, if_pos e2, if_pos (by omega)]
    · rw [if_neg e, if_neg e2, if_neg (by omega)]

set_option maxRecDepth 100000 in
set_option maxHeartbeats 4000000 in
theorem not_any {w : World} {va : Value} {n A : Nat} (hA : VR w va n A) (hn : 0 < n) :
    Calls Try.prog 48 #[va] w (Fresh w n (notN n A)) := by
  have HA := Lib.hid hA
  have hn128 := hA.le
  have hni : (n : Int) ≤ 128 := by omega
  obtain ⟨pa, ca, rfl, ra⟩ := hA.ex
  have HBl := Lib.hid (fun w => blank_any (w := w) n hn128)
  have HN := Lib.hid hn
  clear hA ra hn128 hn
  go_enter Try.func48, Try.ntmps48
  go_wp2_with fail
  have k0 := (Blk.new (w := w) 26 [.int .i64 n, .slice pa (wcount n) ca]).alloc (.cells #[.int .i64 0, .slice none 0 0] 26)
  have k2 := Blk.new (w := (w.alloc (.cells #[.int .i64 n, .slice pa (wcount n) ca] 26))) 26 [.int .i64 0, .slice none 0 0]
  have hb3 : Below w.heap.size w ((w.alloc (.cells #[.int .i64 n, .slice pa (wcount n) ca] 26)).alloc (.cells #[.int .i64 0, .slice none 0 0] 26)) := (Below.new _ _).alloc (by simp) _
  simp only [World.size_alloc] at k2
  generalize (w.alloc (.cells #[.int .i64 n, .slice pa (wcount n) ca] 26)).alloc (.cells #[.int .i64 0, .slice none 0 0] 26) = W at *
  have p1 := k0.cell (i := 0) rfl
  have HK := Lib.hid (And.intro k0 (And.intro k2 hb3))
  clear k0 k2 hb3
  refine (HBl.out _).mono ?_; rintro e w1 ⟨v, b, rfl, hV, hge, hb1⟩
  obtain rfl := hV.e
  have hS := Bld.start (w := w) (bs := [(w.heap.size, [.int .i64 n, .slice pa (wcount n) ca]), (w.heap.size + 1, [.int .i64 0, .slice none 0 0])]) (by
    intro p hp
    simp only [List.mem_cons, List.not_mem_nil, or_false] at hp
    rcases hp with rfl | rfl
    · exact HK.out.1
    · exact HK.out.2.1) HK.out.2.2 hb1 hV hge
  have q1 := (hS.box (p := (w.heap.size, [.int .i64 n, .slice pa (wcount n) ca])) (by simp)).cell (i := 1) rfl
  have hwz : w.heap.size < w1.heap.size := (hS.box (p := (w.heap.size, [.int .i64 n, .slice pa (wcount n) ca])) (by simp)).lt
  dsimp only at q1
  have hS2 := Lib.hid (hS.push [.int .i64 n, .slice (some ⟨b, 0, none⟩) (wcount n) (wcount n)])
  clear hV hb1 hS hge p1
  go_wp2_with fail
  generalize w1.alloc (.cells #[.int .i64 n, .slice (some ⟨b, 0, none⟩) (wcount n) (wcount n)] 26) = w2 at *
  generalize w1.heap.size = L at *
  have HM := Lib.hid (show wcount n ≤ 3 by unfold wcount; omega)
  have hmi : (wcount n : Int) ≤ 3 := by have := HM.out; omega
  generalize hbs : [(L, [Value.int IntKind.i64 n, Value.slice (some ⟨b, 0, none⟩) (wcount n) (wcount n)]), (w.heap.size, [Value.int IntKind.i64 n, Value.slice pa (wcount n) ca]), (w.heap.size + 1, [Value.int IntKind.i64 0, Value.slice none 0 0])] = bs at *
  have HS := Lib.hid hbs
  have HA64 : Hid (A < 2 ^ (64 * wcount n)) := Lib.hid (Nat.lt_of_lt_of_le HA.out.lt (Nat.pow_le_pow_right (by decide) (n_le_words n)))
  clear hbs q1
  go_loopw [12] (fun i wr => ∃ k : Nat, k ≤ wcount n ∧ i = .int .i64 k ∧ PlusRel w bs n b (2 ^ (64 * wcount n) - 1 - A) k wr) (fun i _ => wcount n - (intOf i).toNat)
  case atStart => exact ⟨0, Nat.zero_le _, rfl, 0, hS2.out, fun i _ => by rw [if_neg (Nat.not_lt_zero _), word_zero]⟩
  case round =>
    obtain ⟨k, hk, rfl, hP⟩ := hrel
    have HP := Lib.hid hP
    obtain ⟨X, hX, hXw⟩ := hP
    by_cases hlt : k < wcount n
    · have hki : (k : Int) < (wcount n : Int) := by omega
      obtain ⟨ba, oa, ca', ea, fa⟩ := (HA.out.below hX.bel).word hlt
      simp only [Value.agg.injEq, Array.mk.injEq, List.cons.injEq, Value.slice.injEq, true_and, and_true] at ea
      obtain ⟨rfl, rfl⟩ := ea
      have x0 := (hX.box (p := (L, [.int .i64 n, .slice (some ⟨b, 0, none⟩) (wcount n) (wcount n)])) (by rw [← HS.out]; simp)).cell (i := 1) rfl
      have y0 := hX.vo.blk.cell (wordsV_at hlt)
      have y1 := hX.vo.blk.frz k
      have HST := Lib.hid (word_not A (wcount n) k HA64.out hlt)
      have HU := Lib.hid (u64_turn (word A k) (word_lt A k))
      have HLT := Lib.hid hlt
      generalize word A k = wa at *
      generalize word X k = wx at *
      dsimp only at x0
      clear hXw hX hlt hk
      go_wp2_with fail
      rw [HU.out]
      exact ⟨⟨k + 1, HLT.out, by go_num, HP.out.step0 HLT.out HST.out.symm⟩, by simp [intOf]; omega⟩
    · obtain rfl : k = wcount n := by omega
      clear hX hXw hlt hk
      obtain ⟨X, hX, hXS⟩ := HP.out.done
      rw [not_cut HA.out.lt (n_le_words n)] at hXS
      have HXS := Lib.hid (And.intro hX hXS)
      have x0 := (hX.box (p := (L, [.int .i64 n, .slice (some ⟨b, 0, none⟩) (wcount n) (wcount n)])) (by rw [← HS.out]; simp)).cell (i := 0) rfl
      have x1 := (hX.box (p := (L, [.int .i64 n, .slice (some ⟨b, 0, none⟩) (wcount n) (wcount n)])) (by rw [← HS.out]; simp)).cell (i := 1) rfl
      dsimp only at x0 x1
      have HCut := Lib.hid (cut_any hX.vo HN.out)
      clear hX hXS
      go_wp2_with fail
      refine HCut.out.mono ?_; rintro e w3 ⟨rfl, hv3, hg3⟩
      have hB3 := HXS.out.1.grown hg3 hv3
      have kr := hB3.box (p := (w.heap.size + 1, [.int .i64 0, .slice none 0 0])) (by rw [← HS.out]; simp)
      have HB3 := Lib.hid hB3
      have r0 := kr.cell (i := 0) rfl
      have r1 := kr.cell (i := 1) rfl
      have f0 := kr.frz 0
      have f1 := kr.frz 1
      dsimp only [vecO] at r0 r1 f0 f1 ⊢
      clear hv3 hg3 hB3 kr x0 x1
      go_wp2_with fail
      obtain ⟨e0, e1, hv, hbl⟩ := HB3.out.ret (R := w.heap.size + 1) (u := .int .i64 0) (v := .slice none 0 0) (by rw [← HS.out]; simp) (by omega)
      rw [HXS.out.2] at hv
      exact bodyPost_ret (v := vecO n b) (by simp [results, Try.results48, go_sem, e0, e1, vecO]) rfl ⟨_, _, rfl, hv, HB3.out.ge, hbl⟩
end Go.Proofs.Ytmimafbedbohiaa
