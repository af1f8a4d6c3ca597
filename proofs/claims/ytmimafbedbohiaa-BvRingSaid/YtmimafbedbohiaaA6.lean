import Derived.Test.YtmimafbedbohiaaA5
namespace Go.Proofs.Ytmimafbedbohiaa
set_option linter.unusedVariables false
open Go.RowKit

/-- after k rounds the words of the sum stand -/
def PlusRel (w : World) (bs : List (Nat × List Value)) (n b S : Nat) (k : Nat) (wr : World) : Prop := ∃ X, Bld w bs n X b wr ∧ ∀ i, i < wcount n → word X i = if i < k then word S i else 0
theorem PlusRel.step {w bs n b S k wr w'} {y : Nat} (h : PlusRel w bs n b S k wr) (hk : k < wcount n) (hy : y = word S k) (hw : w' = (wr.setCell ⟨b, k, none⟩ (.int .u64 y)).drew) : PlusRel w bs n b S (k + 1) w' := by
  obtain ⟨X, hB, hX⟩ := h
  subst hw
  have hlt : y < 2 ^ 64 := hy ▸ word_lt _ _
  refine ⟨_, (hB.word hk hlt).drew, fun i hi => ?_⟩
  rw [setW_word _ _ _ _ hlt, hX i hi]
  by_cases e : i = k
  · subst e; rw [if_pos rfl, if_pos (Nat.lt_succ_self _), hy]
  · by_cases e2 : i < k
    · rw [if_neg e, if_pos e2, if_pos (by omega)]
    · rw [if_neg e, if_neg e2, if_neg (by omega)]
theorem PlusRel.done {w bs n b S wr} (h : PlusRel w bs n b S (wcount n) wr) : ∃ X, Bld w bs n X b wr ∧ X % 2 ^ n = S % 2 ^ n := by
  obtain ⟨X, hB, hX⟩ := h
  exact ⟨X, hB, cut_of_words (n_le_words n) fun i hi => by rw [hX i hi, if_pos hi]⟩

set_option maxRecDepth 100000 in
set_option maxHeartbeats 4000000 in
theorem plus_any {w : World} {va vb : Value} {n A B : Nat} (hA : VR w va n A) (hB : VR w vb n B) (hn : 0 < n) (c : Nat) (hc : c ≤ 1) :
    Calls Try.prog 47 #[va, vb, .int .u64 c] w (Fresh w n ((A + B + c) % 2 ^ n)) := by
  have HA := Lib.hid hA
  have HB := Lib.hid hB
  have hn128 := hA.le
  have hni : (n : Int) ≤ 128 := by omega
  obtain ⟨pa, ca, rfl, ra⟩ := hA.ex
  obtain ⟨pb, cb, rfl, rb⟩ := hB.ex
  have HC := Lib.hid hc
  have HBl := Lib.hid (fun w => blank_any (w := w) n hn128)
  have HN := Lib.hid hn
  clear hA hB ra rb hc hn128 hn
  go_enter Try.func47, Try.ntmps47
  go_wp2_with fail
  have k0 := ((Blk.new (w := w) 26 [.int .i64 n, .slice pa (wcount n) ca]).alloc (.cells #[.int .i64 n, .slice pb (wcount n) cb] 26)).alloc (.cells #[.int .i64 0, .slice none 0 0] 26)
  have k1 := (Blk.new (w := w.alloc (.cells #[.int .i64 n, .slice pa (wcount n) ca] 26)) 26 [.int .i64 n, .slice pb (wcount n) cb]).alloc (.cells #[.int .i64 0, .slice none 0 0] 26)
  have k2 := Blk.new (w := (w.alloc (.cells #[.int .i64 n, .slice pa (wcount n) ca] 26)).alloc (.cells #[.int .i64 n, .slice pb (wcount n) cb] 26)) 26 [.int .i64 0, .slice none 0 0]
  have hb3 : Below w.heap.size w (((w.alloc (.cells #[.int .i64 n, .slice pa (wcount n) ca] 26)).alloc (.cells #[.int .i64 n, .slice pb (wcount n) cb] 26)).alloc (.cells #[.int .i64 0, .slice none 0 0] 26)) := ((Below.new _ _).alloc (by simp) _).alloc (by simp; omega) _
  simp only [World.size_alloc] at k1 k2
  generalize ((w.alloc (.cells #[.int .i64 n, .slice pa (wcount n) ca] 26)).alloc (.cells #[.int .i64 n, .slice pb (wcount n) cb] 26)).alloc (.cells #[.int .i64 0, .slice none 0 0] 26) = W at *
  have HK := Lib.hid (And.intro k0 (And.intro k1 (And.intro k2 hb3)))
  clear k0 k1 k2 hb3
  refine (HBl.out _).mono ?_; rintro e w1 ⟨v, b, rfl, hV, hge, hb1⟩
  obtain rfl := hV.e
  have hS := Bld.start (w := w) (bs := [(w.heap.size, [.int .i64 n, .slice pa (wcount n) ca]), (w.heap.size + 1, [.int .i64 n, .slice pb (wcount n) cb]), (w.heap.size + 1 + 1, [.int .i64 0, .slice none 0 0])]) (by
    intro p hp
    simp only [List.mem_cons, List.not_mem_nil, or_false] at hp
    rcases hp with rfl | rfl | rfl
    · exact HK.out.1
    · exact HK.out.2.1
    · exact HK.out.2.2.1) HK.out.2.2.2 hb1 hV hge
  have hS2 := Lib.hid (hS.push [.int .i64 n, .slice (some ⟨b, 0, none⟩) (wcount n) (wcount n)])
  clear hV hb1 hS hge
  go_wp2_with fail
  generalize w1.alloc (.cells #[.int .i64 n, .slice (some ⟨b, 0, none⟩) (wcount n) (wcount n)] 26) = w2 at *
  generalize w1.heap.size = L at *
  have HM := Lib.hid (show wcount n ≤ 3 by unfold wcount; omega)
  have hmi : (wcount n : Int) ≤ 3 := by have := HM.out; omega
  generalize hbs : [(L, [Value.int IntKind.i64 n, Value.slice (some ⟨b, 0, none⟩) (wcount n) (wcount n)]), (w.heap.size, [Value.int IntKind.i64 n, Value.slice pa (wcount n) ca]), (w.heap.size + 1, [Value.int IntKind.i64 n, Value.slice pb (wcount n) cb]), (w.heap.size + 1 + 1, [Value.int IntKind.i64 0, Value.slice none 0 0])] = bs at *
  have HS := Lib.hid hbs
  clear hbs
  go_loopw [2, 15] (fun cy i wr => ∃ k : Nat, k ≤ wcount n ∧ i = .int .i64 k ∧ cy = .int .u64 (carryTo A B c k) ∧ PlusRel w bs n b (A + B + c) k wr) (fun _ i _ => wcount n - (intOf i).toNat)
  case atStart => exact ⟨0, Nat.zero_le _, rfl, by rw [carry_zero], 0, hS2.out, fun i _ => by rw [if_neg (Nat.not_lt_zero _), word_zero]⟩
  case round =>
    obtain ⟨k, hk, rfl, rfl, hP⟩ := hrel
    have HP := Lib.hid hP
    obtain ⟨X, hX, hXw⟩ := hP
    by_cases hlt : k < wcount n
    · have hki : (k : Int) < (wcount n : Int) := by omega
      obtain ⟨ba, oa, ca', ea, fa⟩ := (HA.out.below hX.bel).word hlt
      obtain ⟨bb, ob, cb', eb, fb⟩ := (HB.out.below hX.bel).word hlt
      simp only [Value.agg.injEq, Array.mk.injEq, List.cons.injEq, Value.slice.injEq, true_and, and_true] at ea eb
      obtain ⟨rfl, rfl⟩ := ea
      obtain ⟨rfl, rfl⟩ := eb
      have x0 := (hX.drew.box (p := (L, [.int .i64 n, .slice (some ⟨b, 0, none⟩) (wcount n) (wcount n)])) (by rw [← HS.out]; simp)).cell (i := 1) rfl
      have x1 := (hX.drew.box (p := (w.heap.size, [.int .i64 n, .slice (some ⟨ba, oa, none⟩) (wcount n) ca])) (by rw [← HS.out]; simp)).cell (i := 1) rfl
      have x2 := (hX.drew.box (p := (w.heap.size + 1, [.int .i64 n, .slice (some ⟨bb, ob, none⟩) (wcount n) cb])) (by rw [← HS.out]; simp)).cell (i := 1) rfl
      have y0 := hX.vo.drew.blk.cell (wordsV_at hlt)
      have y1 := hX.vo.drew.blk.frz k
      have n0 := Ne.symm (hX.bx (L, [.int .i64 n, .slice (some ⟨b, 0, none⟩) (wcount n) (wcount n)]) (by rw [← HS.out]; simp)).2
      have n1 := Ne.symm (hX.bx (w.heap.size, [.int .i64 n, .slice (some ⟨ba, oa, none⟩) (wcount n) ca]) (by rw [← HS.out]; simp)).2
      have n2 := Ne.symm (hX.bx (w.heap.size + 1, [.int .i64 n, .slice (some ⟨bb, ob, none⟩) (wcount n) cb]) (by rw [← HS.out]; simp)).2
      have na : b ≠ ba := by
        obtain ⟨b', o', c', e', f'⟩ := HA.out.word hlt
        simp only [Value.agg.injEq, Array.mk.injEq, List.cons.injEq, Value.slice.injEq, true_and, and_true, Option.some.injEq, Addr.mk.injEq] at e'
        have := World.block_lt_of_cell? _ _ f'
        have := hX.ge
        dsimp only at *
        omega
      have nb : b ≠ bb := by
        obtain ⟨b', o', c', e', f'⟩ := HB.out.word hlt
        simp only [Value.agg.injEq, Array.mk.injEq, List.cons.injEq, Value.slice.injEq, true_and, and_true, Option.some.injEq, Addr.mk.injEq] at e'
        have := World.block_lt_of_cell? _ _ f'
        have := hX.ge
        dsimp only at *
        omega
      dsimp only at n0 n1 n2
      have hadd := add64_run (word A k) (word B k) (carryTo A B c k) (carry_le A B c k HC.out)
      have HST := Lib.hid (carry_step A B c k)
      have HLT := Lib.hid hlt
      generalize word A k = wa at *
      generalize word B k = wb at *
      generalize word X k = wx at *
      generalize carryTo A B c k = cy at *
      dsimp only at x0 x1 x2
      clear hXw hX hlt hk
      go_wp2_with fail
      go_region_held3 (fun w' => w'.cell? ⟨L, 1, none⟩ = some (.slice (some ⟨b, 0, none⟩) (wcount n) (wcount n)) ∧ w'.cell? ⟨w.heap.size, 1, none⟩ = some (.slice (some ⟨ba, oa, none⟩) (wcount n) ca) ∧ w'.cell? ⟨w.heap.size + 1, 1, none⟩ = some (.slice (some ⟨bb, ob, none⟩) (wcount n) cb) ∧ w'.cell? ⟨ba, oa + k, none⟩ = some (.int .u64 wa) ∧ w'.cell? ⟨bb, ob + k, none⟩ = some (.int .u64 wb))
        (first | exact ⟨x0, x1, x2, fa, fb⟩ | exact ⟨(World.cell?_setCell_far _ _ _ _ n0).trans x0, (World.cell?_setCell_far _ _ _ _ n1).trans x1, (World.cell?_setCell_far _ _ _ _ n2).trans x2, (World.cell?_setCell_far _ _ _ _ na).trans fa, (World.cell?_setCell_far _ _ _ _ nb).trans fb⟩)
        (fail)
      go_wp2_with fail
      go_roundw
      case rel =>
        exact ⟨k + 1, HLT.out, by go_num, by rw [← HST.out.2]; congr 1, HP.out.step HLT.out HST.out.1 rfl⟩
      case measure => simp [intOf]; omega
    · obtain rfl : k = wcount n := by omega
      clear hX hXw hlt hk
      obtain ⟨X, hX, hXS⟩ := HP.out.done
      have HXS := Lib.hid (And.intro hX hXS)
      have x0 := (hX.box (p := (L, [.int .i64 n, .slice (some ⟨b, 0, none⟩) (wcount n) (wcount n)])) (by rw [← HS.out]; simp)).cell (i := 0) rfl
      have x1 := (hX.box (p := (L, [.int .i64 n, .slice (some ⟨b, 0, none⟩) (wcount n) (wcount n)])) (by rw [← HS.out]; simp)).cell (i := 1) rfl
      dsimp only at x0 x1
      have HCut := Lib.hid (cut_any hX.vo HN.out)
      clear hX hXS
      go_wp2_with fail
      refine HCut.out.mono ?_; rintro e w3 ⟨rfl, hv3, hg3⟩
      have hB3 := HXS.out.1.grown hg3 hv3
      have kr := hB3.box (p := (w.heap.size + 1 + 1, [.int .i64 0, .slice none 0 0])) (by rw [← HS.out]; simp)
      have HB3 := Lib.hid (And.intro hB3 kr)
      have r0 := kr.cell (i := 0) rfl
      have r1 := kr.cell (i := 1) rfl
      have f0 := kr.frz 0
      have f1 := kr.frz 1
      have hne := (hB3.bx (w.heap.size + 1 + 1, [.int .i64 0, .slice none 0 0]) (by rw [← HS.out]; simp)).2
      dsimp only [vecO] at r0 r1 f0 f1 hne ⊢
      clear hv3 hg3 hB3 kr x0 x1
      go_wp2_with fail
      obtain ⟨e0, e1, hv, hbl⟩ := HB3.out.1.ret (R := w.heap.size + 1 + 1) (u := .int .i64 0) (v := .slice none 0 0) (by rw [← HS.out]; simp) (by omega)
      rw [HXS.out.2] at hv
      exact bodyPost_ret (v := vecO n b) (by simp [results, Try.results47, go_sem, e0, e1, vecO]) rfl ⟨_, _, rfl, hv, HB3.out.1.ge, hbl⟩
end Go.Proofs.Ytmimafbedbohiaa
