
import Derived.Test.YtkoggfahjlnecaaGreatDoorVB2
namespace Go.Proofs.YtkoggfahjlnecaaGreatDoor
set_option linter.unusedVariables false
open Go.RowKit
set_option maxRecDepth 100000 in
set_option maxHeartbeats 4000000 in
theorem less_any {w : World} {va vb : Value} {n A B : Nat} (hA : VR w va n A) (hB : VR w vb n B) : Calls Tryz.prog 123 #[va, vb] w fun e w' => e = .returned (.bool (decide (A < B))) ∧ Below w.heap.size w w' := by
  have HA := Lib.hid hA
  have HB := Lib.hid hB
  have hn128 := hA.le
  have hA64 : A < 2 ^ (64 * wcount n) := Nat.lt_of_lt_of_le hA.lt (Nat.pow_le_pow_right (by decide) (n_le_words n))
  have hB64 : B < 2 ^ (64 * wcount n) := Nat.lt_of_lt_of_le hB.lt (Nat.pow_le_pow_right (by decide) (n_le_words n))
  have HLW := Lib.hid (fun i => less_words hA64 hB64 i)
  have HWE := Lib.hid (words_ext hA64 hB64)
  obtain ⟨pa, ca, rfl, ra⟩ := hA.ex
  obtain ⟨pb, cb, rfl, rb⟩ := hB.ex
  have HM := Lib.hid (show wcount n ≤ 3 by unfold wcount; omega)
  have hmi : (wcount n : Int) ≤ 3 := by have := HM.out; omega
  clear hA hB ra rb hn128 hA64 hB64
  go_enter Tryz.func123, Tryz.ntmps123
  go_wp2_with fail
  have k0 := (Blk.new (w := w) 39 [.int .i64 n, .slice pa (wcount n) ca]).alloc (.cells #[.int .i64 n, .slice pb (wcount n) cb] 39)
  have k1 := Blk.new (w := w.alloc (.cells #[.int .i64 n, .slice pa (wcount n) ca] 39)) 39 [.int .i64 n, .slice pb (wcount n) cb]
  have hb3 : Below w.heap.size w ((w.alloc (.cells #[.int .i64 n, .slice pa (wcount n) ca] 39)).alloc (.cells #[.int .i64 n, .slice pb (wcount n) cb] 39)) := (Below.new _ _).alloc (by simp) _
  simp only [World.size_alloc] at k1
  generalize (w.alloc (.cells #[.int .i64 n, .slice pa (wcount n) ca] 39)).alloc (.cells #[.int .i64 n, .slice pb (wcount n) cb] 39) = W at *
  have HK := Lib.hid (And.intro k0 (And.intro k1 hb3))
  clear k0 k1 hb3
  go_loopw [5] (fun t wr => ∃ i : Int, t = .int .i64 i ∧ -1 ≤ i ∧ i < wcount n ∧ (∀ j : Nat, i < j → j < wcount n → word A j = word B j) ∧ Below W.heap.size W wr) (fun t _ => (intOf t + 1).toNat)
  case atStart => exact ⟨_, rfl, by omega, by omega, fun j h1 h2 => by omega, Below.refl _ _⟩
  case round =>
    obtain ⟨i, rfl, hi1, hi2, heq, hbel⟩ := hrel
    have HR := Lib.hid (And.intro heq hbel)
    by_cases h0 : 0 ≤ i
    · obtain ⟨k, rfl⟩ : ∃ k : Nat, i = k := ⟨i.toNat, by omega⟩
      have hlt : k < wcount n := by omega
      have hbw : Below w.heap.size w wr := HK.out.2.2.trans (hbel.mono HK.out.2.2.size)
      obtain ⟨ba, oa, ca', ea, fa⟩ := (HA.out.below hbw).word hlt
      obtain ⟨bb, ob, cb', eb, fb⟩ := (HB.out.below hbw).word hlt
      simp only [Value.agg.injEq, Array.mk.injEq, List.cons.injEq, Value.slice.injEq, true_and, and_true] at ea eb
      obtain ⟨rfl, rfl⟩ := ea
      obtain ⟨rfl, rfl⟩ := eb
      have x1 := (HK.out.1.next hbel).cell (i := 1) rfl
      have x2 := (HK.out.2.1.next hbel).cell (i := 1) rfl
      have HL := Lib.hid (HLW.out k (fun j h1 h2 => heq j (by omega) h2))
      have HX := Lib.hid (show (fun j => word A j = word B j) k ↔ word A k = word B k from Iff.rfl)
      generalize word A k = wa at *
      generalize word B k = wb at *
      clear heq hbel hbw
      by_cases hne : wa = wb
      · have hne' : ((wa : Int) != (wb : Int)) = false := by simp [hne]
        have HE := Lib.hid (HX.out.2 hne)
        clear hne
        go_wp2_with fail
        go_quiet (fail)
        go_wp2_with fail
        go_roundw
        case rel => exact ⟨_, rfl, by omega, by omega, fun j h1 h2 => by
                      by_cases e : j = k
                      · subst e; exact HE.out
                      · exact HR.out.1 j (by omega) h2, HR.out.2.trans (below_drewN _)⟩
        case measure => simp [intOf]
      · have hne' : ((wa : Int) != (wb : Int)) = true := by simp; omega
        have HE := Lib.hid (HL.out hne)
        clear hne
        go_wp2_with fail
        go_quiet (fail)
        go_wp2_with fail
        go_quiet (fail)
        go_wp2_with fail
        go_ret
        refine ⟨?_, (HK.out.2.2.trans (HR.out.2.mono HK.out.2.2.size)).trans ((below_drewN _).trans (below_drewN _))⟩
        have : decide (A < B) = decide (wa < wb) := by
          rw [Bool.eq_iff_iff, decide_eq_true_eq, decide_eq_true_eq, HE.out]
        rw [this]; rfl
    · obtain rfl : i = -1 := by omega
      have HAB := Lib.hid (HWE.out fun j hj => heq j (by omega) hj)
      clear heq hbel h0
      go_wp2_with fail
      go_ret
      exact ⟨by rw [HAB.out]; simp, HK.out.2.2.trans (HR.out.2.mono HK.out.2.2.size)⟩
theorem and_fn (x y : Nat) (hx : x < 2 ^ 64) (hy : y < 2 ^ 64) (w : World) : Calls Tryz.prog 86 #[.int .u64 x, .int .u64 y] w fun e w' => e = .returned (.int .u64 ((x &&& y : Nat) : Int)) ∧ w = w' := by
  have h := Lib.hid (u64_and_nat x y hx hy)
  go_enter Tryz.func86, Tryz.ntmps86
  go_wp2_with fail
  go_ret
  exact ⟨by rw [← h.out]; rfl, rfl⟩
theorem or_fn (x y : Nat) (hx : x < 2 ^ 64) (hy : y < 2 ^ 64) (w : World) : Calls Tryz.prog 87 #[.int .u64 x, .int .u64 y] w fun e w' => e = .returned (.int .u64 ((x ||| y : Nat) : Int)) ∧ w = w' := by
  have h := Lib.hid (u64_or_nat x y hx hy)
  go_enter Tryz.func87, Tryz.ntmps87
  go_wp2_with fail
  go_ret
  exact ⟨by rw [← h.out]; rfl, rfl⟩
theorem xor_fn (x y : Nat) (hx : x < 2 ^ 64) (hy : y < 2 ^ 64) (w : World) : Calls Tryz.prog 88 #[.int .u64 x, .int .u64 y] w fun e w' => e = .returned (.int .u64 ((x ^^^ y : Nat) : Int)) ∧ w = w' := by
  have h := Lib.hid (u64_xor_nat x y hx hy)
  go_enter Tryz.func88, Tryz.ntmps88
  go_wp2_with fail
  go_ret
  exact ⟨by rw [← h.out]; rfl, rfl⟩
end Go.Proofs.YtkoggfahjlnecaaGreatDoor
namespace Go.Proofs.YtkoggfahjlnecaaGreatDoor
set_option linter.unusedVariables false
open Go.RowKit
set_option maxRecDepth 100000 in
set_option maxHeartbeats 4000000 in
theorem bitwise_any {w : World} {va vb : Value} {n A B : Nat} (hA : VR w va n A) (hB : VR w vb n B) (g : Nat) (f : Nat → Nat → Nat)
    (hg : ∀ (x y : Nat), x < 2 ^ 64 → y < 2 ^ 64 → ∀ w, Calls Tryz.prog g #[.int .u64 x, .int .u64 y] w fun e w' => e = .returned (.int .u64 ((f x y : Nat) : Int)) ∧ w = w')
    (hen : ∀ args w, (callFunc g args).run Tryz.prog w = .ok (.enter g args) w)
    (hf : ∀ i, word (f A B) i = f (word A i) (word B i)) (hfl : f A B < 2 ^ n) :
    Calls Tryz.prog 85 #[va, vb, .func (Fn.func g) #[] #[]] w (Fresh w n (f A B)) := by
  have HA := Lib.hid hA
  have HB := Lib.hid hB
  have hn128 := hA.le
  have hni : (n : Int) ≤ 128 := by omega
  obtain ⟨pa, ca, rfl, ra⟩ := hA.ex
  obtain ⟨pb, cb, rfl, rb⟩ := hB.ex
  have HF := Lib.hid (And.intro hf hfl)
  have HBl := Lib.hid (fun w => blank_any (w := w) n hn128)
  have HG : Hid (∀ (x y : Nat), x < 2 ^ 64 → y < 2 ^ 64 → ∀ w, Calls Tryz.prog g #[.int .u64 x, .int .u64 y] w fun e w' => e = .returned (.int .u64 ((f x y : Nat) : Int)) ∧ w' = w) := Lib.hid fun x y hx hy w => (hg x y hx hy w).mono fun _ _ ⟨h, k⟩ => ⟨h, k.symm⟩
  clear hA hB ra rb hn128 hg hf hfl
  go_enter Tryz.func85, Tryz.ntmps85
  go_wp2_with fail
  have k0 := ((Blk.new (w := w) 39 [.int .i64 n, .slice pa (wcount n) ca]).alloc (.cells #[.int .i64 n, .slice pb (wcount n) cb] 39)).alloc (.cells #[.int .i64 0, .slice none 0 0] 39)
  have k1 := (Blk.new (w := w.alloc (.cells #[.int .i64 n, .slice pa (wcount n) ca] 39)) 39 [.int .i64 n, .slice pb (wcount n) cb]).alloc (.cells #[.int .i64 0, .slice none 0 0] 39)
  have k2 := Blk.new (w := (w.alloc (.cells #[.int .i64 n, .slice pa (wcount n) ca] 39)).alloc (.cells #[.int .i64 n, .slice pb (wcount n) cb] 39)) 39 [.int .i64 0, .slice none 0 0]
  have hb3 : Below w.heap.size w (((w.alloc (.cells #[.int .i64 n, .slice pa (wcount n) ca] 39)).alloc (.cells #[.int .i64 n, .slice pb (wcount n) cb] 39)).alloc (.cells #[.int .i64 0, .slice none 0 0] 39)) := ((Below.new _ _).alloc (by simp) _).alloc (by simp; omega) _
  simp only [World.size_alloc] at k1 k2
  generalize ((w.alloc (.cells #[.int .i64 n, .slice pa (wcount n) ca] 39)).alloc (.cells #[.int .i64 n, .slice pb (wcount n) cb] 39)).alloc (.cells #[.int .i64 0, .slice none 0 0] 39) = W at *
  have HK := Lib.hid (And.intro k0 (And.intro k1 (And.intro k2 hb3)))
  clear k0 k1 k2 hb3
  refine (HBl.out _).mono ?_; rintro e w1 ⟨v, b, rfl, hV, hge, hb1⟩
  obtain rfl := hV.e
  have hS := Bld.start (w := w) (bs := [(w.heap.size, [.int .i64 n, .slice pa (wcount n) ca]), (w.heap.size + 1, [.int .i64 n, .slice pb (wcount n) cb]), (w.heap.size + 1 + 1, [.int .i64 0, .slice none 0 0])]) (by
    intro p hp
    simp only [List.mem_cons, List.not_mem_nil, or_false] at hp
    rcases hp with rfl | rfl | rfl
    · exact HK.out.1
    · exact HK.out.2.1
    · exact HK.out.2.2.1) HK.out.2.2.2 hb1 hV hge
  have hS2 := Lib.hid (hS.push [.int .i64 n, .slice (some ⟨b, 0, none⟩) (wcount n) (wcount n)])
  clear hV hb1 hS hge
  go_wp2_with fail
  generalize w1.alloc (.cells #[.int .i64 n, .slice (some ⟨b, 0, none⟩) (wcount n) (wcount n)] 39) = w2 at *
  generalize w1.heap.size = L at *
  have HM := Lib.hid (show wcount n ≤ 3 by unfold wcount; omega)
  have hmi : (wcount n : Int) ≤ 3 := by have := HM.out; omega
  generalize hbs : [(L, [Value.int IntKind.i64 n, Value.slice (some ⟨b, 0, none⟩) (wcount n) (wcount n)]), (w.heap.size, [Value.int IntKind.i64 n, Value.slice pa (wcount n) ca]), (w.heap.size + 1, [Value.int IntKind.i64 n, Value.slice pb (wcount n) cb]), (w.heap.size + 1 + 1, [Value.int IntKind.i64 0, Value.slice none 0 0])] = bs at *
  have HS := Lib.hid hbs
  clear hbs
  go_loopw [15] (fun i wr => ∃ k : Nat, k ≤ wcount n ∧ i = .int .i64 k ∧ PlusRel w bs n b (f A B) k wr) (fun i _ => wcount n - (intOf i).toNat)
  case atStart => exact ⟨0, Nat.zero_le _, rfl, 0, hS2.out, fun i _ => by rw [if_neg (Nat.not_lt_zero _), word_zero]⟩
  case round =>
    obtain ⟨k, hk, rfl, hP⟩ := hrel
    have HP := Lib.hid hP
    obtain ⟨X, hX, hXw⟩ := hP
    by_cases hlt : k < wcount n
    · have hki : (k : Int) < (wcount n : Int) := by omega
      obtain ⟨ba, oa, ca', ea, fa⟩ := (HA.out.below hX.bel).word hlt
      obtain ⟨bb, ob, cb', eb, fb⟩ := (HB.out.below hX.bel).word hlt
      simp only [Value.agg.injEq, Array.mk.injEq, List.cons.injEq, Value.slice.injEq, true_and, and_true] at ea eb
      obtain ⟨rfl, rfl⟩ := ea
      obtain ⟨rfl, rfl⟩ := eb
      have x0 := (hX.drew.box (p := (L, [.int .i64 n, .slice (some ⟨b, 0, none⟩) (wcount n) (wcount n)])) (by rw [← HS.out]; simp)).cell (i := 1) rfl
      have x1 := (hX.drew.box (p := (w.heap.size, [.int .i64 n, .slice (some ⟨ba, oa, none⟩) (wcount n) ca])) (by rw [← HS.out]; simp)).cell (i := 1) rfl
      have x2 := (hX.drew.box (p := (w.heap.size + 1, [.int .i64 n, .slice (some ⟨bb, ob, none⟩) (wcount n) cb])) (by rw [← HS.out]; simp)).cell (i := 1) rfl
      have y0 := hX.vo.drew.blk.cell (wordsV_at hlt)
      have y1 := hX.vo.drew.blk.frz k
      have n0 := Ne.symm (hX.bx (L, [.int .i64 n, .slice (some ⟨b, 0, none⟩) (wcount n) (wcount n)]) (by rw [← HS.out]; simp)).2
      have n1 := Ne.symm (hX.bx (w.heap.size, [.int .i64 n, .slice (some ⟨ba, oa, none⟩) (wcount n) ca]) (by rw [← HS.out]; simp)).2
      have n2 := Ne.symm (hX.bx (w.heap.size + 1, [.int .i64 n, .slice (some ⟨bb, ob, none⟩) (wcount n) cb]) (by rw [← HS.out]; simp)).2
      have na : b ≠ ba := by
        obtain ⟨b', o', c', e', f'⟩ := HA.out.word hlt
        simp only [Value.agg.injEq, Array.mk.injEq, List.cons.injEq, Value.slice.injEq, true_and, and_true, Option.some.injEq, Addr.mk.injEq] at e'
        have := World.block_lt_of_cell? _ _ f'
        have := hX.ge
        dsimp only at *
        omega
      have nb : b ≠ bb := by
        obtain ⟨b', o', c', e', f'⟩ := HB.out.word hlt
        simp only [Value.agg.injEq, Array.mk.injEq, List.cons.injEq, Value.slice.injEq, true_and, and_true, Option.some.injEq, Addr.mk.injEq] at e'
        have := World.block_lt_of_cell? _ _ f'
        have := hX.ge
        dsimp only at *
        omega
      dsimp only at n0 n1 n2
      have HCl := Lib.hid (HG.out (word A k) (word B k) (word_lt _ _) (word_lt _ _))
      have HST := Lib.hid (HF.out.1 k)
      have HLT := Lib.hid hlt
      generalize word A k = wa at *
      generalize word B k = wb at *
      generalize word X k = wx at *
      obtain ⟨fy, hfy⟩ : ∃ y, f wa wb = y := ⟨_, rfl⟩
      rw [hfy] at HST HCl
      clear hfy
      dsimp only at x0 x1 x2
      clear hXw hX hlt hk
      go_wp2_with fail
      go_region_held3 (fun w' => w'.cell? ⟨L, 1, none⟩ = some (.slice (some ⟨b, 0, none⟩) (wcount n) (wcount n)) ∧ w'.cell? ⟨w.heap.size, 1, none⟩ = some (.slice (some ⟨ba, oa, none⟩) (wcount n) ca) ∧ w'.cell? ⟨w.heap.size + 1, 1, none⟩ = some (.slice (some ⟨bb, ob, none⟩) (wcount n) cb) ∧ w'.cell? ⟨ba, oa + k, none⟩ = some (.int .u64 wa) ∧ w'.cell? ⟨bb, ob + k, none⟩ = some (.int .u64 wb))
        (first | exact ⟨x0, x1, x2, fa, fb⟩ | exact ⟨(World.cell?_setCell_far _ _ _ _ n0).trans x0, (World.cell?_setCell_far _ _ _ _ n1).trans x1, (World.cell?_setCell_far _ _ _ _ n2).trans x2, (World.cell?_setCell_far _ _ _ _ na).trans fa, (World.cell?_setCell_far _ _ _ _ nb).trans fb⟩)
        ((refine (HCl.out _).mono ?_; rintro e w' ⟨rfl, rfl⟩))
      go_wp2_with fail
      go_roundw
      case rel =>
        exact ⟨k + 1, HLT.out, by go_num, HP.out.step HLT.out HST.out.symm rfl⟩
      case measure => simp [intOf]; omega
    · obtain rfl : k = wcount n := by omega
      clear hX hXw hlt hk
      obtain ⟨X, hX, hXS⟩ := HP.out
      have hB3 := hX.congr (y := f A B) (Nat.lt_of_lt_of_le HF.out.2 (Nat.pow_le_pow_right (by decide) (n_le_words n))) fun i hi => by rw [hXS i hi, if_pos hi]
      have x0 := (hB3.box (p := (L, [.int .i64 n, .slice (some ⟨b, 0, none⟩) (wcount n) (wcount n)])) (by rw [← HS.out]; simp)).cell (i := 0) rfl
      have x1 := (hB3.box (p := (L, [.int .i64 n, .slice (some ⟨b, 0, none⟩) (wcount n) (wcount n)])) (by rw [← HS.out]; simp)).cell (i := 1) rfl
      dsimp only at x0 x1
      have kr := hB3.box (p := (w.heap.size + 1 + 1, [.int .i64 0, .slice none 0 0])) (by rw [← HS.out]; simp)
      have HB3 := Lib.hid hB3
      have r0 := kr.cell (i := 0) rfl
      have r1 := kr.cell (i := 1) rfl
      have f0 := kr.frz 0
      have f1 := kr.frz 1
      dsimp only at r0 r1 f0 f1
      clear hX hXS hB3 kr
      go_wp2_with fail
      obtain ⟨e0, e1, hv, hbl⟩ := HB3.out.ret (R := w.heap.size + 1 + 1) (u := .int .i64 0) (v := .slice none 0 0) (by rw [← HS.out]; simp) (by omega)
      exact bodyPost_ret (v := vecO n b) (by simp [results, Tryz.results85, go_sem, e0, e1, vecO]) rfl ⟨_, _, rfl, hv, HB3.out.ge, hbl⟩
end Go.Proofs.YtkoggfahjlnecaaGreatDoor
namespace Go.Proofs.YtkoggfahjlnecaaGreatDoor
set_option linter.unusedVariables false
open Go.RowKit
theorem setB_ofB (f : Nat → Bool) (k : Nat) : setB (ofB f k) k (f k) = ofB f (k + 1) := by
  apply eq_bits; intro j
  rw [setB_bit, testBit_ofB, testBit_ofB]
  by_cases e : j = k
  · subst e; simp
  · rw [if_neg e]
    by_cases h : j < k
    · simp [h, Nat.lt_succ_of_lt h]
    · have : ¬ j < k + 1 := by omega
      simp [h, this]
theorem ofB_none (f : Nat → Bool) (k : Nat) (h : ∀ j, j < k → f j = false) : ofB f k = 0 := by
  apply eq_bits; intro j
  rw [testBit_ofB, Nat.zero_testBit]
  by_cases hj : j < k
  · simp [h j hj]
  · simp [hj]
/-- the block L of the variable out, and the block a of a boxed vector -/
theorem four_step {w' w'' : World} {L a : Nat} {x y u v : Value} (h : w'.cell? ⟨L, 0, none⟩ = some x ∧ w'.cell? ⟨L, 1, none⟩ = some y ∧ w'.cell? ⟨a, 0, none⟩ = some u ∧ w'.cell? ⟨a, 1, none⟩ = some v) (hb : Below w'.heap.size w' w'') :
    w''.cell? ⟨L, 0, none⟩ = some x ∧ w''.cell? ⟨L, 1, none⟩ = some y ∧ w''.cell? ⟨a, 0, none⟩ = some u ∧ w''.cell? ⟨a, 1, none⟩ = some v :=
  ⟨(hb.cell (World.block_lt_of_cell? _ _ h.1)).trans h.1, (hb.cell (World.block_lt_of_cell? _ _ h.2.1)).trans h.2.1, (hb.cell (World.block_lt_of_cell? _ _ h.2.2.1)).trans h.2.2.1, (hb.cell (World.block_lt_of_cell? _ _ h.2.2.2)).trans h.2.2.2⟩
theorem Bld.four {w bs n x b wr} (h : Bld w bs n x b wr) {L a : Nat} {p q u v : Value} (hL : (L, [p, q]) ∈ bs) (ha : (a, [u, v]) ∈ bs) :
    wr.cell? ⟨L, 0, none⟩ = some p ∧ wr.cell? ⟨L, 1, none⟩ = some q ∧ wr.cell? ⟨a, 0, none⟩ = some u ∧ wr.cell? ⟨a, 1, none⟩ = some v :=
  ⟨(h.box hL).cell (i := 0) rfl, (h.box hL).cell (i := 1) rfl, (h.box ha).cell (i := 0) rfl, (h.box ha).cell (i := 1) rfl⟩
/-- what up gives: bit j is bit j - s of A -/
def upF (A s : Nat) (j : Nat) : Bool := decide (s ≤ j) && A.testBit (j - s)
theorem bitI_sub (A s k : Nat) (h : s ≤ k) : bitI A ((k : Int) - (s : Int)) = upF A s k := by
  unfold bitI upF
  rw [decide_eq_true (by omega), decide_eq_true h, show ((k : Int) - (s : Int)).toNat = k - s by omega]
set_option maxRecDepth 100000 in
set_option maxHeartbeats 4000000 in
theorem up_any {w : World} {va : Value} {n A : Nat} (hA : VR w va n A) (s : Nat) (hs : s ≤ n) :
    Calls Tryz.prog 121 #[va, .int .i64 s] w (Fresh w n (ofB (upF A s) n)) := by
  have HA := Lib.hid hA
  have hn128 := hA.le
  have hni : (n : Int) ≤ 128 := by omega
  have HN := Lib.hid (And.intro hn128 hs)
  have HBit := Lib.hid (fun w' (hb : Below w.heap.size w w') => bit_any (hA.below hb))
  obtain ⟨pa, ca, rfl, ra⟩ := hA.ex
  have HBl := Lib.hid (fun w => blank_any (w := w) n hn128)
  have hsi : (s : Int) ≤ n := by omega
  clear hA ra hn128 hs
  go_enter Tryz.func121, Tryz.ntmps121
  go_wp2_with fail
  have k0 := (Blk.new (w := w) 39 [.int .i64 n, .slice pa (wcount n) ca]).alloc (.cells #[.int .i64 0, .slice none 0 0] 39)
  have k2 := Blk.new (w := (w.alloc (.cells #[.int .i64 n, .slice pa (wcount n) ca] 39))) 39 [.int .i64 0, .slice none 0 0]
  have hb3 : Below w.heap.size w ((w.alloc (.cells #[.int .i64 n, .slice pa (wcount n) ca] 39)).alloc (.cells #[.int .i64 0, .slice none 0 0] 39)) := (Below.new _ _).alloc (by simp) _
  simp only [World.size_alloc] at k2
  generalize (w.alloc (.cells #[.int .i64 n, .slice pa (wcount n) ca] 39)).alloc (.cells #[.int .i64 0, .slice none 0 0] 39) = W at *
  have p1 := k0.cell (i := 0) rfl
  have HK := Lib.hid (And.intro k0 (And.intro k2 hb3))
  clear k0 k2 hb3
  refine (HBl.out _).mono ?_; rintro e w1 ⟨v, b, rfl, hV, hge, hb1⟩
  obtain rfl := hV.e
  have hS := Bld.start (w := w) (bs := [(w.heap.size, [.int .i64 n, .slice pa (wcount n) ca]), (w.heap.size + 1, [.int .i64 0, .slice none 0 0])]) (by
    intro p hp
    simp only [List.mem_cons, List.not_mem_nil, or_false] at hp
    rcases hp with rfl | rfl
    · exact HK.out.1
    · exact HK.out.2.1) HK.out.2.2 hb1 hV hge
  have hS2 := Lib.hid (hS.push [.int .i64 n, .slice (some ⟨b, 0, none⟩) (wcount n) (wcount n)])
  clear hV hb1 hS hge p1
  go_wp2_with fail
  generalize w1.alloc (.cells #[.int .i64 n, .slice (some ⟨b, 0, none⟩) (wcount n) (wcount n)] 39) = w2 at *
  generalize w1.heap.size = L at *
  generalize hbs : [(L, [Value.int IntKind.i64 n, Value.slice (some ⟨b, 0, none⟩) (wcount n) (wcount n)]), (w.heap.size, [Value.int IntKind.i64 n, Value.slice pa (wcount n) ca]), (w.heap.size + 1, [Value.int IntKind.i64 0, Value.slice none 0 0])] = bs at *
  have hL : (L, [Value.int IntKind.i64 n, Value.slice (some ⟨b, 0, none⟩) (wcount n) (wcount n)]) ∈ bs := by rw [← hbs]; simp
  have ha : (w.heap.size, [Value.int IntKind.i64 n, Value.slice pa (wcount n) ca]) ∈ bs := by rw [← hbs]; simp
  have hR : (w.heap.size + 1, [Value.int IntKind.i64 0, Value.slice none 0 0]) ∈ bs := by rw [← hbs]; simp
  have HS := Lib.hid (And.intro hL (And.intro ha hR))
  clear hbs hL ha hR
  go_loopw [6] (fun i wr => ∃ k : Nat, s ≤ k ∧ k ≤ n ∧ i = .int .i64 k ∧ Bld w bs n (ofB (upF A s) k) b wr) (fun i _ => n - (intOf i).toNat)
  case atStart =>
    refine ⟨s, Nat.le_refl _, HN.out.2, rfl, ?_⟩
    rw [ofB_none _ _ fun j hj => by unfold upF; rw [decide_eq_false (by omega)]; rfl]
    exact hS2.out
  case round =>
    obtain ⟨k, hsk, hk, rfl, hX⟩ := hrel
    have HX := Lib.hid hX
    have s0 := hX.drew.four HS.out.1 HS.out.2.1
    have x0 := (hX.box HS.out.2.1).cell (i := 0) rfl
    dsimp only at x0
    have hski : (s : Int) ≤ k := by omega
    by_cases hlt : k < n
    · have hki : (k : Int) < n := by omega
      have HST := Lib.hid (setB_ofB (upF A s) k)
      have hb := HBit.out wr.drew hX.drew.bel ((k : Int) - (s : Int))
      rw [bitI_sub A s k hsk] at hb
      have HC := Lib.hid hb
      have hwr : IntKind.i64.wrap ((k : Int) - (s : Int)) = (k : Int) - (s : Int) := IntWalk.i64_in _ (by omega)
      generalize upF A s k = r at *
      clear hX hb
      go_wp2_with fail
      go_region_held3 (fun w' => w'.cell? ⟨L, 0, none⟩ = some (.int .i64 n) ∧ w'.cell? ⟨L, 1, none⟩ = some (.slice (some ⟨b, 0, none⟩) (wcount n) (wcount n)) ∧ w'.cell? ⟨w.heap.size, 0, none⟩ = some (.int .i64 n) ∧ w'.cell? ⟨w.heap.size, 1, none⟩ = some (.slice pa (wcount n) ca))
        (first | assumption)
        (first
          | (go_at_call 44; refine HC.out.mono ?_; rintro e w5 ⟨rfl, hb5⟩; have s5 := four_step s0 hb5; have H5 := Lib.hid (HX.out.drew.below hb5); clear hb5)
          | (go_at_call 76; refine (set_any H5.out.vo k r hlt).mono ?_; rintro e w6 ⟨rfl, hv6, hg6⟩; have h6 := H5.out.grown hg6 hv6; have s6 := h6.four HS.out.1 HS.out.2.1; have H6 := Lib.hid h6; clear hv6 hg6 h6))
      go_wp2_with fail
      go_roundw
      case rel => exact ⟨k + 1, by omega, by omega, by go_num, by rw [← HST.out]; exact H6.out⟩
      case measure => simp [intOf]; omega
    · obtain rfl : k = n := by omega
      have kr := hX.box HS.out.2.2
      have r0 := kr.cell (i := 0) rfl
      have r1 := kr.cell (i := 1) rfl
      have f0 := kr.frz 0
      have f1 := kr.frz 1
      have y0 := (hX.box HS.out.1).cell (i := 0) rfl
      have y1 := (hX.box HS.out.1).cell (i := 1) rfl
      dsimp only at r0 r1 f0 f1 y0 y1
      clear hX kr hlt s0
      go_wp2_with fail
      obtain ⟨e0, e1, hv, hbl⟩ := HX.out.ret HS.out.2.2 (by omega)
      exact bodyPost_ret (v := vecO k b) (by simp [results, Tryz.results121, go_sem, e0, e1, vecO]) rfl ⟨_, _, rfl, hv, HX.out.ge, hbl⟩
end Go.Proofs.YtkoggfahjlnecaaGreatDoor
namespace Go.Proofs.YtkoggfahjlnecaaGreatDoor
set_option linter.unusedVariables false
open Go.RowKit
/-- what down gives: bit j is bit j + s of A, or q -/
def downF (A n s : Nat) (q : Bool) (j : Nat) : Bool := if j < n - s then A.testBit (j + s) else q
set_option maxRecDepth 100000 in
set_option maxHeartbeats 4000000 in
theorem down_any {w : World} {va : Value} {n A : Nat} (hA : VR w va n A) (s : Nat) (hs : s ≤ n) (q : Bool) :
    Calls Tryz.prog 122 #[va, .int .i64 s, .bool q] w (Fresh w n (ofB (downF A n s q) n)) := by
  have HA := Lib.hid hA
  have hn128 := hA.le
  have hni : (n : Int) ≤ 128 := by omega
  have HN := Lib.hid (And.intro hn128 hs)
  have HBit := Lib.hid (fun w' (hb : Below w.heap.size w w') => bit_any (hA.below hb))
  obtain ⟨pa, ca, rfl, ra⟩ := hA.ex
  have HBl := Lib.hid (fun w => blank_any (w := w) n hn128)
  have hsi : (s : Int) ≤ n := by omega
  clear hA ra hn128 hs
  go_enter Tryz.func122, Tryz.ntmps122
  go_wp2_with fail
  have k0 := (Blk.new (w := w) 39 [.int .i64 n, .slice pa (wcount n) ca]).alloc (.cells #[.int .i64 0, .slice none 0 0] 39)
  have k2 := Blk.new (w := (w.alloc (.cells #[.int .i64 n, .slice pa (wcount n) ca] 39))) 39 [.int .i64 0, .slice none 0 0]
  have hb3 : Below w.heap.size w ((w.alloc (.cells #[.int .i64 n, .slice pa (wcount n) ca] 39)).alloc (.cells #[.int .i64 0, .slice none 0 0] 39)) := (Below.new _ _).alloc (by simp) _
  simp only [World.size_alloc] at k2
  generalize (w.alloc (.cells #[.int .i64 n, .slice pa (wcount n) ca] 39)).alloc (.cells #[.int .i64 0, .slice none 0 0] 39) = W at *
  have p1 := k0.cell (i := 0) rfl
  have HK := Lib.hid (And.intro k0 (And.intro k2 hb3))
  clear k0 k2 hb3
  refine (HBl.out _).mono ?_; rintro e w1 ⟨v, b, rfl, hV, hge, hb1⟩
  obtain rfl := hV.e
  have hS := Bld.start (w := w) (bs := [(w.heap.size, [.int .i64 n, .slice pa (wcount n) ca]), (w.heap.size + 1, [.int .i64 0, .slice none 0 0])]) (by
    intro p hp
    simp only [List.mem_cons, List.not_mem_nil, or_false] at hp
    rcases hp with rfl | rfl
    · exact HK.out.1
    · exact HK.out.2.1) HK.out.2.2 hb1 hV hge
  have q1 := (hS.box (p := (w.heap.size, [.int .i64 n, .slice pa (wcount n) ca])) (by simp)).cell (i := 0) rfl
  have hwz : w.heap.size < w1.heap.size := (hS.box (p := (w.heap.size, [.int .i64 n, .slice pa (wcount n) ca])) (by simp)).lt
  dsimp only at q1
  have hS2 := Lib.hid (hS.push [.int .i64 n, .slice (some ⟨b, 0, none⟩) (wcount n) (wcount n)])
  clear hV hb1 hS hge p1
  go_wp2_with fail
  generalize w1.alloc (.cells #[.int .i64 n, .slice (some ⟨b, 0, none⟩) (wcount n) (wcount n)] 39) = w2 at *
  generalize w1.heap.size = L at *
  generalize hbs : [(L, [Value.int IntKind.i64 n, Value.slice (some ⟨b, 0, none⟩) (wcount n) (wcount n)]), (w.heap.size, [Value.int IntKind.i64 n, Value.slice pa (wcount n) ca]), (w.heap.size + 1, [Value.int IntKind.i64 0, Value.slice none 0 0])] = bs at *
  have hL : (L, [Value.int IntKind.i64 n, Value.slice (some ⟨b, 0, none⟩) (wcount n) (wcount n)]) ∈ bs := by rw [← hbs]; simp
  have ha : (w.heap.size, [Value.int IntKind.i64 n, Value.slice pa (wcount n) ca]) ∈ bs := by rw [← hbs]; simp
  have hR : (w.heap.size + 1, [Value.int IntKind.i64 0, Value.slice none 0 0]) ∈ bs := by rw [← hbs]; simp
  have HS := Lib.hid (And.intro hL (And.intro ha hR))
  clear hbs hL ha hR
  go_loopw [14] (fun i wr => ∃ k : Nat, k ≤ n ∧ i = .int .i64 k ∧ Bld w bs n (ofB (downF A n s q) k) b wr) (fun i _ => n - (intOf i).toNat)
  case atStart => exact ⟨0, Nat.zero_le _, rfl, hS2.out⟩
  case round =>
    obtain ⟨k, hk, rfl, hX⟩ := hrel
    have HX := Lib.hid hX
    have s0 := hX.drew.four HS.out.1 HS.out.2.1
    have x0 := (hX.box HS.out.2.1).cell (i := 0) rfl
    dsimp only at x0
    by_cases hlt : k < n
    · have hki : (k : Int) < n := by omega
      have HST := Lib.hid (setB_ofB (downF A n s q) k)
      by_cases hin : k < n - s
      · have hini : (k : Int) < (n : Int) - s := by omega
        have hb := HBit.out wr.drew hX.drew.bel ((k : Int) + (s : Int))
        rw [show bitI A ((k : Int) + (s : Int)) = downF A n s q k by unfold bitI downF; rw [if_pos hin, decide_eq_true (by omega), show ((k : Int) + (s : Int)).toNat = k + s by omega]; rfl] at hb
        have HC := Lib.hid hb
        have hwr : IntKind.i64.wrap ((k : Int) + (s : Int)) = (k : Int) + (s : Int) := IntWalk.i64_in _ (by omega)
        generalize downF A n s q k = r at *
        clear hX hb
        go_wp2_with fail
        go_region_held3 (fun w' => w'.cell? ⟨L, 0, none⟩ = some (.int .i64 n) ∧ w'.cell? ⟨L, 1, none⟩ = some (.slice (some ⟨b, 0, none⟩) (wcount n) (wcount n)) ∧ w'.cell? ⟨w.heap.size, 0, none⟩ = some (.int .i64 n) ∧ w'.cell? ⟨w.heap.size, 1, none⟩ = some (.slice pa (wcount n) ca))
          (first | assumption)
          (first
            | (go_at_call 44; refine HC.out.mono ?_; rintro e w5 ⟨rfl, hb5⟩; have s5 := four_step s0 hb5; have H5 := Lib.hid (HX.out.drew.below hb5); clear hb5)
            | (go_at_call 76; refine (set_any H5.out.vo k r hlt).mono ?_; rintro e w6 ⟨rfl, hv6, hg6⟩; have h6 := H5.out.grown hg6 hv6; have s6 := h6.four HS.out.1 HS.out.2.1; have H6 := Lib.hid h6; clear hv6 hg6 h6))
        go_wp2_with fail
        go_roundw
        case rel => exact ⟨k + 1, by omega, by go_num, by rw [← HST.out]; exact H6.out⟩
        case measure => simp [intOf]; omega
      · have hini : (n : Int) - s ≤ k := by omega
        have hq : downF A n s q k = q := by unfold downF; rw [if_neg hin]
        rw [hq] at HST
        have HSet := Lib.hid (set_any hX.vo k q hlt)
        have y0 := (hX.box HS.out.1).cell (i := 0) rfl
        have y1 := (hX.box HS.out.1).cell (i := 1) rfl
        dsimp only at y0 y1
        clear hX hq s0 hin
        go_wp2_with fail
        refine HSet.out.mono ?_; rintro e w6 ⟨rfl, hv6, hg6⟩
        have H6 := Lib.hid (HX.out.grown hg6 hv6)
        clear hv6 hg6
        go_wp2_with fail
        go_roundw
        case rel => exact ⟨k + 1, by omega, by go_num, by rw [← HST.out]; exact H6.out⟩
        case measure => simp [intOf]; omega
    · obtain rfl : k = n := by omega
      have kr := hX.box HS.out.2.2
      have r0 := kr.cell (i := 0) rfl
      have r1 := kr.cell (i := 1) rfl
      have f0 := kr.frz 0
      have f1 := kr.frz 1
      have y0 := (hX.box HS.out.1).cell (i := 0) rfl
      have y1 := (hX.box HS.out.1).cell (i := 1) rfl
      dsimp only at r0 r1 f0 f1 y0 y1
      clear hX kr hlt s0
      go_wp2_with fail
      obtain ⟨e0, e1, hv, hbl⟩ := HX.out.ret HS.out.2.2 (by omega)
      exact bodyPost_ret (v := vecO k b) (by simp [results, Tryz.results122, go_sem, e0, e1, vecO]) rfl ⟨_, _, rfl, hv, HX.out.ge, hbl⟩
def b2n (b : Bool) : Nat := if b then 1 else 0
theorem setB_one (b : Bool) : setB 0 0 b = b2n b := by cases b <;> rfl
set_option maxRecDepth 100000 in
set_option maxHeartbeats 4000000 in
theorem truth_any {w : World} (q : Bool) : Calls Tryz.prog 79 #[.bool q] w (Fresh w 1 (b2n q)) := by
  have HBl := Lib.hid (fun w => blank_any (w := w) 1 (by omega))
  go_enter Tryz.func79, Tryz.ntmps79
  go_wp2_with fail
  have k2 := Blk.new (w := w) 39 [.int .i64 0, .slice none 0 0]
  have hb3 := Below.new w (.cells #[.int .i64 0, .slice none 0 0] 39)
  generalize w.alloc (.cells #[.int .i64 0, .slice none 0 0] 39) = W at *
  have HK := Lib.hid (And.intro k2 hb3)
  clear k2 hb3
  refine (HBl.out _).mono ?_; rintro e w1 ⟨v, b, rfl, hV, hge, hb1⟩
  obtain rfl := hV.e
  have hS := Bld.start (w := w) (bs := [(w.heap.size, [.int .i64 0, .slice none 0 0])]) (by
    intro p hp
    simp only [List.mem_cons, List.not_mem_nil, or_false] at hp
    subst hp
    exact HK.out.1) HK.out.2 hb1 hV hge
  have hS2 := hS.push [.int .i64 (1 : Nat), .slice (some ⟨b, 0, none⟩) (wcount 1) (wcount 1)]
  have HS := Lib.hid hS2
  have HSet := Lib.hid (set_any hS2.vo 0 q (by omega))
  clear hV hb1 hS hge hS2
  go_wp2_with fail
  refine HSet.out.mono ?_; rintro e w6 ⟨rfl, hv6, hg6⟩
  rw [setB_one] at hv6
  have h6 := HS.out.grown hg6 hv6
  have H6 := Lib.hid h6
  have y0 := (h6.box (p := (w1.heap.size, [.int .i64 (1 : Nat), .slice (some ⟨b, 0, none⟩) (wcount 1) (wcount 1)])) (by simp)).cell (i := 0) rfl
  have y1 := (h6.box (p := (w1.heap.size, [.int .i64 (1 : Nat), .slice (some ⟨b, 0, none⟩) (wcount 1) (wcount 1)])) (by simp)).cell (i := 1) rfl
  have kr := h6.box (p := (w.heap.size, [.int .i64 0, .slice none 0 0])) (by simp)
  have r0 := kr.cell (i := 0) rfl
  have r1 := kr.cell (i := 1) rfl
  have f0 := kr.frz 0
  have f1 := kr.frz 1
  dsimp only at y0 y1 r0 r1 f0 f1
  clear hv6 hg6 h6 kr
  go_wp2_with fail
  have HH := H6.out.ret (R := w.heap.size) (u := .int .i64 0) (v := .slice none 0 0) (by simp) (Nat.le_refl _)
  rw [show ((1 : Nat) : Int) = 1 from rfl] at HH
  obtain ⟨e0, e1, hv, hbl⟩ := HH
  exact bodyPost_ret (v := vecO 1 b) (by simp [results, Tryz.results79, go_sem, e0, e1, vecO]) rfl ⟨_, _, rfl, hv, H6.out.ge, hbl⟩
end Go.Proofs.YtkoggfahjlnecaaGreatDoor
namespace Go.Proofs.YtkoggfahjlnecaaGreatDoor
set_option linter.unusedVariables false
open Go.RowKit
/-- a vector is returned -/
def Ret (w : World) (n x : Nat) (e : Ending) (w' : World) : Prop := ∃ v, e = .returned v ∧ VR w' v n x ∧ Below w.heap.size w w'
theorem Fresh.ret {w : World} {n x : Nat} {e : Ending} {w' : World} (hx : x < 2 ^ n) (h : Fresh w n x e w') : Ret w n x e w' := by
  obtain ⟨v, b, he, hv, _, hb⟩ := h
  exact ⟨v, he, hv.vr hx, hb⟩
/-- the highest bit -/
def topB (n x : Nat) : Bool := bitI x ((n : Int) - 1)
/-- behind the store of a result that is read -/
theorem ret3 {w w3 : World} {R n x : Nat} {u v : Value} {p : Option Addr} {c : Nat} (hR : Blk w3 R 39 [u, v]) (hb : Below w.heap.size w w3) (hge : w.heap.size ≤ R) (hv : VR w3 (.agg #[.int .i64 n, .slice p (wcount n) c]) n x) (hne : ∀ b o, p = some ⟨b, o, none⟩ → b ≠ R) :
    ((w3.setCell ⟨R, 0, none⟩ (.int .i64 n)).setCell ⟨R, 1, none⟩ (.slice p (wcount n) c)).cell? ⟨R, 0, none⟩ = some (.int .i64 n) ∧
    ((w3.setCell ⟨R, 0, none⟩ (.int .i64 n)).setCell ⟨R, 1, none⟩ (.slice p (wcount n) c)).cell? ⟨R, 1, none⟩ = some (.slice p (wcount n) c) ∧
    VR ((w3.setCell ⟨R, 0, none⟩ (.int .i64 n)).setCell ⟨R, 1, none⟩ (.slice p (wcount n) c)) (.agg #[.int .i64 n, .slice p (wcount n) c]) n x ∧
    Below w.heap.size w ((w3.setCell ⟨R, 0, none⟩ (.int .i64 n)).setCell ⟨R, 1, none⟩ (.slice p (wcount n) c)) := by
  have hk := (hR.set 0 (.int .i64 n)).set 1 (.slice p (wcount n) c)
  refine ⟨hk.cell (i := 0) rfl, hk.cell (i := 1) rfl, ⟨?_, hv.lt, hv.le⟩, (hb.setCell hge _).setCell hge _⟩
  obtain ⟨⟨p', c', e, hl, p2, c2, e2, hcs⟩, _, _⟩ := hv
  simp only [Value.agg.injEq, Array.mk.injEq, List.cons.injEq, Value.slice.injEq, true_and, and_true] at e
  obtain ⟨rfl, rfl⟩ := e
  refine ⟨p, c, rfl, hl, p2, c2, e2, fun j y hj => ?_⟩
  obtain ⟨b, o, h1, h2⟩ := hcs j y hj
  simp only [Value.slice.injEq] at e2
  obtain ⟨rfl, _⟩ := e2
  exact ⟨b, o, h1, (World.cell?_setCell_far _ _ _ _ (Ne.symm (hne b o h1))).trans ((World.cell?_setCell_far _ _ _ _ (Ne.symm (hne b o h1))).trans h2)⟩
theorem big_word {x i : Nat} (hi : 0 < i) (h : word x i ≠ 0) : 2 ^ 64 ≤ x := by
  rcases Nat.lt_or_ge x (2 ^ 64) with hx | hx
  · exact absurd (by rw [word, Nat.div_eq_of_lt (Nat.lt_of_lt_of_le hx (Nat.pow_le_pow_right (by decide) (by omega)))]) h
  · exact hx
theorem small_word {x n : Nat} (hx : x < 2 ^ n) (h : ∀ i, 0 < i → i < wcount n → word x i = 0) (hn : 0 < n) : x = word x 0 ∧ word x 0 < 2 ^ 64 := by
  refine ⟨?_, word_lt _ _⟩
  have hm : 0 < wcount n := by unfold wcount; omega
  refine words_ext (m := wcount n) (Nat.lt_of_lt_of_le hx (Nat.pow_le_pow_right (by decide) (n_le_words n))) (Nat.lt_of_lt_of_le (word_lt x 0) (Nat.pow_le_pow_right (by decide) (by omega))) fun i hi => ?_
  by_cases e : i = 0
  · subst e
    have := word_lt x 0
    have e2 : word (word x 0) 0 = word x 0 := by
      rw [word]; simp only [Nat.mul_zero, Nat.pow_zero, Nat.div_one]; exact Nat.mod_eq_of_lt this
    exact e2.symm
  · rw [h i (by omega) hi]
    have := word_lt x 0
    rw [word, Nat.div_eq_of_lt (Nat.lt_of_lt_of_le this (Nat.pow_le_pow_right (by decide) (by omega)))]
set_option maxRecDepth 100000 in
set_option maxHeartbeats 2000000 in
theorem num_any {w : World} {v : Value} {n x : Nat} (h : VR w v n x) (most : Int) (hm : -9223372036854775808 ≤ most ∧ most ≤ 9223372036854775807) : Calls Tryz.prog 21 #[v, .int .i64 most] w fun e w' => e = .returned (.int .i64 (min (x : Int) (max most 0))) ∧ Below w.heap.size w w' := by
  have hlt := h.lt
  have hle := h.le
  obtain ⟨p, c, rfl, hr⟩ := h.ex
  have H := Lib.hid (And.intro (hr.below (Below.new w (.cells #[.int .i64 n, .slice p (wcount n) c] 39))) hlt)
  have hmi : (wcount n : Int) ≤ 3 := by unfold wcount; omega
  have hni : (n : Int) ≤ 128 := by omega
  have hM0 : 0 ≤ max most 0 := by omega
  have hM1 : max most 0 ≤ 9223372036854775807 := by omega
  have HBe := Lib.hid (Below.new w (.cells #[.int .i64 n, .slice p (wcount n) c] 39))
  have HM := Lib.hid (show wcount n ≤ 3 by unfold wcount; omega)
  obtain ⟨M, hMe⟩ : ∃ M, max most 0 = M := ⟨_, rfl⟩
  rw [hMe] at hM0 hM1 ⊢
  have hMc : (0 < most ∧ M = most) ∨ (most < 0 ∧ M = 0) ∨ (most = 0 ∧ M = 0) := by omega
  clear hr hlt hm h hle hMe
  rcases hMc with ⟨hmc, rfl⟩ | ⟨hmc, rfl⟩ | ⟨rfl, rfl⟩
  all_goals
    go_enter Tryz.func21, Tryz.ntmps21
    go_wp2_with fail
    have p0 := (Blk.new (w := w) 39 [.int .i64 n, .slice p (wcount n) c]).cell (i := 0) rfl
    have p1 := (Blk.new (w := w) 39 [.int .i64 n, .slice p (wcount n) c]).cell (i := 1) rfl
    generalize w.alloc (.cells #[.int .i64 n, .slice p (wcount n) c] 39) = W at *
    go_loop [12] (fun i => ∃ k : Nat, k ≤ wcount n ∧ i = .int .i64 k ∧ ∀ j, 0 < j → j < k → word x j = 0) (fun i => wcount n - (intOf i).toNat)
    case atStart => exact ⟨0, Nat.zero_le _, rfl, fun j _ hj => absurd hj (Nat.not_lt_zero _)⟩
    case round =>
      obtain ⟨k, hk, rfl, hno⟩ := hrel
      have HN := Lib.hid hno
      clear hno
      by_cases hlt : k < wcount n
      · obtain ⟨b, o, rfl⟩ := H.out.1.sl (wordsV_at hlt)
        have f0 := H.out.1.cell (wordsV_at hlt)
        have hki : (k : Int) < wcount n := by omega
        rcases Nat.eq_zero_or_pos k with rfl | hkp
        · rw [Nat.add_zero] at f0
          generalize word x 0 = y at *
          clear hlt
          go_wp2_with fail
          go_round
          case rel => exact ⟨1, by omega, by go_num, fun j h1 h2 => by omega⟩
          case measure => simp [intOf]; omega
        · have hkp' : 0 < (k : Int) := by omega
          by_cases h0 : word x k = 0
          · have h0' : (((word x k : Nat) : Int) != 0) = false := by simp [h0]
            have H0 := Lib.hid (show (fun j => word x j) k = 0 from h0)
            generalize word x k = y at *
            clear h0
            go_wp2_with fail
            go_round
            case rel => exact ⟨k + 1, by omega, by go_num, fun j h1 h2 => by
                          by_cases e : j = k
                          · subst e; exact H0.out
                          · exact HN.out j h1 (by omega)⟩
            case measure => simp [intOf]; omega
          · have h0' : (((word x k : Nat) : Int) != 0) = true := by simp [h0]
            have hbig := Lib.hid (big_word hkp h0)
            generalize word x k = y at *
            clear h0
            go_wp2_with fail
            go_ret
            have hb := hbig.out
            exact ⟨by rw [Int.min_eq_right (by omega)]; rfl, HBe.out⟩
      · obtain rfl : k = wcount n := by omega
        clear hlt
        rcases Nat.eq_zero_or_pos n with rfl | hn
        · have hx0 : x = 0 := by have := H.out.2; omega
          have HX := Lib.hid hx0
          have hn0 : (((0 : Nat) : Int) == 0) = true := rfl
          clear hx0
          go_wp2_with fail
          go_ret
          exact ⟨by rw [HX.out]; first | (simp; done) | (simp; omega), HBe.out⟩
        · have hn0 : ((n : Int) == 0) = false := by simp; omega
          have hni0 : 0 < (n : Int) := by omega
          have hm0 : 0 < wcount n := by unfold wcount; omega
          have hm0i : 0 < (wcount n : Int) := by omega
          obtain ⟨b, o, rfl⟩ := H.out.1.sl (wordsV_at hm0)
          have f0 := H.out.1.cell (wordsV_at hm0)
          rw [Nat.add_zero] at f0
          obtain ⟨hx0, hy⟩ := small_word H.out.2 HN.out hn
          have HX := Lib.hid hx0
          generalize word x 0 = y at *
          clear hx0 hy hm0 hn
          go_wp2_with fail
          all_goals
            go_ret
            refine ⟨congrArg (fun z => Ending.returned (Value.int .i64 z)) (?_ : _ = min (x : Int) _), HBe.out⟩
            rw [HX.out]
            omega
end Go.Proofs.YtkoggfahjlnecaaGreatDoor
namespace Go.Proofs.YtkoggfahjlnecaaGreatDoor
set_option linter.unusedVariables false
theorem up_one (R n : Nat) : ofB (upF R 1) n = 2 * R % 2 ^ n := by
  apply eq_bits; intro j
  rw [testBit_ofB, mod_bit, show 2 * R = R * 2 ^ 1 by omega, Nat.testBit_mul_two_pow]
  unfold upF
  congr 2
theorem set_zero (x : Nat) (b : Bool) (hx : x % 2 = 0) : setB x 0 b = x + (if b then 1 else 0) := by
  have h0 : x.testBit 0 = false := by rw [Nat.testBit_zero]; simp [hx]
  cases b
  · apply eq_bits; intro j
    rw [setB_bit]
    by_cases e : j = 0
    · subst e; simp [h0]
    · simp [e]
  · have := Nat.two_pow_add_eq_or_of_lt (i := 1) (b := 1) (by decide) (x / 2)
    rw [← setB_or]
    have e : 2 ^ 1 * (x / 2) = x := by omega
    rw [e] at this
    simpa using this.symm
theorem set_high (h i : Nat) : setB (h * 2 ^ (i + 1)) i true = h * 2 ^ (i + 1) + 2 ^ i := by
  have := Nat.two_pow_add_eq_or_of_lt (i := i + 1) (b := 2 ^ i) (Nat.pow_lt_pow_right (by decide) (Nat.lt_succ_self i)) h
  rw [← setB_or, Nat.mul_comm h]; exact this.symm
theorem top_eq {n R : Nat} (hn : 0 < n) (hR : R < 2 ^ n) : topB n R = decide (2 ^ n ≤ 2 * R) := by
  unfold topB bitI
  rw [decide_eq_true (by omega), Bool.true_and, show ((n : Int) - 1).toNat = n - 1 by omega, Nat.testBit_eq_decide_div_mod_eq]
  obtain ⟨m, rfl⟩ : ∃ m, n = m + 1 := ⟨n - 1, by omega⟩
  rw [Nat.pow_succ] at *
  simp only [Nat.add_sub_cancel]
  have hp : 0 < 2 ^ m := Nat.pow_pos (by decide)
  have h1 : R / 2 ^ m < 2 := by rw [Nat.div_lt_iff_lt_mul hp]; omega
  congr 1
  apply propext
  have h2 : (R / 2 ^ m % 2 = 1) ↔ 1 ≤ R / 2 ^ m := by generalize R / 2 ^ m = q at h1 ⊢; omega
  rw [h2, Nat.le_div_iff_mul_le hp]
  omega
/-- after the bits from k on: the rest is R, the quotient's bits Q -/
def SP (A B k Q R : Nat) : Prop := R = A / 2 ^ k % B ∧ Q = A / 2 ^ k / B * 2 ^ k
theorem sp_start {A B n : Nat} (hA : A < 2 ^ n) : SP A B n 0 0 := by
  unfold SP; rw [Nat.div_eq_of_lt hA]; simp
theorem sp_end {A B Q R : Nat} (h : SP A B 0 Q R) : Q = A / B ∧ R = A % B := by
  unfold SP at h; simp at h; exact ⟨h.2, h.1⟩
theorem sp_R2 {R n a : Nat} {b : Bool} (hn : 0 < n) : setB (ofB (upF R 1) n) 0 b = 2 * R % 2 ^ n + (if b then 1 else 0) := by
  rw [up_one]
  refine set_zero _ _ ?_
  obtain ⟨m, rfl⟩ : ∃ m, n = m + 1 := ⟨n - 1, by omega⟩
  rw [Nat.pow_succ, Nat.mul_comm (2 ^ m) 2, Nat.mul_mod_mul_left]; omega
theorem sp_step {A B n i Q R : Nat} (hn : 0 < n) (hB : 0 < B) (hBn : B < 2 ^ n) (h : SP A B (i + 1) Q R) :
    ((topB n R || !(decide (setB (ofB (upF R 1) n) 0 (A.testBit i) < B))) = true → SP A B i (setB Q i true) ((setB (ofB (upF R 1) n) 0 (A.testBit i) + notN n B + 1) % 2 ^ n)) ∧
    ((topB n R || !(decide (setB (ofB (upF R 1) n) 0 (A.testBit i) < B))) = false → SP A B i Q (setB (ofB (upF R 1) n) 0 (A.testBit i))) := by
  obtain ⟨hR, hQ⟩ := h
  have hRB : R < B := by rw [hR]; exact Nat.mod_lt _ hB
  have hdm := Nat.div_add_mod (A / 2 ^ (i + 1)) B
  rw [← hR] at hdm
  have hA : A / 2 ^ i = 2 * (A / 2 ^ (i + 1)) + (if A.testBit i then 1 else 0) := by
    have h1 : A / 2 ^ (i + 1) = A / 2 ^ i / 2 := by rw [Nat.pow_succ, Nat.div_div_eq_div_mul]
    rw [h1, Nat.testBit_eq_decide_div_mod_eq]
    generalize A / 2 ^ i = q
    simp only [decide_eq_true_eq]
    split <;> omega
  rw [sp_R2 (a := 0) hn, top_eq hn (by omega)]
  generalize hh : A / 2 ^ (i + 1) / B = hq at *
  generalize A / 2 ^ (i + 1) = H at *
  generalize hb : (if A.testBit i = true then 1 else 0) = b at *
  have hb2 : b ≤ 1 := by rw [← hb]; split <;> omega
  have hpar : ∃ m, 2 ^ n = 2 * m := by
    obtain ⟨m, rfl⟩ : ∃ m, n = m + 1 := ⟨n - 1, by omega⟩
    exact ⟨2 ^ m, by rw [Nat.pow_succ]; omega⟩
  obtain ⟨m, hm⟩ := hpar
  unfold notN SP
  have hmod : 2 * R % 2 ^ n = if 2 ^ n ≤ 2 * R then 2 * R - 2 ^ n else 2 * R := by
    split
    · rw [Nat.mod_eq_sub_mod (by omega), Nat.mod_eq_of_lt (by omega)]
    · exact Nat.mod_eq_of_lt (by omega)
  rw [hmod]
  have key : A / 2 ^ i = B * (2 * hq) + (2 * R + b) := by
    rw [hA, ← hdm]; rw [Nat.mul_left_comm B 2]; omega
  constructor
  · intro hc
    have hge : B ≤ 2 * R + b := by
      simp only [Bool.or_eq_true, decide_eq_true_eq, Bool.not_eq_true', decide_eq_false_iff_not, Nat.not_lt] at hc
      rcases hc with h | h
      · omega
      · split at h <;> omega
    have key2 : A / 2 ^ i = B * (2 * hq + 1) + (2 * R + b - B) := by rw [key, Nat.mul_add B (2 * hq) 1]; omega
    have e1 : A / 2 ^ i % B = 2 * R + b - B := by rw [key2, Nat.mul_add_mod, Nat.mod_eq_of_lt (by omega)]
    have e2 : A / 2 ^ i / B = 2 * hq + 1 := by rw [key2, Nat.mul_add_div hB, Nat.div_eq_of_lt (by omega)]
    rw [e1, e2, hQ, set_high]
    refine ⟨?_, ?_⟩
    · split
      · rw [show 2 * R - 2 ^ n + b + (2 ^ n - 1 - B) + 1 = 2 * R + b - B by omega, Nat.mod_eq_of_lt (by omega)]
      · rw [show 2 * R + b + (2 ^ n - 1 - B) + 1 = 2 * R + b - B + 2 ^ n by omega, Nat.add_mod_right, Nat.mod_eq_of_lt (by omega)]
    · rw [Nat.pow_succ, Nat.add_mul, Nat.one_mul, Nat.mul_comm (2 ^ i) 2, ← Nat.mul_assoc, Nat.mul_comm hq 2]
  · intro hc
    simp only [Bool.or_eq_false_iff, decide_eq_false_iff_not, Bool.not_eq_false', decide_eq_true_eq, Nat.not_le] at hc
    obtain ⟨hc1, hc2⟩ := hc
    rw [if_neg (by omega)] at hc2 ⊢
    have e1 : A / 2 ^ i % B = 2 * R + b := by rw [key, Nat.mul_add_mod, Nat.mod_eq_of_lt (by omega)]
    have e2 : A / 2 ^ i / B = 2 * hq := by rw [key, Nat.mul_add_div hB, Nat.div_eq_of_lt (by omega)]; omega
    rw [e1, e2, hQ]
    exact ⟨rfl, by rw [Nat.pow_succ, Nat.mul_comm (2 ^ i) 2, ← Nat.mul_assoc, Nat.mul_comm hq 2]⟩
end Go.Proofs.YtkoggfahjlnecaaGreatDoor
