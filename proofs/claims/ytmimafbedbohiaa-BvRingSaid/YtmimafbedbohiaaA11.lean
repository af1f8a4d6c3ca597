import Derived.Test.YtmimafbedbohiaaA10
namespace Go.Proofs.Ytmimafbedbohiaa
set_option linter.unusedVariables false
open Go.RowKit

set_option maxRecDepth 100000 in
set_option maxHeartbeats 4000000 in
theorem bitwise_any {w : World} {va vb : Value} {n A B : Nat} (hA : VR w va n A) (hB : VR w vb n B) (g : Nat) (f : Nat → Nat → Nat)
    (hg : ∀ (x y : Nat), x < 2 ^ 64 → y < 2 ^ 64 → ∀ w, Calls Try.prog g #[.int .u64 x, .int .u64 y] w fun e w' => e = .returned (.int .u64 ((f x y : Nat) : Int)) ∧ w = w')
    (hen : ∀ args w, (callFunc g args).run Try.prog w = .ok (.enter g args) w)
    (hf : ∀ i, word (f A B) i = f (word A i) (word B i)) (hfl : f A B < 2 ^ n) :
    Calls Try.prog 51 #[va, vb, .func (Fn.func g) #[] #[]] w (Fresh w n (f A B)) := by
  have HA := Lib.hid hA
  have HB := Lib.hid hB
  have hn128 := hA.le
  have hni : (n : Int) ≤ 128 := by omega
  obtain ⟨pa, ca, rfl, ra⟩ := hA.ex
  obtain ⟨pb, cb, rfl, rb⟩ := hB.ex
  have HF := Lib.hid (And.intro hf hfl)
  have HBl := Lib.hid (fun w => blank_any (w := w) n hn128)
  have HG : Hid (∀ (x y : Nat), x < 2 ^ 64 → y < 2 ^ 64 → ∀ w, Calls Try.prog g #[.int .u64 x, .int .u64 y] w fun e w' => e = .returned (.int .u64 ((f x y : Nat) : Int)) ∧ w' = w) := Lib.hid fun x y hx hy w => (hg x y hx hy w).mono fun _ _ ⟨h, k⟩ => ⟨h, k.symm⟩
  clear hA hB ra rb hn128 hg hf hfl
  go_enter Try.func51, Try.ntmps51
  go_wp2_with fail
  have k0 := ((Blk.new (w := w) 26 [.int .i64 n, .slice pa (wcount n) ca]).alloc (.cells #[.int .i64 n, .slice pb (wcount n) cb] 26)).alloc (.cells #[.int .i64 0, .slice none 0 0] 26)
  have k1 := (Blk.new (w := w.alloc (.cells #[.int .i64 n, .slice pa (wcount n) ca] 26)) 26 [.int .i64 n, .slice pb (wcount n) cb]).alloc (.cells #[.int .i64 0, .slice none 0 0] 26)
  have k2 := Blk.new (w := (w.alloc (.cells #[.int .i64 n, .slice pa (wcount n) ca] 26)).alloc (.cells #[.int .i64 n, .slice pb (wcount n) cb] 26)) 26 [.int .i64 0, .slice none 0 0]
  have hb3 : Below w.heap.size w (((w.alloc (.cells #[.int .i64 n, .slice pa (wcount n) ca] 26)).alloc (.cells #[.int .i64 n, .slice pb (wcount n) cb] 26)).alloc (.cells #[.int .i64 0, .slice none 0 0] 26)) := ((Below.new _ _).alloc (by simp) _).alloc (by simp; omega) _
  simp only [World.size_alloc] at k1 k2
  generalize ((w.alloc (.cells #[.int .i64 n, .slice pa (wcount n) ca] 26)).alloc (.cells #[.int .i64 n, .slice pb (wcount n) cb] 26)).alloc (.cells #[.int .i64 0, .slice none 0 0] 26) = W at *
  have HK := Lib.hid (And.intro k0 (And.intro k1 (And.intro k2 hb3)))
  clear k0 k1 k2 hb3
  refine (HBl.out _).mono ?_; rintro e w1 ⟨v, b, rfl, hV, hge, hb1⟩
  obtain rfl := hV.e
  have hS := Bld.start (w := w) (bs := [(w.heap.size, [.int .i64 n, .slice pa (wcount n) ca]), (w.heap.size + 1, [.int .i64 n, .slice pb (wcount n) cb]), (w.heap.size + 1 + 1, [.int .i64 0, .slice none 0 0])]) (by
    intro p hp
    simp only [List.mem_cons, List.not_mem_nil, or_false] at hp
    rcases hp with rfl | rfl | rfl
    · exact HK.out.1
    · exact HK.out.2.1
    · exact HK.out.2.2.1) HK.out.2.2.2 hb1 hV hge
  have hS2 := Lib.hid (hS.push [.int .i64 n, .slice (some ⟨b, 0, none⟩) (wcount n) (wcount n)])
  clear hV hb1 hS hge
  go_wp2_with fail
  generalize w1.alloc (.cells #[.int .i64 n, .slice (some ⟨b, 0, none⟩) (wcount n) (wcount n)] 26) = w2 at *
  generalize w1.heap.size = L at *
  have HM := Lib.hid (show wcount n ≤ 3 by unfold wcount; omega)
  have hmi : (wcount n : Int) ≤ 3 := by have := HM.out; omega
  generalize hbs : [(L, [Value.int IntKind.i64 n, Value.slice (some ⟨b, 0, none⟩) (wcount n) (wcount n)]), (w.heap.size, [Value.int IntKind.i64 n, Value.slice pa (wcount n) ca]), (w.heap.size + 1, [Value.int IntKind.i64 n, Value.slice pb (wcount n) cb]), (w.heap.size + 1 + 1, [Value.int IntKind.i64 0, Value.slice none 0 0])] = bs at *
  have HS := Lib.hid hbs
  clear hbs
  go_loopw [15] (fun i wr => ∃ k : Nat, k ≤ wcount n ∧ i = .int .i64 k ∧ PlusRel w bs n b (f A B) k wr) (fun i _ => wcount n - (intOf i).toNat)
  case atStart => exact ⟨0, Nat.zero_le _, rfl, 0, hS2.out, fun i _ => by rw [if_neg (Nat.not_lt_zero _), word_zero]⟩
  case round =>
    obtain ⟨k, hk, rfl, hP⟩ := hrel
    have HP := Lib.hid hP
    obtain ⟨X, hX, hXw⟩ := hP
    by_cases hlt : k < wcount n
    · have hki : (k : Int) < (wcount n : Int) := by omega
      obtain ⟨ba, oa, ca', ea, fa⟩ := (HA.out.below hX.bel).word hlt
      obtain ⟨bb, ob, cb', eb, fb⟩ := (HB.out.below hX.bel).word hlt
      simp only [Value.agg.injEq, Array.mk.injEq, List.cons.injEq, Value.slice.injEq, true_and, and_true] at ea eb
      obtain ⟨rfl, rfl⟩ := ea
      obtain ⟨rfl, rfl⟩ := eb
      have x0 := (hX.drew.box (p := (L, [.int .i64 n, .slice (some ⟨b, 0, none⟩) (wcount n) (wcount n)])) (by rw [← HS.out]; simp)).cell (i := 1) rfl
      have x1 := (hX.drew.box (p := (w.heap.size, [.int .i64 n, .slice (some ⟨ba, oa, none⟩) (wcount n) ca])) (by rw [← HS.out]; simp)).cell (i := 1) rfl
      have x2 := (hX.drew.box (p := (w.heap.size + 1, [.int .i64 n, .slice (some ⟨bb, ob, none⟩) (wcount n) cb])) (by rw [← HS.out]; simp)).cell (i := 1) rfl
      have y0 := hX.vo.drew.blk.cell (wordsV_at hlt)
      have y1 := hX.vo.drew.blk.frz k
      have n0 := Ne.symm (hX.bx (L, [.int .i64 n, .slice (some ⟨b, 0, none⟩) (wcount n) (wcount n)]) (by rw [← HS.out]; simp)).2
      have n1 := Ne.symm (hX.bx (w.heap.size, [.int .i64 n, .slice (some ⟨ba, oa, none⟩) (wcount n) ca]) (by rw [← HS.out]; simp)).2
      have n2 := Ne.symm (hX.bx (w.heap.size + 1, [.int .i64 n, .slice (some ⟨bb, ob, none⟩) (wcount n) cb]) (by rw [← HS.out]; simp)).2
      have na : b ≠ ba := by
        obtain ⟨b', o', c', e', f'⟩ := HA.out.word hlt
        simp only [Value.agg.injEq, Array.mk.injEq, List.cons.injEq, Value.slice.injEq, true_and, and_true, Option.some.injEq, Addr.mk.injEq] at e'
        have := World.block_lt_of_cell? _ _ f'
        have := hX.ge
        dsimp only at *
        omega
      have nb : b ≠ bb := by
        obtain ⟨b', o', c', e', f'⟩ := HB.out.word hlt
        simp only [Value.agg.injEq, Array.mk.injEq, List.cons.injEq, Value.slice.injEq, true_and, and_true, Option.some.injEq, Addr.mk.injEq] at e'
        have := World.block_lt_of_cell? _ _ f'
        have := hX.ge
        dsimp only at *
        omega
      dsimp only at n0 n1 n2
      have HCl := Lib.hid (HG.out (word A k) (word B k) (word_lt _ _) (word_lt _ _))
      have HST := Lib.hid (HF.out.1 k)
      have HLT := Lib.hid hlt
      generalize word A k = wa at *
      generalize word B k = wb at *
      generalize word X k = wx at *
      obtain ⟨fy, hfy⟩ : ∃ y, f wa wb = y := ⟨_, rfl⟩
      rw [hfy] at HST HCl
      clear hfy
      dsimp only at x0 x1 x2
      clear hXw hX hlt hk
      go_wp2_with fail
      go_region_held3 (fun w' => w'.cell? ⟨L, 1, none⟩ = some (.slice (some ⟨b, 0, none⟩) (wcount n) (wcount n)) ∧ w'.cell? ⟨w.heap.size, 1, none⟩ = some (.slice (some ⟨ba, oa, none⟩) (wcount n) ca) ∧ w'.cell? ⟨w.heap.size + 1, 1, none⟩ = some (.slice (some ⟨bb, ob, none⟩) (wcount n) cb) ∧ w'.cell? ⟨ba, oa + k, none⟩ = some (.int .u64 wa) ∧ w'.cell? ⟨bb, ob + k, none⟩ = some (.int .u64 wb))
        (first | exact ⟨x0, x1, x2, fa, fb⟩ | exact ⟨(World.cell?_setCell_far _ _ _ _ n0).trans x0, (World.cell?_setCell_far _ _ _ _ n1).trans x1, (World.cell?_setCell_far _ _ _ _ n2).trans x2, (World.cell?_setCell_far _ _ _ _ na).trans fa, (World.cell?_setCell_far _ _ _ _ nb).trans fb⟩)
        ((refine (HCl.out _).mono ?_; rintro e w' ⟨rfl, rfl⟩))
      go_wp2_with fail
      go_roundw
      case rel =>
        exact ⟨k + 1, HLT.out, by go_num, HP.out.step HLT.out HST.out.symm rfl⟩
      case measure => simp [intOf]; omega
    · obtain rfl : k = wcount n := by omega
      clear hX hXw hlt hk
      obtain ⟨X, hX, hXS⟩ := HP.out
      have hB3 := hX.congr (y := f A B) (Nat.lt_of_lt_of_le HF.out.2 (Nat.pow_le_pow_right (by decide) (n_le_words n))) fun i hi => by rw [hXS i hi, if_pos hi]
      have x0 := (hB3.box (p := (L, [.int .i64 n, .slice (some ⟨b, 0, none⟩) (wcount n) (wcount n)])) (by rw [← HS.out]; simp)).cell (i := 0) rfl
      have x1 := (hB3.box (p := (L, [.int .i64 n, .slice (some ⟨b, 0, none⟩) (wcount n) (wcount n)])) (by rw [← HS.out]; simp)).cell (i := 1) rfl
      dsimp only at x0 x1
      have kr := hB3.box (p := (w.heap.size + 1 + 1, [.int .i64 0, .slice none 0 0])) (by rw [← HS.out]; simp)
      have HB3 := Lib.hid hB3
      have r0 := kr.cell (i := 0) rfl
      have r1 := kr.cell (i := 1) rfl
      have f0 := kr.frz 0
      have f1 := kr.frz 1
      dsimp only at r0 r1 f0 f1
      clear hX hXS hB3 kr
      go_wp2_with fail
      obtain ⟨e0, e1, hv, hbl⟩ := HB3.out.ret (R := w.heap.size + 1 + 1) (u := .int .i64 0) (v := .slice none 0 0) (by rw [← HS.out]; simp) (by omega)
      exact bodyPost_ret (v := vecO n b) (by simp [results, Try.results51, go_sem, e0, e1, vecO]) rfl ⟨_, _, rfl, hv, HB3.out.ge, hbl⟩
end Go.Proofs.Ytmimafbedbohiaa
