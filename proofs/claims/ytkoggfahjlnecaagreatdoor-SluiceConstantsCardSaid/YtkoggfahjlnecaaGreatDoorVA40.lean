
import Derived.Test.YtkoggfahjlnecaaGreatDoorVB6
import Derived.Test.YtkoggfahjlnecaaGreatDoorVQ1
namespace Go.Proofs.YtkoggfahjlnecaaGreatDoor
set_option linter.unusedVariables false
open Go.RowKit
theorem add64_run0 (x y : Nat) (w : World) :
    (callFunc 117 #[.int .u64 x, .int .u64 y, .int .u64 0]).run Tryz.prog w =
      .ok (.value (.tuple #[.int .u64 (((x + y + 0) % 18446744073709551616 : Nat) : Int), .int .u64 (((x + y + 0) / 18446744073709551616 : Nat) : Int)])) w := add64_run x y 0 (by decide) w
set_option maxRecDepth 100000 in
set_option maxHeartbeats 8000000 in
theorem times_any {w : World} {va vb : Value} {n A B : Nat} (hA : VR w va n A) (hB : VR w vb n B) (hn : 0 < n) :
    Calls Tryz.prog 83 #[va, vb] w (Fresh w n (A * B % 2 ^ n)) := by
  have HA := Lib.hid hA
  have HB := Lib.hid hB
  have hn128 := hA.le
  have hni : (n : Int) ≤ 128 := by omega
  obtain ⟨pa, ca, rfl, ra⟩ := hA.ex
  obtain ⟨pb, cb, rfl, rb⟩ := hB.ex
  have HBl := Lib.hid (fun w => blank_any (w := w) n hn128)
  have HN := Lib.hid hn
  clear hA hB ra rb hn128 hn
  go_enter Tryz.func83, Tryz.ntmps83
  go_wp2_with fail
  have k0 := ((Blk.new (w := w) 39 [.int .i64 n, .slice pa (wcount n) ca]).alloc (.cells #[.int .i64 n, .slice pb (wcount n) cb] 39)).alloc (.cells #[.int .i64 0, .slice none 0 0] 39)
  have k1 := (Blk.new (w := w.alloc (.cells #[.int .i64 n, .slice pa (wcount n) ca] 39)) 39 [.int .i64 n, .slice pb (wcount n) cb]).alloc (.cells #[.int .i64 0, .slice none 0 0] 39)
  have k2 := Blk.new (w := (w.alloc (.cells #[.int .i64 n, .slice pa (wcount n) ca] 39)).alloc (.cells #[.int .i64 n, .slice pb (wcount n) cb] 39)) 39 [.int .i64 0, .slice none 0 0]
  have hb3 : Below w.heap.size w (((w.alloc (.cells #[.int .i64 n, .slice pa (wcount n) ca] 39)).alloc (.cells #[.int .i64 n, .slice pb (wcount n) cb] 39)).alloc (.cells #[.int .i64 0, .slice none 0 0] 39)) := ((Below.new _ _).alloc (by simp) _).alloc (by simp; omega) _
  simp only [World.size_alloc] at k1 k2
  generalize ((w.alloc (.cells #[.int .i64 n, .slice pa (wcount n) ca] 39)).alloc (.cells #[.int .i64 n, .slice pb (wcount n) cb] 39)).alloc (.cells #[.int .i64 0, .slice none 0 0] 39) = W at *
  have HK := Lib.hid (And.intro k0 (And.intro k1 (And.intro k2 hb3)))
  clear k0 k1 k2 hb3
  refine (HBl.out _).mono ?_; rintro e w1 ⟨v, b, rfl, hV, hge, hb1⟩
  obtain rfl := hV.e
  have hS := Bld.start (w := w) (bs := [(w.heap.size, [.int .i64 n, .slice pa (wcount n) ca]), (w.heap.size + 1, [.int .i64 n, .slice pb (wcount n) cb]), (w.heap.size + 1 + 1, [.int .i64 0, .slice none 0 0])]) (by
    intro p hp
    simp only [List.mem_cons, List.not_mem_nil, or_false] at hp
    rcases hp with rfl | rfl | rfl
    · exact HK.out.1
    · exact HK.out.2.1
    · exact HK.out.2.2.1) HK.out.2.2.2 hb1 hV hge
  have hS2 := hS.push [.int .i64 n, .slice (some ⟨b, 0, none⟩) (wcount n) (wcount n)]
  have m1 := (hS2.box (p := (w.heap.size, [.int .i64 n, .slice pa (wcount n) ca])) (by simp)).cell (i := 1) rfl
  dsimp only at m1
  have hS2 := Lib.hid hS2
  clear hV hb1 hS hge
  go_wp2_with fail
  generalize w1.alloc (.cells #[.int .i64 n, .slice (some ⟨b, 0, none⟩) (wcount n) (wcount n)] 39) = w2 at *
  generalize w1.heap.size = L at *
  have HM := Lib.hid (show wcount n ≤ 3 by unfold wcount; omega)
  have hmi : (wcount n : Int) ≤ 3 := by have := HM.out; omega
  generalize hbs : [(L, [Value.int IntKind.i64 n, Value.slice (some ⟨b, 0, none⟩) (wcount n) (wcount n)]), (w.heap.size, [Value.int IntKind.i64 n, Value.slice pa (wcount n) ca]), (w.heap.size + 1, [Value.int IntKind.i64 n, Value.slice pb (wcount n) cb]), (w.heap.size + 1 + 1, [Value.int IntKind.i64 0, Value.slice none 0 0])] = bs at *
  have hL : (L, [Value.int IntKind.i64 n, Value.slice (some ⟨b, 0, none⟩) (wcount n) (wcount n)]) ∈ bs := by rw [← hbs]; simp
  have ha : (w.heap.size, [Value.int IntKind.i64 n, Value.slice pa (wcount n) ca]) ∈ bs := by rw [← hbs]; simp
  have hbb : (w.heap.size + 1, [Value.int IntKind.i64 n, Value.slice pb (wcount n) cb]) ∈ bs := by rw [← hbs]; simp
  have hR : (w.heap.size + 1 + 1, [Value.int IntKind.i64 0, Value.slice none 0 0]) ∈ bs := by rw [← hbs]; simp
  have HS := Lib.hid (And.intro hL (And.intro ha (And.intro hbb hR)))
  clear hbs hL ha hbb hR
  go_loopw [18] (fun i wr => ∃ k : Nat, k ≤ wcount n ∧ i = .int .i64 k ∧ ∃ X, Bld w bs n X b wr ∧ X % 2 ^ (64 * wcount n) = A % 2 ^ (64 * k) * B % 2 ^ (64 * wcount n)) (fun i _ => wcount n - (intOf i).toNat)
  case atStart => exact ⟨0, Nat.zero_le _, rfl, 0, hS2.out, by simp [Nat.mod_one]⟩
  case round =>
    obtain ⟨i, hi, rfl, Xi, hXi, hXm⟩ := hrel
    have HXi := Lib.hid (And.intro hXi hXm)
    by_cases hlt : i < wcount n
    · have hii : (i : Int) < (wcount n : Int) := by omega
      have HI := Lib.hid hlt
      clear hXi hXm hi hlt
      go_wp2_with fail
      go_loopw [7, 8] (fun c kk wr => ∃ k cy X : Nat, i + k ≤ wcount n ∧ kk = .int .i64 k ∧ c = .int .u64 cy ∧ cy < 2 ^ 64 ∧ Bld w bs n X b wr ∧ X + 2 ^ (64 * (i + k)) * cy = Xi + word A i * (2 ^ (64 * i) * (B % 2 ^ (64 * k)))) (fun c kk _ => wcount n - (intOf kk).toNat)
      case atStart => exact ⟨0, 0, Xi, by have := HI.out; omega, rfl, rfl, by decide, HXi.out.1, by simp [Nat.mod_one]⟩
      case round =>
        obtain ⟨k, cy, X, hik, rfl, rfl, hcy, hX, hXe⟩ := hrel
        have HX := Lib.hid (And.intro hX hXe)
        have hkw : IntKind.i64.wrap ((i : Int) + (k : Int)) = (i : Int) + (k : Int) := IntWalk.i64_in _ (by omega)
        have x0 := (hX.box HS.out.1).cell (i := 1) rfl
        dsimp only at x0
        by_cases hlt : i + k < wcount n
        · have hki : (i : Int) + (k : Int) < (wcount n : Int) := by omega
          have hki2 : (k : Int) < (wcount n : Int) := by omega
          have hii2 : (i : Int) < (wcount n : Int) := by omega
          obtain ⟨ba, oa, ca', ea, fa⟩ := (HA.out.below hX.bel).word HI.out
          obtain ⟨bb, ob, cb', eb, fb⟩ := (HB.out.below hX.bel).word (i := k) (by omega)
          simp only [Value.agg.injEq, Array.mk.injEq, List.cons.injEq, Value.slice.injEq, true_and, and_true] at ea eb
          obtain ⟨rfl, rfl⟩ := ea
          obtain ⟨rfl, rfl⟩ := eb
          have x1 := (hX.box HS.out.2.1).cell (i := 1) rfl
          have x2 := (hX.box HS.out.2.2.1).cell (i := 1) rfl
          have y0 := hX.vo.blk.cell (wordsV_at hlt)
          have y1 := hX.vo.blk.frz (i + k)
          have n0 := Ne.symm (hX.bx _ HS.out.1).2
          have ht1 : (0 : Int) ≤ (i : Int) + (k : Int) := by omega
          have ht2 : ((i : Int) + (k : Int)).toNat = i + k := by omega
          dsimp only at n0 x1 x2
          have HMul := Lib.hid (fun w => mul64_any (word A i) (word B k) (word_lt _ _) (word_lt _ _) w)
          have hst := mul_step (word A i) (word B k) cy (word X (i + k)) (word_lt _ _) (word_lt _ _) hcy (word_lt _ _)
          have HInn := Lib.hid (fun W' cy' hW hs => mul_inner (X := X) (Xi := Xi) (a := word A i) (B := B) (cy := cy) (cy' := cy') (W' := W') (i := i) (k := k) hW hXe hs)
          have HWord : Hid (∀ y, y < 2 ^ 64 → Bld w bs n (setW X (i + k) y) b ((wr.setCell ⟨b, i + k, none⟩ (.int .u64 y)))) := Lib.hid fun y hy => hX.word hlt hy
          have hAlt := word_lt A i
          have hBlt := word_lt B k
          have hpm : word A i * word B k ≤ (2 ^ 64 - 1) * (2 ^ 64 - 1) := Nat.mul_le_mul (by omega) (by omega)
          have hXlt := word_lt X (i + k)
          generalize word A i = wa at *
          generalize word B k = wb at *
          generalize word X (i + k) = wx at *
          obtain ⟨hh, hhh⟩ : ∃ hh, wa * wb / 18446744073709551616 = hh := ⟨_, rfl⟩
          obtain ⟨ll, hll⟩ : ∃ ll, wa * wb % 18446744073709551616 = ll := ⟨_, rfl⟩
          rw [hhh, hll] at HMul
          have hadd1 := add64_run0 ll cy
          obtain ⟨l2, hl2⟩ : ∃ l2, (ll + cy + 0) % 18446744073709551616 = l2 := ⟨_, rfl⟩
          obtain ⟨c2, hc2⟩ : ∃ c2, (ll + cy + 0) / 18446744073709551616 = c2 := ⟨_, rfl⟩
          rw [hl2, hc2] at hadd1
          have hadd2 := add64_run0 wx l2
          obtain ⟨l3, hl3⟩ : ∃ l3, (wx + l2 + 0) % 18446744073709551616 = l3 := ⟨_, rfl⟩
          obtain ⟨c3, hc3⟩ : ∃ c3, (wx + l2 + 0) / 18446744073709551616 = c3 := ⟨_, rfl⟩
          rw [hl3, hc3] at hadd2
          have hs1 : l3 = (wa * wb + cy + wx) % 2 ^ 64 := by rw [← hl3, ← hl2, ← hll, Nat.add_zero, Nat.add_zero]; exact hst.1
          have hs2 : hh + c2 + c3 = (wa * wb + cy + wx) / 2 ^ 64 := by rw [← hc3, ← hl2, ← hc2, ← hhh, ← hll, Nat.add_zero, Nat.add_zero]; exact hst.2.1
          have hs3 : hh + c2 + c3 < 2 ^ 64 := by rw [hs2]; exact hst.2.2
          have w1 : IntKind.u64.wrap ((hh : Int) + (c2 : Int)) = ((hh + c2 : Nat) : Int) := by rw [IntKind.wrap_u64]; omega
          have w2 : IntKind.u64.wrap (((hh + c2 : Nat) : Int) + (c3 : Int)) = ((hh + c2 + c3 : Nat) : Int) := by rw [IntKind.wrap_u64]; omega
          have HFIN : Hid (l3 < 2 ^ 64 ∧ l3 + 2 ^ 64 * (hh + c2 + c3) = wa * wb + cy + wx ∧ hh + c2 + c3 < 2 ^ 64) := Lib.hid (by
            rw [hs2, hs1]
            exact ⟨Nat.mod_lt _ (by decide), Nat.mod_add_div _ _, by rw [← hs2]; exact hs3⟩)
          obtain ⟨h4, hh4⟩ : ∃ h4, hh + c2 = h4 := ⟨_, rfl⟩
          obtain ⟨h5, hh5⟩ : ∃ h5, hh + c2 + c3 = h5 := ⟨_, rfl⟩
          rw [hh4] at w1
          rw [hh5, hh4] at w2
          rw [hh5] at HFIN
          have HIK := Lib.hid hlt
          clear hX hXe hlt hik hcy hst hAlt hBlt hpm hXlt hs1 hs2 hs3 hl2 hl3 hc2 hc3 hhh hll hh4 hh5
          go_wp2_with fail
          go_region_held3 (fun w' => w'.cell? ⟨w.heap.size, 1, none⟩ = some (.slice (some ⟨ba, oa, none⟩) (wcount n) ca) ∧ w'.cell? ⟨w.heap.size + 1, 1, none⟩ = some (.slice (some ⟨bb, ob, none⟩) (wcount n) cb) ∧ w'.cell? ⟨ba, oa + i, none⟩ = some (.int .u64 wa) ∧ w'.cell? ⟨bb, ob + k, none⟩ = some (.int .u64 wb))
            (first | exact ⟨x1, x2, fa, fb⟩)
            (first
              | (go_at_call 118; refine (HMul.out _).mono ?_; rintro e w5 ⟨rfl, rfl⟩))
          go_wp2_with fail
          refine wp_region_held_drew (S := (fun w' => w'.cell? ⟨L, 1, none⟩ = some (.slice (some ⟨b, 0, none⟩) (wcount n) (wcount n)))) (by kernel_rfl) ?_ (fun hHeld => ?_)
          · (try dsimp only)
            first | assumption | exact (World.cell?_setCell_far _ _ _ _ n0).trans x0
          refine held_take (i := 0) (v := ?_) rfl (by kernel_rfl) (by kernel_rfl) (by kernel_rfl) (fun _ _ _ h => h) (Or.inl ⟨by rfl, ?_⟩) (by assumption) ?_
          rotate_left
          · intro w hSw; (try dsimp only at hSw); go_simp; (try with_reducible rfl)
          (try simp only [Act.put, List.setIfInBounds_toArray, List.set_cons_zero, List.set_cons_succ])
          refine held_take (i := 1) (v := ?_) rfl (by kernel_rfl) (by kernel_rfl) (by kernel_rfl) (fun _ _ _ h => h) (Or.inl ⟨by rfl, ?_⟩) (by assumption) ?_
          rotate_left
          · intro w hSw; (try dsimp only at hSw); go_simp; (try with_reducible rfl)
          (try simp only [Act.put, List.setIfInBounds_toArray, List.set_cons_zero, List.set_cons_succ])
          refine held_take (i := 2) (v := ?_) rfl (by kernel_rfl) (by kernel_rfl) (by kernel_rfl) (fun _ _ _ h => h) (Or.inl ⟨by rfl, ?_⟩) (by assumption) ?_
          rotate_left
          · intro w hSw; (try dsimp only at hSw); go_simp; (try with_reducible rfl)
          (try simp only [Act.put, List.setIfInBounds_toArray, List.set_cons_zero, List.set_cons_succ])
          refine held_take (i := 3) (v := ?_) rfl (by kernel_rfl) (by kernel_rfl) (by kernel_rfl) (fun _ _ _ h => h) (Or.inl ⟨by rfl, ?_⟩) (by assumption) ?_
          rotate_left
          · intro w hSw; (try dsimp only at hSw); go_simp; (try with_reducible rfl)
          (try simp only [Act.put, List.setIfInBounds_toArray, List.set_cons_zero, List.set_cons_succ])
          refine held_take (i := 4) (v := ?_) rfl (by kernel_rfl) (by kernel_rfl) (by kernel_rfl) (fun _ _ _ h => h) (Or.inl ⟨by rfl, ?_⟩) (by assumption) ?_
          rotate_left
          · intro w hSw; (try dsimp only at hSw); go_simp; (try with_reducible rfl)
          (try simp only [Act.put, List.setIfInBounds_toArray, List.set_cons_zero, List.set_cons_succ])
          refine held_take (i := 5) (v := ?_) rfl (by kernel_rfl) (by kernel_rfl) (by kernel_rfl) (fun _ _ _ h => h) (Or.inl ⟨by rfl, ?_⟩) (by assumption) ?_
          rotate_left
          · intro w hSw; (try dsimp only at hSw); go_simp; (try with_reducible rfl)
          (try simp only [Act.put, List.setIfInBounds_toArray, List.set_cons_zero, List.set_cons_succ])
          refine held_take (i := 6) (v := ?_) rfl (by kernel_rfl) (by kernel_rfl) (by kernel_rfl) (fun _ _ _ h => h) (Or.inl ⟨by rfl, ?_⟩) (by assumption) ?_
          rotate_left
          · intro w hSw; (try dsimp only at hSw); go_simp; (try with_reducible rfl)
          (try simp only [Act.put, List.setIfInBounds_toArray, List.set_cons_zero, List.set_cons_succ])
          refine held_take (i := 7) (v := ?_) rfl (by kernel_rfl) (by kernel_rfl) (by kernel_rfl) (fun _ _ _ h => h) (Or.inl ⟨by rfl, ?_⟩) (by assumption) ?_
          rotate_left
          · intro w hSw; (try dsimp only at hSw); go_simp; (try with_reducible rfl)
          (try simp only [Act.put, List.setIfInBounds_toArray, List.set_cons_zero, List.set_cons_succ])
          refine held_take (i := 8) (v := ?_) rfl (by kernel_rfl) (by kernel_rfl) (by kernel_rfl) (fun _ _ _ h => h) (Or.inl ⟨by rfl, ?_⟩) (by assumption) ?_
          rotate_left
          · intro w hSw; (try dsimp only at hSw); go_simp; (try with_reducible rfl)
          (try simp only [Act.put, List.setIfInBounds_toArray, List.set_cons_zero, List.set_cons_succ])
          refine held_take (i := 9) (v := ?_) rfl (by kernel_rfl) (by kernel_rfl) (by kernel_rfl) (fun _ _ _ h => h) (Or.inl ⟨by rfl, ?_⟩) (by assumption) ?_
          rotate_left
          · intro w hSw; (try dsimp only at hSw); go_simp; (try with_reducible rfl)
          (try simp only [Act.put, List.setIfInBounds_toArray, List.set_cons_zero, List.set_cons_succ])
          refine held_take (i := 10) (v := ?_) rfl (by kernel_rfl) (by kernel_rfl) (by kernel_rfl) (fun _ _ _ h => h) (Or.inl ⟨by rfl, ?_⟩) (by assumption) ?_
          rotate_left
          · intro w hSw; (try dsimp only at hSw); go_simp; (try with_reducible rfl)
          (try simp only [Act.put, List.setIfInBounds_toArray, List.set_cons_zero, List.set_cons_succ])
          refine held_take (i := 12) (v := ?_) rfl (by kernel_rfl) (by kernel_rfl) (by kernel_rfl) (fun _ _ _ h => h) (Or.inl ⟨by rfl, ?_⟩) (by assumption) ?_
          rotate_left
          · intro w hSw; (try dsimp only at hSw); go_simp; (try with_reducible rfl)
          (try simp only [Act.put, List.setIfInBounds_toArray, List.set_cons_zero, List.set_cons_succ])
          refine wpAnyH_ready (rs := [11]) (by kernel_rfl) (by simp) ?_
          refine held_cons rfl (fun K hK => ?_) AllReadyH.nil
          go_simp
          refine hK.out _ _ ?_ (fun hHeld2 => ?_)
          · (try dsimp only)
            first | assumption | exact (World.cell?_setCell_far _ _ _ _ n0).trans x0
          clear hK K hHeld
          have hHeld := hHeld2
          clear hHeld2
          (try simp only [Act.put, List.setIfInBounds_toArray, List.set_cons_zero, List.set_cons_succ])
          refine wpAnyH_ready (rs := [13]) (by kernel_rfl) (by simp) ?_
          refine held_cons rfl (fun K hK => ?_) AllReadyH.nil
          go_simp
          refine hK.out _ _ ?_ (fun hHeld2 => ?_)
          · (try dsimp only)
            first | assumption | exact (World.cell?_setCell_far _ _ _ _ n0).trans x0
          clear hK K hHeld
          have hHeld := hHeld2
          clear hHeld2
          (try simp only [Act.put, List.setIfInBounds_toArray, List.set_cons_zero, List.set_cons_succ])
          refine held_take (i := 14) (v := ?_) rfl (by kernel_rfl) (by kernel_rfl) (by kernel_rfl) (fun _ _ _ h => h) (Or.inl ⟨by rfl, ?_⟩) (by assumption) ?_
          rotate_left
          · intro w hSw; (try dsimp only at hSw); go_simp; (try with_reducible rfl)
          (try simp only [Act.put, List.setIfInBounds_toArray, List.set_cons_zero, List.set_cons_succ])
          refine held_take (i := 15) (v := ?_) rfl (by kernel_rfl) (by kernel_rfl) (by kernel_rfl) (fun _ _ _ h => h) (Or.inl ⟨by rfl, ?_⟩) (by assumption) ?_
          rotate_left
          · intro w hSw; (try dsimp only at hSw); go_simp; (try with_reducible rfl)
          (try simp only [Act.put, List.setIfInBounds_toArray, List.set_cons_zero, List.set_cons_succ])
          refine held_take (i := 16) (v := ?_) rfl (by kernel_rfl) (by kernel_rfl) (by kernel_rfl) (fun _ _ _ h => h) (Or.inl ⟨by rfl, ?_⟩) (by assumption) ?_
          rotate_left
          · intro w hSw; (try dsimp only at hSw); go_simp; (try with_reducible rfl)
          (try simp only [Act.put, List.setIfInBounds_toArray, List.set_cons_zero, List.set_cons_succ])
          refine held_take (i := 17) (v := ?_) rfl (by kernel_rfl) (by kernel_rfl) (by kernel_rfl) (fun _ _ _ h => h) (Or.inl ⟨by rfl, ?_⟩) (by assumption) ?_
          rotate_left
          · intro w hSw; (try dsimp only at hSw); go_simp; (try with_reducible rfl)
          (try simp only [Act.put, List.setIfInBounds_toArray, List.set_cons_zero, List.set_cons_succ])
          refine wpAnyH_ready (rs := [18]) (by kernel_rfl) (by simp) ?_
          refine held_cons rfl (fun K hK => ?_) AllReadyH.nil
          go_simp
          refine hK.out _ _ ?_ (fun hHeld2 => ?_)
          · (try dsimp only)
            first | assumption | exact (World.cell?_setCell_far _ _ _ _ n0).trans x0
          clear hK K hHeld
          have hHeld := hHeld2
          clear hHeld2
          (try simp only [Act.put, List.setIfInBounds_toArray, List.set_cons_zero, List.set_cons_succ])
          refine held_take (i := 19) (v := ?_) rfl (by kernel_rfl) (by kernel_rfl) (by kernel_rfl) (fun _ _ _ h => h) (Or.inl ⟨by rfl, ?_⟩) (by assumption) ?_
          rotate_left
          · intro w hSw; (try dsimp only at hSw); go_simp; (try with_reducible rfl)
          (try simp only [Act.put, List.setIfInBounds_toArray, List.set_cons_zero, List.set_cons_succ])
          refine wpAnyH_done (by kernel_rfl) ?_ _
          go_wp2_with fail
          go_roundw
          case rel => exact ⟨k + 1, h5, _, by have := HIK.out; omega, by go_num, by congr 1, HFIN.out.2.2, ((HWord.out _ HFIN.out.1).drew).drew, HInn.out _ _ HFIN.out.1 HFIN.out.2.1⟩
          case measure => have := HIK.out; simp [intOf]; omega
        · have hki : (wcount n : Int) ≤ (i : Int) + (k : Int) := by omega
          obtain rfl : k = wcount n - i := by omega
          clear hX hlt hXe
          go_wp2_with fail
          go_roundw
          case rel => exact ⟨i + 1, HI.out, by go_num, X, HX.out.1, mul_outer HI.out HXi.out.2 HX.out.2⟩
          case measure => have := HI.out; simp [intOf]; omega
    · obtain rfl : i = wcount n := by omega
      clear hXm hlt hi
      have x0 := (hXi.box HS.out.1).cell (i := 0) rfl
      have x1 := (hXi.box HS.out.1).cell (i := 1) rfl
      dsimp only at x0 x1
      have HCut := Lib.hid (cut_any hXi.vo HN.out)
      have HE : Hid (Xi % 2 ^ n = A * B % 2 ^ n) := Lib.hid (by
        have h1 := HXi.out.2
        have hAl : A < 2 ^ (64 * wcount n) := Nat.lt_of_lt_of_le HA.out.lt (Nat.pow_le_pow_right (by decide) (n_le_words n))
        rw [Nat.mod_eq_of_lt hAl] at h1
        rw [← Nat.mod_mod_of_dvd Xi (pow_dvd (n_le_words n)), h1, Nat.mod_mod_of_dvd _ (pow_dvd (n_le_words n))])
      clear hXi
      go_wp2_with fail
      refine HCut.out.mono ?_; rintro e w3 ⟨rfl, hv3, hg3⟩
      have hB3 := HXi.out.1.grown hg3 hv3
      have kr := hB3.box HS.out.2.2.2
      have HB3 := Lib.hid hB3
      have r0 := kr.cell (i := 0) rfl
      have r1 := kr.cell (i := 1) rfl
      have f0 := kr.frz 0
      have f1 := kr.frz 1
      dsimp only [vecO] at r0 r1 f0 f1 ⊢
      clear hv3 hg3 hB3 kr x0 x1
      go_wp2_with fail
      obtain ⟨e0, e1, hv, hbl⟩ := HB3.out.ret HS.out.2.2.2 (by omega)
      rw [HE.out] at hv
      exact bodyPost_ret (v := vecO n b) (by simp [results, Tryz.results83, go_sem, e0, e1, vecO]) rfl ⟨_, _, rfl, hv, HB3.out.ge, hbl⟩
end Go.Proofs.YtkoggfahjlnecaaGreatDoor
