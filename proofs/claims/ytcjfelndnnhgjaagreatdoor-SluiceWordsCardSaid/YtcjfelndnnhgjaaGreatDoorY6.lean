/- Texts of this claim, one behind another: VA40, VB9, VB11. They state lemmas; each names its own conditions. -/
import Derived.Test.YtcjfelndnnhgjaaGreatDoorY4
import Derived.Test.YtcjfelndnnhgjaaGreatDoorY1
import Derived.Test.YtcjfelndnnhgjaaGreatDoorY5
import Derived.Test.YtcjfelndnnhgjaaGreatDoorY3
namespace Go.Proofs.YtcjfelndnnhgjaaGreatDoor.L
set_option linter.unusedVariables false
open Go.RowKit
theorem add64_run0 (x y : Nat) (w : World) :
    (callFunc 120 #[.int .u64 x, .int .u64 y, .int .u64 0]).run Tryz.prog w =
      .ok (.value (.tuple #[.int .u64 (((x + y + 0) % 18446744073709551616 : Nat) : Int), .int .u64 (((x + y + 0) / 18446744073709551616 : Nat) : Int)])) w := add64_run x y 0 (by decide) w
set_option maxRecDepth 100000 in
set_option maxHeartbeats 8000000 in
theorem times_any {w : World} {va vb : Value} {n A B : Nat} (hA : VR w va n A) (hB : VR w vb n B) (hn : 0 < n) :
    Calls Tryz.prog 108 #[va, vb] w (Fresh w n (A * B % 2 ^ n)) := by
  have HA := Lib.hid hA
  have HB := Lib.hid hB
  have hn128 := hA.le
  have hni : (n : Int) ≤ 128 := by omega
  obtain ⟨pa, ca, rfl, ra⟩ := hA.ex
  obtain ⟨pb, cb, rfl, rb⟩ := hB.ex
  have HBl := Lib.hid (fun w => blank_any (w := w) n hn128)
  have HN := Lib.hid hn
  clear hA hB ra rb hn128 hn
  go_enter Tryz.func108, Tryz.ntmps108
  go_wp2_with fail
  have k0 := ((Blk.new (w := w) 115 [.int .i64 n, .slice pa (wcount n) ca]).alloc (.cells #[.int .i64 n, .slice pb (wcount n) cb] 115)).alloc (.cells #[.int .i64 0, .slice none 0 0] 115)
  have k1 := (Blk.new (w := w.alloc (.cells #[.int .i64 n, .slice pa (wcount n) ca] 115)) 115 [.int .i64 n, .slice pb (wcount n) cb]).alloc (.cells #[.int .i64 0, .slice none 0 0] 115)
  have k2 := Blk.new (w := (w.alloc (.cells #[.int .i64 n, .slice pa (wcount n) ca] 115)).alloc (.cells #[.int .i64 n, .slice pb (wcount n) cb] 115)) 115 [.int .i64 0, .slice none 0 0]
  have hb3 : Below w.heap.size w (((w.alloc (.cells #[.int .i64 n, .slice pa (wcount n) ca] 115)).alloc (.cells #[.int .i64 n, .slice pb (wcount n) cb] 115)).alloc (.cells #[.int .i64 0, .slice none 0 0] 115)) := ((Below.new _ _).alloc (by simp) _).alloc (by simp; omega) _
  simp only [World.size_alloc] at k1 k2
  generalize ((w.alloc (.cells #[.int .i64 n, .slice pa (wcount n) ca] 115)).alloc (.cells #[.int .i64 n, .slice pb (wcount n) cb] 115)).alloc (.cells #[.int .i64 0, .slice none 0 0] 115) = W at *
  have HK := Lib.hid (And.intro k0 (And.intro k1 (And.intro k2 hb3)))
  clear k0 k1 k2 hb3
  refine (HBl.out _).mono ?_; rintro e w1 ⟨v, b, rfl, hV, hge, hb1⟩
  obtain rfl := hV.e
  have hS := Bld.start (w := w) (bs := [(w.heap.size, [.int .i64 n, .slice pa (wcount n) ca]), (w.heap.size + 1, [.int .i64 n, .slice pb (wcount n) cb]), (w.heap.size + 1 + 1, [.int .i64 0, .slice none 0 0])]) (by
    intro p hp
    simp only [List.mem_cons, List.not_mem_nil, or_false] at hp
    rcases hp with rfl | rfl | rfl
    · exact HK.out.1
    · exact HK.out.2.1
    · exact HK.out.2.2.1) HK.out.2.2.2 hb1 hV hge
  have hS2 := hS.push [.int .i64 n, .slice (some ⟨b, 0, none⟩) (wcount n) (wcount n)]
  have m1 := (hS2.box (p := (w.heap.size, [.int .i64 n, .slice pa (wcount n) ca])) (by simp)).cell (i := 1) rfl
  dsimp only at m1
  have hS2 := Lib.hid hS2
  clear hV hb1 hS hge
  go_wp2_with fail
  generalize w1.alloc (.cells #[.int .i64 n, .slice (some ⟨b, 0, none⟩) (wcount n) (wcount n)] 115) = w2 at *
  generalize w1.heap.size = L at *
  have HM := Lib.hid (show wcount n ≤ 3 by unfold wcount; omega)
  have hmi : (wcount n : Int) ≤ 3 := by have := HM.out; omega
  generalize hbs : [(L, [Value.int IntKind.i64 n, Value.slice (some ⟨b, 0, none⟩) (wcount n) (wcount n)]), (w.heap.size, [Value.int IntKind.i64 n, Value.slice pa (wcount n) ca]), (w.heap.size + 1, [Value.int IntKind.i64 n, Value.slice pb (wcount n) cb]), (w.heap.size + 1 + 1, [Value.int IntKind.i64 0, Value.slice none 0 0])] = bs at *
  have hL : (L, [Value.int IntKind.i64 n, Value.slice (some ⟨b, 0, none⟩) (wcount n) (wcount n)]) ∈ bs := by rw [← hbs]; simp
  have ha : (w.heap.size, [Value.int IntKind.i64 n, Value.slice pa (wcount n) ca]) ∈ bs := by rw [← hbs]; simp
  have hbb : (w.heap.size + 1, [Value.int IntKind.i64 n, Value.slice pb (wcount n) cb]) ∈ bs := by rw [← hbs]; simp
  have hR : (w.heap.size + 1 + 1, [Value.int IntKind.i64 0, Value.slice none 0 0]) ∈ bs := by rw [← hbs]; simp
  have HS := Lib.hid (And.intro hL (And.intro ha (And.intro hbb hR)))
  clear hbs hL ha hbb hR
  go_loopw [18] (fun i wr => ∃ k : Nat, k ≤ wcount n ∧ i = .int .i64 k ∧ ∃ X, Bld w bs n X b wr ∧ X % 2 ^ (64 * wcount n) = A % 2 ^ (64 * k) * B % 2 ^ (64 * wcount n)) (fun i _ => wcount n - (intOf i).toNat)
  case atStart => exact ⟨0, Nat.zero_le _, rfl, 0, hS2.out, by simp [Nat.mod_one]⟩
  case round =>
    obtain ⟨i, hi, rfl, Xi, hXi, hXm⟩ := hrel
    have HXi := Lib.hid (And.intro hXi hXm)
    by_cases hlt : i < wcount n
    · have hii : (i : Int) < (wcount n : Int) := by omega
      have HI := Lib.hid hlt
      clear hXi hXm hi hlt
      go_wp2_with fail
      go_loopw [7, 8] (fun c kk wr => ∃ k cy X : Nat, i + k ≤ wcount n ∧ kk = .int .i64 k ∧ c = .int .u64 cy ∧ cy < 2 ^ 64 ∧ Bld w bs n X b wr ∧ X + 2 ^ (64 * (i + k)) * cy = Xi + word A i * (2 ^ (64 * i) * (B % 2 ^ (64 * k)))) (fun c kk _ => wcount n - (intOf kk).toNat)
      case atStart => exact ⟨0, 0, Xi, by have := HI.out; omega, rfl, rfl, by decide, HXi.out.1, by simp [Nat.mod_one]⟩
      case round =>
        obtain ⟨k, cy, X, hik, rfl, rfl, hcy, hX, hXe⟩ := hrel
        have HX := Lib.hid (And.intro hX hXe)
        have hkw : IntKind.i64.wrap ((i : Int) + (k : Int)) = (i : Int) + (k : Int) := IntWalk.i64_in _ (by omega)
        have x0 := (hX.box HS.out.1).cell (i := 1) rfl
        dsimp only at x0
        by_cases hlt : i + k < wcount n
        · have hki : (i : Int) + (k : Int) < (wcount n : Int) := by omega
          have hki2 : (k : Int) < (wcount n : Int) := by omega
          have hii2 : (i : Int) < (wcount n : Int) := by omega
          obtain ⟨ba, oa, ca', ea, fa⟩ := (HA.out.below hX.bel).word HI.out
          obtain ⟨bb, ob, cb', eb, fb⟩ := (HB.out.below hX.bel).word (i := k) (by omega)
          simp only [Value.agg.injEq, Array.mk.injEq, List.cons.injEq, Value.slice.injEq, true_and, and_true] at ea eb
          obtain ⟨rfl, rfl⟩ := ea
          obtain ⟨rfl, rfl⟩ := eb
          have x1 := (hX.box HS.out.2.1).cell (i := 1) rfl
          have x2 := (hX.box HS.out.2.2.1).cell (i := 1) rfl
          have y0 := hX.vo.blk.cell (wordsV_at hlt)
          have y1 := hX.vo.blk.frz (i + k)
          have n0 := Ne.symm (hX.bx _ HS.out.1).2
          have ht1 : (0 : Int) ≤ (i : Int) + (k : Int) := by omega
          have ht2 : ((i : Int) + (k : Int)).toNat = i + k := by omega
          dsimp only at n0 x1 x2
          have HMul := Lib.hid (fun w => mul64_any (word A i) (word B k) (word_lt _ _) (word_lt _ _) w)
          have hst := mul_step (word A i) (word B k) cy (word X (i + k)) (word_lt _ _) (word_lt _ _) hcy (word_lt _ _)
          have HInn := Lib.hid (fun W' cy' hW hs => mul_inner (X := X) (Xi := Xi) (a := word A i) (B := B) (cy := cy) (cy' := cy') (W' := W') (i := i) (k := k) hW hXe hs)
          have HWord : Hid (∀ y, y < 2 ^ 64 → Bld w bs n (setW X (i + k) y) b ((wr.setCell ⟨b, i + k, none⟩ (.int .u64 y)))) := Lib.hid fun y hy => hX.word hlt hy
          have hAlt := word_lt A i
          have hBlt := word_lt B k
          have hpm : word A i * word B k ≤ (2 ^ 64 - 1) * (2 ^ 64 - 1) := Nat.mul_le_mul (by omega) (by omega)
          have hXlt := word_lt X (i + k)
          generalize word A i = wa at *
          generalize word B k = wb at *
          generalize word X (i + k) = wx at *
          obtain ⟨hh, hhh⟩ : ∃ hh, wa * wb / 18446744073709551616 = hh := ⟨_, rfl⟩
          obtain ⟨ll, hll⟩ : ∃ ll, wa * wb % 18446744073709551616 = ll := ⟨_, rfl⟩
          rw [hhh, hll] at HMul
          have hadd1 := add64_run0 ll cy
          obtain ⟨l2, hl2⟩ : ∃ l2, (ll + cy + 0) % 18446744073709551616 = l2 := ⟨_, rfl⟩
          obtain ⟨c2, hc2⟩ : ∃ c2, (ll + cy + 0) / 18446744073709551616 = c2 := ⟨_, rfl⟩
          rw [hl2, hc2] at hadd1
          have hadd2 := add64_run0 wx l2
          obtain ⟨l3, hl3⟩ : ∃ l3, (wx + l2 + 0) % 18446744073709551616 = l3 := ⟨_, rfl⟩
          obtain ⟨c3, hc3⟩ : ∃ c3, (wx + l2 + 0) / 18446744073709551616 = c3 := ⟨_, rfl⟩
          rw [hl3, hc3] at hadd2
          have hs1 : l3 = (wa * wb + cy + wx) % 2 ^ 64 := by rw [← hl3, ← hl2, ← hll, Nat.add_zero, Nat.add_zero]; exact hst.1
          have hs2 : hh + c2 + c3 = (wa * wb + cy + wx) / 2 ^ 64 := by rw [← hc3, ← hl2, ← hc2, ← hhh, ← hll, Nat.add_zero, Nat.add_zero]; exact hst.2.1
          have hs3 : hh + c2 + c3 < 2 ^ 64 := by rw [hs2]; exact hst.2.2
          have w1 : IntKind.u64.wrap ((hh : Int) + (c2 : Int)) = ((hh + c2 : Nat) : Int) := by rw [IntKind.wrap_u64]; omega
          have w2 : IntKind.u64.wrap (((hh + c2 : Nat) : Int) + (c3 : Int)) = ((hh + c2 + c3 : Nat) : Int) := by rw [IntKind.wrap_u64]; omega
          have HFIN : Hid (l3 < 2 ^ 64 ∧ l3 + 2 ^ 64 * (hh + c2 + c3) = wa * wb + cy + wx ∧ hh + c2 + c3 < 2 ^ 64) := Lib.hid (by
            rw [hs2, hs1]
            exact ⟨Nat.mod_lt _ (by decide), Nat.mod_add_div _ _, by rw [← hs2]; exact hs3⟩)
          obtain ⟨h4, hh4⟩ : ∃ h4, hh + c2 = h4 := ⟨_, rfl⟩
          obtain ⟨h5, hh5⟩ : ∃ h5, hh + c2 + c3 = h5 := ⟨_, rfl⟩
          rw [hh4] at w1
          rw [hh5, hh4] at w2
          rw [hh5] at HFIN
          have HIK := Lib.hid hlt
          clear hX hXe hlt hik hcy hst hAlt hBlt hpm hXlt hs1 hs2 hs3 hl2 hl3 hc2 hc3 hhh hll hh4 hh5
          go_wp2_with fail
          go_region_held3 (fun w' => w'.cell? ⟨w.heap.size, 1, none⟩ = some (.slice (some ⟨ba, oa, none⟩) (wcount n) ca) ∧ w'.cell? ⟨w.heap.size + 1, 1, none⟩ = some (.slice (some ⟨bb, ob, none⟩) (wcount n) cb) ∧ w'.cell? ⟨ba, oa + i, none⟩ = some (.int .u64 wa) ∧ w'.cell? ⟨bb, ob + k, none⟩ = some (.int .u64 wb))
            (first | exact ⟨x1, x2, fa, fb⟩)
            (first
              | (go_at_call 121; refine (HMul.out _).mono ?_; rintro e w5 ⟨rfl, rfl⟩))
          go_wp2_with fail
          refine wp_region_held_drew (S := (fun w' => w'.cell? ⟨L, 1, none⟩ = some (.slice (some ⟨b, 0, none⟩) (wcount n) (wcount n)))) (by kernel_rfl) ?_ (fun hHeld => ?_)
          · (try dsimp only)
            first | assumption | exact (World.cell?_setCell_far _ _ _ _ n0).trans x0
          refine held_take (i := 0) (v := ?_) rfl (by kernel_rfl) (by kernel_rfl) (by kernel_rfl) (fun _ _ _ h => h) (Or.inl ⟨by rfl, ?_⟩) (by assumption) ?_
          rotate_left
          · intro w hSw; (try dsimp only at hSw); go_simp; (try with_reducible rfl)
          (try simp only [Act.put, List.setIfInBounds_toArray, List.set_cons_zero, List.set_cons_succ])
          refine held_take (i := 1) (v := ?_) rfl (by kernel_rfl) (by kernel_rfl) (by kernel_rfl) (fun _ _ _ h => h) (Or.inl ⟨by rfl, ?_⟩) (by assumption) ?_
          rotate_left
          · intro w hSw; (try dsimp only at hSw); go_simp; (try with_reducible rfl)
          (try simp only [Act.put, List.setIfInBounds_toArray, List.set_cons_zero, List.set_cons_succ])
          refine held_take (i := 2) (v := ?_) rfl (by kernel_rfl) (by kernel_rfl) (by kernel_rfl) (fun _ _ _ h => h) (Or.inl ⟨by rfl, ?_⟩) (by assumption) ?_
          rotate_left
          · intro w hSw; (try dsimp only at hSw); go_simp; (try with_reducible rfl)
          (try simp only [Act.put, List.setIfInBounds_toArray, List.set_cons_zero, List.set_cons_succ])
          refine held_take (i := 3) (v := ?_) rfl (by kernel_rfl) (by kernel_rfl) (by kernel_rfl) (fun _ _ _ h => h) (Or.inl ⟨by rfl, ?_⟩) (by assumption) ?_
          rotate_left
          · intro w hSw; (try dsimp only at hSw); go_simp; (try with_reducible rfl)
          (try simp only [Act.put, List.setIfInBounds_toArray, List.set_cons_zero, List.set_cons_succ])
          refine held_take (i := 4) (v := ?_) rfl (by kernel_rfl) (by kernel_rfl) (by kernel_rfl) (fun _ _ _ h => h) (Or.inl ⟨by rfl, ?_⟩) (by assumption) ?_
          rotate_left
          · intro w hSw; (try dsimp only at hSw); go_simp; (try with_reducible rfl)
          (try simp only [Act.put, List.setIfInBounds_toArray, List.set_cons_zero, List.set_cons_succ])
          refine held_take (i := 5) (v := ?_) rfl (by kernel_rfl) (by kernel_rfl) (by kernel_rfl) (fun _ _ _ h => h) (Or.inl ⟨by rfl, ?_⟩) (by assumption) ?_
          rotate_left
          · intro w hSw; (try dsimp only at hSw); go_simp; (try with_reducible rfl)
          (try simp only [Act.put, List.setIfInBounds_toArray, List.set_cons_zero, List.set_cons_succ])
          refine held_take (i := 6) (v := ?_) rfl (by kernel_rfl) (by kernel_rfl) (by kernel_rfl) (fun _ _ _ h => h) (Or.inl ⟨by rfl, ?_⟩) (by assumption) ?_
          rotate_left
          · intro w hSw; (try dsimp only at hSw); go_simp; (try with_reducible rfl)
          (try simp only [Act.put, List.setIfInBounds_toArray, List.set_cons_zero, List.set_cons_succ])
          refine held_take (i := 7) (v := ?_) rfl (by kernel_rfl) (by kernel_rfl) (by kernel_rfl) (fun _ _ _ h => h) (Or.inl ⟨by rfl, ?_⟩) (by assumption) ?_
          rotate_left
          · intro w hSw; (try dsimp only at hSw); go_simp; (try with_reducible rfl)
          (try simp only [Act.put, List.setIfInBounds_toArray, List.set_cons_zero, List.set_cons_succ])
          refine held_take (i := 8) (v := ?_) rfl (by kernel_rfl) (by kernel_rfl) (by kernel_rfl) (fun _ _ _ h => h) (Or.inl ⟨by rfl, ?_⟩) (by assumption) ?_
          rotate_left
          · intro w hSw; (try dsimp only at hSw); go_simp; (try with_reducible rfl)
          (try simp only [Act.put, List.setIfInBounds_toArray, List.set_cons_zero, List.set_cons_succ])
          refine held_take (i := 9) (v := ?_) rfl (by kernel_rfl) (by kernel_rfl) (by kernel_rfl) (fun _ _ _ h => h) (Or.inl ⟨by rfl, ?_⟩) (by assumption) ?_
          rotate_left
          · intro w hSw; (try dsimp only at hSw); go_simp; (try with_reducible rfl)
          (try simp only [Act.put, List.setIfInBounds_toArray, List.set_cons_zero, List.set_cons_succ])
          refine held_take (i := 10) (v := ?_) rfl (by kernel_rfl) (by kernel_rfl) (by kernel_rfl) (fun _ _ _ h => h) (Or.inl ⟨by rfl, ?_⟩) (by assumption) ?_
          rotate_left
          · intro w hSw; (try dsimp only at hSw); go_simp; (try with_reducible rfl)
          (try simp only [Act.put, List.setIfInBounds_toArray, List.set_cons_zero, List.set_cons_succ])
          refine held_take (i := 12) (v := ?_) rfl (by kernel_rfl) (by kernel_rfl) (by kernel_rfl) (fun _ _ _ h => h) (Or.inl ⟨by rfl, ?_⟩) (by assumption) ?_
          rotate_left
          · intro w hSw; (try dsimp only at hSw); go_simp; (try with_reducible rfl)
          (try simp only [Act.put, List.setIfInBounds_toArray, List.set_cons_zero, List.set_cons_succ])
          refine wpAnyH_ready (rs := [11]) (by kernel_rfl) (by simp) ?_
          refine held_cons rfl (fun K hK => ?_) AllReadyH.nil
          go_simp
          refine hK.out _ _ ?_ (fun hHeld2 => ?_)
          · (try dsimp only)
            first | assumption | exact (World.cell?_setCell_far _ _ _ _ n0).trans x0
          clear hK K hHeld
          have hHeld := hHeld2
          clear hHeld2
          (try simp only [Act.put, List.setIfInBounds_toArray, List.set_cons_zero, List.set_cons_succ])
          refine wpAnyH_ready (rs := [13]) (by kernel_rfl) (by simp) ?_
          refine held_cons rfl (fun K hK => ?_) AllReadyH.nil
          go_simp
          refine hK.out _ _ ?_ (fun hHeld2 => ?_)
          · (try dsimp only)
            first | assumption | exact (World.cell?_setCell_far _ _ _ _ n0).trans x0
          clear hK K hHeld
          have hHeld := hHeld2
          clear hHeld2
          (try simp only [Act.put, List.setIfInBounds_toArray, List.set_cons_zero, List.set_cons_succ])
          refine held_take (i := 14) (v := ?_) rfl (by kernel_rfl) (by kernel_rfl) (by kernel_rfl) (fun _ _ _ h => h) (Or.inl ⟨by rfl, ?_⟩) (by assumption) ?_
          rotate_left
          · intro w hSw; (try dsimp only at hSw); go_simp; (try with_reducible rfl)
          (try simp only [Act.put, List.setIfInBounds_toArray, List.set_cons_zero, List.set_cons_succ])
          refine held_take (i := 15) (v := ?_) rfl (by kernel_rfl) (by kernel_rfl) (by kernel_rfl) (fun _ _ _ h => h) (Or.inl ⟨by rfl, ?_⟩) (by assumption) ?_
          rotate_left
          · intro w hSw; (try dsimp only at hSw); go_simp; (try with_reducible rfl)
          (try simp only [Act.put, List.setIfInBounds_toArray, List.set_cons_zero, List.set_cons_succ])
          refine held_take (i := 16) (v := ?_) rfl (by kernel_rfl) (by kernel_rfl) (by kernel_rfl) (fun _ _ _ h => h) (Or.inl ⟨by rfl, ?_⟩) (by assumption) ?_
          rotate_left
          · intro w hSw; (try dsimp only at hSw); go_simp; (try with_reducible rfl)
          (try simp only [Act.put, List.setIfInBounds_toArray, List.set_cons_zero, List.set_cons_succ])
          refine held_take (i := 17) (v := ?_) rfl (by kernel_rfl) (by kernel_rfl) (by kernel_rfl) (fun _ _ _ h => h) (Or.inl ⟨by rfl, ?_⟩) (by assumption) ?_
          rotate_left
          · intro w hSw; (try dsimp only at hSw); go_simp; (try with_reducible rfl)
          (try simp only [Act.put, List.setIfInBounds_toArray, List.set_cons_zero, List.set_cons_succ])
          refine wpAnyH_ready (rs := [18]) (by kernel_rfl) (by simp) ?_
          refine held_cons rfl (fun K hK => ?_) AllReadyH.nil
          go_simp
          refine hK.out _ _ ?_ (fun hHeld2 => ?_)
          · (try dsimp only)
            first | assumption | exact (World.cell?_setCell_far _ _ _ _ n0).trans x0
          clear hK K hHeld
          have hHeld := hHeld2
          clear hHeld2
          (try simp only [Act.put, List.setIfInBounds_toArray, List.set_cons_zero, List.set_cons_succ])
          refine held_take (i := 19) (v := ?_) rfl (by kernel_rfl) (by kernel_rfl) (by kernel_rfl) (fun _ _ _ h => h) (Or.inl ⟨by rfl, ?_⟩) (by assumption) ?_
          rotate_left
          · intro w hSw; (try dsimp only at hSw); go_simp; (try with_reducible rfl)
          (try simp only [Act.put, List.setIfInBounds_toArray, List.set_cons_zero, List.set_cons_succ])
          refine wpAnyH_done (by kernel_rfl) ?_ _
          go_wp2_with fail
          go_roundw
          case rel => exact ⟨k + 1, h5, _, by have := HIK.out; omega, by go_num, by congr 1, HFIN.out.2.2, ((HWord.out _ HFIN.out.1).drew).drew, HInn.out _ _ HFIN.out.1 HFIN.out.2.1⟩
          case measure => have := HIK.out; simp [intOf]; omega
        · have hki : (wcount n : Int) ≤ (i : Int) + (k : Int) := by omega
          obtain rfl : k = wcount n - i := by omega
          clear hX hlt hXe
          go_wp2_with fail
          go_roundw
          case rel => exact ⟨i + 1, HI.out, by go_num, X, HX.out.1, mul_outer HI.out HXi.out.2 HX.out.2⟩
          case measure => have := HI.out; simp [intOf]; omega
    · obtain rfl : i = wcount n := by omega
      clear hXm hlt hi
      have x0 := (hXi.box HS.out.1).cell (i := 0) rfl
      have x1 := (hXi.box HS.out.1).cell (i := 1) rfl
      dsimp only at x0 x1
      have HCut := Lib.hid (cut_any hXi.vo HN.out)
      have HE : Hid (Xi % 2 ^ n = A * B % 2 ^ n) := Lib.hid (by
        have h1 := HXi.out.2
        have hAl : A < 2 ^ (64 * wcount n) := Nat.lt_of_lt_of_le HA.out.lt (Nat.pow_le_pow_right (by decide) (n_le_words n))
        rw [Nat.mod_eq_of_lt hAl] at h1
        rw [← Nat.mod_mod_of_dvd Xi (pow_dvd (n_le_words n)), h1, Nat.mod_mod_of_dvd _ (pow_dvd (n_le_words n))])
      clear hXi
      go_wp2_with fail
      refine HCut.out.mono ?_; rintro e w3 ⟨rfl, hv3, hg3⟩
      have hB3 := HXi.out.1.grown hg3 hv3
      have kr := hB3.box HS.out.2.2.2
      have HB3 := Lib.hid hB3
      have r0 := kr.cell (i := 0) rfl
      have r1 := kr.cell (i := 1) rfl
      have f0 := kr.frz 0
      have f1 := kr.frz 1
      dsimp only [vecO] at r0 r1 f0 f1 ⊢
      clear hv3 hg3 hB3 kr x0 x1
      go_wp2_with fail
      obtain ⟨e0, e1, hv, hbl⟩ := HB3.out.ret HS.out.2.2.2 (by omega)
      rw [HE.out] at hv
      exact bodyPost_ret (v := vecO n b) (by simp [results, Tryz.results108, go_sem, e0, e1, vecO]) rfl ⟨_, _, rfl, hv, HB3.out.ge, hbl⟩
end Go.Proofs.YtcjfelndnnhgjaaGreatDoor.L
namespace Go.Proofs.YtcjfelndnnhgjaaGreatDoor.L
set_option linter.unusedVariables false
open Go.RowKit
theorem run_enter {f : FuncId} {fn : Func} {c : Code} (hf : Tryz.prog.funcs[f]? = some fn) (hname : (fn.name == "runtime.NumGoroutine") = false) (hb : fn.body = some c) (args : Array Value) (w : World) :
    (callFunc f args).run Tryz.prog w = .ok (.enter f args) w := by
  have h1 : fn.name ≠ "runtime.NumGoroutine" := by simpa using hname
  simp [callFunc, hf, h1, hb]
theorem Tr.far {w W : World} {ls} (h : Tr w ls W) (j : Nat) {b t : Nat} {l : List Value} (hj : ls[j]? = some (b, t, l)) : w.heap.size ≤ b := h.ge _ (List.mem_of_getElem? hj)
theorem b2n_lt (q : Bool) : b2n q < 2 ^ 1 := by cases q <;> decide
set_option maxRecDepth 100000 in
set_option maxHeartbeats 4000000 in
theorem bin_0 {w : World} {va vb : Value} {n A B : Nat} (hA : VR w va n A) (hB : VR w vb n B) (hn : 0 < n) :
    Calls Tryz.prog 98 #[.int .i64 0, va, vb] w (RetE w n ((A + B + 0) % 2 ^ n) 0) := by
  have HA := Lib.hid hA
  have HB := Lib.hid hB
  have hni : (n : Int) ≤ 128 := by have := hA.le; omega
  have hn0 : ((n : Int) == 0) = false := by simp; omega
  obtain ⟨pa, ca, rfl, _⟩ := hA.ex
  obtain ⟨pb, cb, rfl, _⟩ := hB.ex
  have HC : Hid (∀ w', Below w.heap.size w w' → Calls Tryz.prog 106 #[.agg #[.int .i64 n, .slice pa (wcount n) ca], .agg #[.int .i64 n, .slice pb (wcount n) cb], .int .u64 0] w' (Fresh w' n ((A + B + 0) % 2 ^ n))) := Lib.hid (fun w' hb => plus_any (hA.below hb) (hB.below hb) hn 0 (by decide))
  have HN := Lib.hid hn
  clear hA hB hn
  go_enter Tryz.func98, Tryz.ntmps98
  go_wp2_with fail
  have hT := (((Tr.nil w).lay 115 [.int .i64 n, .slice pa (wcount n) ca]).lay 115 [.int .i64 n, .slice pb (wcount n) cb]).lay 115 [.int .i64 0, .slice none 0 0]
  simp only [World.size_alloc] at hT
  generalize ((w.alloc (.cells [Value.int .i64 n, .slice pa (wcount n) ca].toArray 115)).alloc (.cells [Value.int .i64 n, .slice pb (wcount n) cb].toArray 115)).alloc (.cells [Value.int .i64 0, .slice none 0 0].toArray 115) = W at *
  have HT := Lib.hid hT
  clear hT
  refine (HC.out _ HT.out.bel).mono ?_; rintro e w2 ⟨v2, b2, rfl, hv2, hge2, hb2⟩
  obtain rfl := hv2.e
  have HT2 := Lib.hid (HT.out.cons hb2 hv2.blk hge2)
  have HL := Lib.hid hv2.lt
  have r0 := (HT2.out.pr 1 rfl).1
  have r1 := (HT2.out.pr 1 rfl).2
  have f0 := (HT2.out.at 1 rfl).frz 0
  have f1 := (HT2.out.at 1 rfl).frz 1
  clear hv2 hge2 hb2
  go_wp2_with fail
  have HT3 := Lib.hid (HT2.out.two 1 (x := .int .i64 n) (y := .slice (some ⟨b2, 0, none⟩) (wcount n) (wcount n)) rfl)
  have e0 := (HT3.out.pr 1 rfl).1
  have e1 := (HT3.out.pr 1 rfl).2
  exact bodyPost_ret (v := .tuple #[vecO n b2, .int .i64 0]) (by simp [results, Tryz.results98, go_sem, e0, e1, vecO]) rfl ⟨_, rfl, (HT3.out.vo 0 rfl HL.out HA.out.le).vr (Nat.mod_lt _ (Nat.pow_pos (by decide))), HT3.out.bel, Far.vec (HT3.out.far 0 rfl)⟩
set_option maxRecDepth 100000 in
set_option maxHeartbeats 4000000 in
theorem bin_1 {w : World} {va vb : Value} {n A B : Nat} (hA : VR w va n A) (hB : VR w vb n B) (hn : 0 < n) :
    Calls Tryz.prog 98 #[.int .i64 1, va, vb] w (RetE w n ((A + notN n B + 1) % 2 ^ n) 0) := by
  have HA := Lib.hid hA
  have HB := Lib.hid hB
  have hni : (n : Int) ≤ 128 := by have := hA.le; omega
  have hn0 : ((n : Int) == 0) = false := by simp; omega
  obtain ⟨pa, ca, rfl, _⟩ := hA.ex
  obtain ⟨pb, cb, rfl, _⟩ := hB.ex
  have HNt : Hid (∀ w', Below w.heap.size w w' → Calls Tryz.prog 107 #[.agg #[.int .i64 n, .slice pb (wcount n) cb]] w' (Fresh w' n (notN n B))) := Lib.hid fun w' hb => not_any (hB.below hb) hn
  have HN := Lib.hid hn
  clear hA hB hn
  go_enter Tryz.func98, Tryz.ntmps98
  go_wp2_with fail
  have hT := (((Tr.nil w).lay 115 [.int .i64 n, .slice pa (wcount n) ca]).lay 115 [.int .i64 n, .slice pb (wcount n) cb]).lay 115 [.int .i64 0, .slice none 0 0]
  simp only [World.size_alloc] at hT
  generalize ((w.alloc (.cells [Value.int .i64 n, .slice pa (wcount n) ca].toArray 115)).alloc (.cells [Value.int .i64 n, .slice pb (wcount n) cb].toArray 115)).alloc (.cells [Value.int .i64 0, .slice none 0 0].toArray 115) = W at *
  have HT := Lib.hid hT
  clear hT
  have HT0 := Lib.hid HT.out.drew
  refine wp_region_held_drew (S := fun w' => (w'.cell? ⟨w.heap.size, 0, none⟩ = some (.int .i64 n) ∧ w'.cell? ⟨w.heap.size, 1, none⟩ = some (.slice pa (wcount n) ca)) ∧ w'.cell? ⟨w.heap.size + 1, 0, none⟩ = some (.int .i64 n) ∧ w'.cell? ⟨w.heap.size + 1, 1, none⟩ = some (.slice pb (wcount n) cb)) (by kernel_rfl) ⟨HT0.out.pr 2 rfl, HT0.out.pr 1 rfl⟩ (fun hHeld => ?_)
  generalize W.drew = D at *
  refine held_take (i := 0) (v := ?_) rfl (by kernel_rfl) (by kernel_rfl) (by kernel_rfl) (fun _ _ _ h => h) (Or.inl ⟨by rfl, ?_⟩) (by assumption) ?_
  rotate_left
  · intro w hSw; (try dsimp only at hSw); go_simp; (try with_reducible rfl)
  (try simp only [Act.put, List.setIfInBounds_toArray, List.set_cons_zero, List.set_cons_succ])
  refine held_take (i := 1) (v := ?_) rfl (by kernel_rfl) (by kernel_rfl) (by kernel_rfl) (fun _ _ _ h => h) (Or.inl ⟨by rfl, ?_⟩) (by assumption) ?_
  rotate_left
  · intro w hSw; (try dsimp only at hSw); go_simp; (try with_reducible rfl)
  (try simp only [Act.put, List.setIfInBounds_toArray, List.set_cons_zero, List.set_cons_succ])
  refine wpAnyH_ready (rs := [2]) (by kernel_rfl) (by simp) ?_
  refine held_cons rfl (fun K hK => ?_) AllReadyH.nil
  go_simp
  refine (HNt.out _ HT0.out.bel).mono ?_; rintro e wt1 ⟨v1, b1, rfl, hv1, hge1, hb1⟩
  have VN := Lib.hid (hv1.vr (notN_lt _ _))
  have HT1 := Lib.hid (HT0.out.below hb1)
  clear hv1 hge1 hb1
  (try go_simp)
  refine hK.out _ _ ?_ (fun hHeld2 => ?_)
  · exact ⟨HT1.out.pr 2 rfl, HT1.out.pr 1 rfl⟩
  clear hK K hHeld
  have hHeld := hHeld2
  clear hHeld2
  (try simp only [Act.put, List.setIfInBounds_toArray, List.set_cons_zero, List.set_cons_succ])
  refine wpAnyH_ready (rs := [3]) (by kernel_rfl) (by simp) ?_
  refine held_cons rfl (fun K hK => ?_) AllReadyH.nil
  go_simp
  refine (plus_any (HA.out.below HT1.out.bel) VN.out HN.out 1 (Nat.le_refl _)).mono ?_; rintro e wt2 ⟨v2, b2, rfl, hv2, hge2, hb2⟩
  obtain rfl := hv2.e
  have HT2 := Lib.hid (HT1.out.cons hb2 hv2.blk hge2)
  have HL := Lib.hid hv2.lt
  clear hv2 hge2 hb2
  (try go_simp)
  refine hK.out _ _ ?_ (fun hHeld2 => ?_)
  · exact ⟨HT2.out.pr 3 rfl, HT2.out.pr 2 rfl⟩
  clear hK K hHeld
  have hHeld := hHeld2
  clear hHeld2
  (try simp only [Act.put, List.setIfInBounds_toArray, List.set_cons_zero, List.set_cons_succ])
  refine wpAnyH_ready (rs := [4]) (by kernel_rfl) (by simp) ?_
  refine held_cons rfl (fun K hK => ?_) AllReadyH.nil
  have r0 := (HT2.out.pr 1 rfl).1
  have r1 := (HT2.out.pr 1 rfl).2
  have f0 := (HT2.out.at 1 rfl).frz 0
  have f1 := (HT2.out.at 1 rfl).frz 1
  go_simp
  refine hK.out _ _ ?_ (fun hHeld2 => ?_)
  · exact ⟨(HT2.out.two 1 (x := .int .i64 n) (y := .slice (some ⟨b2, 0, none⟩) (wcount n) (wcount n)) rfl).pr 3 rfl, (HT2.out.two 1 (x := .int .i64 n) (y := .slice (some ⟨b2, 0, none⟩) (wcount n) (wcount n)) rfl).pr 2 rfl⟩
  clear hK K hHeld
  have hHeld := hHeld2
  clear hHeld2
  (try simp only [Act.put, List.setIfInBounds_toArray, List.set_cons_zero, List.set_cons_succ])
  have HT3 := Lib.hid (HT2.out.two 1 (x := .int .i64 n) (y := .slice (some ⟨b2, 0, none⟩) (wcount n) (wcount n)) rfl)
  clear r0 r1 f0 f1
  generalize (wt2.setCell ⟨w.heap.size + 1 + 1, 0, none⟩ (.int .i64 n)).setCell ⟨w.heap.size + 1 + 1, 1, none⟩ (.slice (some ⟨b2, 0, none⟩) (wcount n) (wcount n)) = wt3 at *
  refine held_take (i := 5) (v := ?_) rfl (by kernel_rfl) (by kernel_rfl) (by kernel_rfl) (fun _ _ _ h => h) (Or.inl ⟨by rfl, ?_⟩) (by assumption) ?_
  rotate_left
  · intro w hSw; (try dsimp only at hSw); go_simp; (try with_reducible rfl)
  (try simp only [Act.put, List.setIfInBounds_toArray, List.set_cons_zero, List.set_cons_succ])
  refine wpAnyH_done (by kernel_rfl) ?_ _
  go_wp2_with fail
  have e0 := (HT3.out.pr 1 rfl).1
  have e1 := (HT3.out.pr 1 rfl).2
  exact bodyPost_ret (v := .tuple #[vecO n b2, .int .i64 0]) (by simp [results, Tryz.results98, go_sem, e0, e1, vecO]) rfl ⟨_, rfl, (HT3.out.vo 0 rfl HL.out HA.out.le).vr (Nat.mod_lt _ (Nat.pow_pos (by decide))), HT3.out.bel, Far.vec (HT3.out.far 0 rfl)⟩
set_option maxRecDepth 100000 in
set_option maxHeartbeats 4000000 in
theorem bin_13 {w : World} {va vb : Value} {n A B : Nat} (hA : VR w va n A) (hB : VR w vb n B) (hn : 0 < n) :
    Calls Tryz.prog 98 #[.int .i64 13, va, vb] w (RetE w 1 (b2n (cmpB 13 n A B)) 0) := by
  have HA := Lib.hid hA
  have hni : (n : Int) ≤ 128 := by have := hA.le; omega
  have hn0 : ((n : Int) == 0) = false := by simp; omega
  obtain ⟨pa, ca, rfl, _⟩ := hA.ex
  obtain ⟨pb, cb, rfl, _⟩ := hB.ex
  have HC : Hid (∀ w', Below w.heap.size w w' → Calls Tryz.prog 116 #[.int .i64 13, .agg #[.int .i64 n, .slice pa (wcount n) ca], .agg #[.int .i64 n, .slice pb (wcount n) cb]] w' fun e w'' => e = .returned (.bool (cmpB 13 n A B)) ∧ Below w'.heap.size w' w'') := Lib.hid fun w' hb => compare_any (hA.below hb) (hB.below hb) 13 (by decide) (by decide)
  have HTr := Lib.hid (fun w q => truth_any (w := w) q)
  clear hA hB hn
  go_enter Tryz.func98, Tryz.ntmps98
  go_wp2_with fail
  have hT := (((Tr.nil w).lay 115 [.int .i64 n, .slice pa (wcount n) ca]).lay 115 [.int .i64 n, .slice pb (wcount n) cb]).lay 115 [.int .i64 0, .slice none 0 0]
  simp only [World.size_alloc] at hT
  generalize ((w.alloc (.cells [Value.int .i64 n, .slice pa (wcount n) ca].toArray 115)).alloc (.cells [Value.int .i64 n, .slice pb (wcount n) cb].toArray 115)).alloc (.cells [Value.int .i64 0, .slice none 0 0].toArray 115) = W at *
  have HT := Lib.hid hT
  clear hT
  refine (HC.out _ HT.out.bel).mono ?_; rintro e w1 ⟨rfl, hb1⟩
  have HT1 := Lib.hid (HT.out.below hb1)
  clear hb1
  go_wp2_with fail
  refine (HTr.out _ _).mono ?_; rintro e w2 ⟨v2, b2, rfl, hv2, hge2, hb2⟩
  obtain rfl := hv2.e
  have HT2 := Lib.hid (HT1.out.cons hb2 hv2.blk hge2)
  have HL := Lib.hid hv2.lt
  have r0 := (HT2.out.pr 1 rfl).1
  have r1 := (HT2.out.pr 1 rfl).2
  have f0 := (HT2.out.at 1 rfl).frz 0
  have f1 := (HT2.out.at 1 rfl).frz 1
  clear hv2 hge2 hb2
  go_wp2_with fail
  have HT3 := Lib.hid (HT2.out.two 1 (x := .int .i64 1) (y := .slice (some ⟨b2, 0, none⟩) (wcount 1) (wcount 1)) rfl)
  have e0 := (HT3.out.pr 1 rfl).1
  have e1 := (HT3.out.pr 1 rfl).2
  exact bodyPost_ret (v := .tuple #[vecO 1 b2, .int .i64 0]) (by simp [results, Tryz.results98, go_sem, e0, e1, vecO]) rfl ⟨_, rfl, (HT3.out.vo 0 rfl HL.out (by decide)).vr (b2n_lt _), HT3.out.bel, Far.vec (HT3.out.far 0 rfl)⟩
end Go.Proofs.YtcjfelndnnhgjaaGreatDoor.L
namespace Go.Proofs.YtcjfelndnnhgjaaGreatDoor.L
set_option linter.unusedVariables false
open Go.RowKit
set_option maxRecDepth 100000 in
set_option maxHeartbeats 4000000 in
theorem bin_2 {w : World} {va vb : Value} {n A B : Nat} (hA : VR w va n A) (hB : VR w vb n B) (hn : 0 < n) :
    Calls Tryz.prog 98 #[.int .i64 2, va, vb] w (RetE w n (A * B % 2 ^ n) 0) := by
  have HA := Lib.hid hA
  have HB := Lib.hid hB
  have hni : (n : Int) ≤ 128 := by have := hA.le; omega
  have hn0 : ((n : Int) == 0) = false := by simp; omega
  obtain ⟨pa, ca, rfl, _⟩ := hA.ex
  obtain ⟨pb, cb, rfl, _⟩ := hB.ex
  have HC : Hid (∀ w', Below w.heap.size w w' → Calls Tryz.prog 108 #[.agg #[.int .i64 n, .slice pa (wcount n) ca], .agg #[.int .i64 n, .slice pb (wcount n) cb]] w' (Fresh w' n (A * B % 2 ^ n))) := Lib.hid (fun w' hb => times_any (hA.below hb) (hB.below hb) hn)
  have HN := Lib.hid hn
  clear hA hB hn
  go_enter Tryz.func98, Tryz.ntmps98
  go_wp2_with fail
  have hT := (((Tr.nil w).lay 115 [.int .i64 n, .slice pa (wcount n) ca]).lay 115 [.int .i64 n, .slice pb (wcount n) cb]).lay 115 [.int .i64 0, .slice none 0 0]
  simp only [World.size_alloc] at hT
  generalize ((w.alloc (.cells [Value.int .i64 n, .slice pa (wcount n) ca].toArray 115)).alloc (.cells [Value.int .i64 n, .slice pb (wcount n) cb].toArray 115)).alloc (.cells [Value.int .i64 0, .slice none 0 0].toArray 115) = W at *
  have HT := Lib.hid hT
  clear hT
  refine (HC.out _ HT.out.bel).mono ?_; rintro e w2 ⟨v2, b2, rfl, hv2, hge2, hb2⟩
  obtain rfl := hv2.e
  have HT2 := Lib.hid (HT.out.cons hb2 hv2.blk hge2)
  have HL := Lib.hid hv2.lt
  have r0 := (HT2.out.pr 1 rfl).1
  have r1 := (HT2.out.pr 1 rfl).2
  have f0 := (HT2.out.at 1 rfl).frz 0
  have f1 := (HT2.out.at 1 rfl).frz 1
  clear hv2 hge2 hb2
  go_wp2_with fail
  have HT3 := Lib.hid (HT2.out.two 1 (x := .int .i64 n) (y := .slice (some ⟨b2, 0, none⟩) (wcount n) (wcount n)) rfl)
  have e0 := (HT3.out.pr 1 rfl).1
  have e1 := (HT3.out.pr 1 rfl).2
  exact bodyPost_ret (v := .tuple #[vecO n b2, .int .i64 0]) (by simp [results, Tryz.results98, go_sem, e0, e1, vecO]) rfl ⟨_, rfl, (HT3.out.vo 0 rfl HL.out HA.out.le).vr (Nat.mod_lt _ (Nat.pow_pos (by decide))), HT3.out.bel, Far.vec (HT3.out.far 0 rfl)⟩
set_option maxRecDepth 100000 in
set_option maxHeartbeats 4000000 in
theorem bin_10 {w : World} {va vb : Value} {n A B : Nat} (hA : VR w va n A) (hB : VR w vb n B) (hn : 0 < n) :
    Calls Tryz.prog 98 #[.int .i64 10, va, vb] w (RetE w n (shiftN 10 n A B) 0) := by
  have HA := Lib.hid hA
  have HB := Lib.hid hB
  have hni : (n : Int) ≤ 128 := by have := hA.le; omega
  have hn0 : ((n : Int) == 0) = false := by simp; omega
  obtain ⟨pa, ca, rfl, _⟩ := hA.ex
  obtain ⟨pb, cb, rfl, _⟩ := hB.ex
  have HC : Hid (∀ w', Below w.heap.size w w' → Calls Tryz.prog 114 #[.int .i64 10, .agg #[.int .i64 n, .slice pa (wcount n) ca], .agg #[.int .i64 n, .slice pb (wcount n) cb]] w' (Fresh w' n (shiftN 10 n A B))) := Lib.hid (fun w' hb => shift_any (hA.below hb) (hB.below hb) 10 (by decide))
  have HN := Lib.hid hn
  clear hA hB hn
  go_enter Tryz.func98, Tryz.ntmps98
  go_wp2_with fail
  have hT := (((Tr.nil w).lay 115 [.int .i64 n, .slice pa (wcount n) ca]).lay 115 [.int .i64 n, .slice pb (wcount n) cb]).lay 115 [.int .i64 0, .slice none 0 0]
  simp only [World.size_alloc] at hT
  generalize ((w.alloc (.cells [Value.int .i64 n, .slice pa (wcount n) ca].toArray 115)).alloc (.cells [Value.int .i64 n, .slice pb (wcount n) cb].toArray 115)).alloc (.cells [Value.int .i64 0, .slice none 0 0].toArray 115) = W at *
  have HT := Lib.hid hT
  clear hT
  refine (HC.out _ HT.out.bel).mono ?_; rintro e w2 ⟨v2, b2, rfl, hv2, hge2, hb2⟩
  obtain rfl := hv2.e
  have HT2 := Lib.hid (HT.out.cons hb2 hv2.blk hge2)
  have HL := Lib.hid hv2.lt
  have r0 := (HT2.out.pr 1 rfl).1
  have r1 := (HT2.out.pr 1 rfl).2
  have f0 := (HT2.out.at 1 rfl).frz 0
  have f1 := (HT2.out.at 1 rfl).frz 1
  clear hv2 hge2 hb2
  go_wp2_with fail
  have HT3 := Lib.hid (HT2.out.two 1 (x := .int .i64 n) (y := .slice (some ⟨b2, 0, none⟩) (wcount n) (wcount n)) rfl)
  have e0 := (HT3.out.pr 1 rfl).1
  have e1 := (HT3.out.pr 1 rfl).2
  exact bodyPost_ret (v := .tuple #[vecO n b2, .int .i64 0]) (by simp [results, Tryz.results98, go_sem, e0, e1, vecO]) rfl ⟨_, rfl, (HT3.out.vo 0 rfl HL.out HA.out.le).vr (shiftN_lt _ _ _ _), HT3.out.bel, Far.vec (HT3.out.far 0 rfl)⟩
set_option maxRecDepth 100000 in
set_option maxHeartbeats 4000000 in
theorem bin_11 {w : World} {va vb : Value} {n A B : Nat} (hA : VR w va n A) (hB : VR w vb n B) (hn : 0 < n) :
    Calls Tryz.prog 98 #[.int .i64 11, va, vb] w (RetE w n (shiftN 11 n A B) 0) := by
  have HA := Lib.hid hA
  have HB := Lib.hid hB
  have hni : (n : Int) ≤ 128 := by have := hA.le; omega
  have hn0 : ((n : Int) == 0) = false := by simp; omega
  obtain ⟨pa, ca, rfl, _⟩ := hA.ex
  obtain ⟨pb, cb, rfl, _⟩ := hB.ex
  have HC : Hid (∀ w', Below w.heap.size w w' → Calls Tryz.prog 114 #[.int .i64 11, .agg #[.int .i64 n, .slice pa (wcount n) ca], .agg #[.int .i64 n, .slice pb (wcount n) cb]] w' (Fresh w' n (shiftN 11 n A B))) := Lib.hid (fun w' hb => shift_any (hA.below hb) (hB.below hb) 11 (by decide))
  have HN := Lib.hid hn
  clear hA hB hn
  go_enter Tryz.func98, Tryz.ntmps98
  go_wp2_with fail
  have hT := (((Tr.nil w).lay 115 [.int .i64 n, .slice pa (wcount n) ca]).lay 115 [.int .i64 n, .slice pb (wcount n) cb]).lay 115 [.int .i64 0, .slice none 0 0]
  simp only [World.size_alloc] at hT
  generalize ((w.alloc (.cells [Value.int .i64 n, .slice pa (wcount n) ca].toArray 115)).alloc (.cells [Value.int .i64 n, .slice pb (wcount n) cb].toArray 115)).alloc (.cells [Value.int .i64 0, .slice none 0 0].toArray 115) = W at *
  have HT := Lib.hid hT
  clear hT
  refine (HC.out _ HT.out.bel).mono ?_; rintro e w2 ⟨v2, b2, rfl, hv2, hge2, hb2⟩
  obtain rfl := hv2.e
  have HT2 := Lib.hid (HT.out.cons hb2 hv2.blk hge2)
  have HL := Lib.hid hv2.lt
  have r0 := (HT2.out.pr 1 rfl).1
  have r1 := (HT2.out.pr 1 rfl).2
  have f0 := (HT2.out.at 1 rfl).frz 0
  have f1 := (HT2.out.at 1 rfl).frz 1
  clear hv2 hge2 hb2
  go_wp2_with fail
  have HT3 := Lib.hid (HT2.out.two 1 (x := .int .i64 n) (y := .slice (some ⟨b2, 0, none⟩) (wcount n) (wcount n)) rfl)
  have e0 := (HT3.out.pr 1 rfl).1
  have e1 := (HT3.out.pr 1 rfl).2
  exact bodyPost_ret (v := .tuple #[vecO n b2, .int .i64 0]) (by simp [results, Tryz.results98, go_sem, e0, e1, vecO]) rfl ⟨_, rfl, (HT3.out.vo 0 rfl HL.out HA.out.le).vr (shiftN_lt _ _ _ _), HT3.out.bel, Far.vec (HT3.out.far 0 rfl)⟩
set_option maxRecDepth 100000 in
set_option maxHeartbeats 4000000 in
theorem bin_12 {w : World} {va vb : Value} {n A B : Nat} (hA : VR w va n A) (hB : VR w vb n B) (hn : 0 < n) :
    Calls Tryz.prog 98 #[.int .i64 12, va, vb] w (RetE w n (shiftN 12 n A B) 0) := by
  have HA := Lib.hid hA
  have HB := Lib.hid hB
  have hni : (n : Int) ≤ 128 := by have := hA.le; omega
  have hn0 : ((n : Int) == 0) = false := by simp; omega
  obtain ⟨pa, ca, rfl, _⟩ := hA.ex
  obtain ⟨pb, cb, rfl, _⟩ := hB.ex
  have HC : Hid (∀ w', Below w.heap.size w w' → Calls Tryz.prog 114 #[.int .i64 12, .agg #[.int .i64 n, .slice pa (wcount n) ca], .agg #[.int .i64 n, .slice pb (wcount n) cb]] w' (Fresh w' n (shiftN 12 n A B))) := Lib.hid (fun w' hb => shift_any (hA.below hb) (hB.below hb) 12 (by decide))
  have HN := Lib.hid hn
  clear hA hB hn
  go_enter Tryz.func98, Tryz.ntmps98
  go_wp2_with fail
  have hT := (((Tr.nil w).lay 115 [.int .i64 n, .slice pa (wcount n) ca]).lay 115 [.int .i64 n, .slice pb (wcount n) cb]).lay 115 [.int .i64 0, .slice none 0 0]
  simp only [World.size_alloc] at hT
  generalize ((w.alloc (.cells [Value.int .i64 n, .slice pa (wcount n) ca].toArray 115)).alloc (.cells [Value.int .i64 n, .slice pb (wcount n) cb].toArray 115)).alloc (.cells [Value.int .i64 0, .slice none 0 0].toArray 115) = W at *
  have HT := Lib.hid hT
  clear hT
  refine (HC.out _ HT.out.bel).mono ?_; rintro e w2 ⟨v2, b2, rfl, hv2, hge2, hb2⟩
  obtain rfl := hv2.e
  have HT2 := Lib.hid (HT.out.cons hb2 hv2.blk hge2)
  have HL := Lib.hid hv2.lt
  have r0 := (HT2.out.pr 1 rfl).1
  have r1 := (HT2.out.pr 1 rfl).2
  have f0 := (HT2.out.at 1 rfl).frz 0
  have f1 := (HT2.out.at 1 rfl).frz 1
  clear hv2 hge2 hb2
  go_wp2_with fail
  have HT3 := Lib.hid (HT2.out.two 1 (x := .int .i64 n) (y := .slice (some ⟨b2, 0, none⟩) (wcount n) (wcount n)) rfl)
  have e0 := (HT3.out.pr 1 rfl).1
  have e1 := (HT3.out.pr 1 rfl).2
  exact bodyPost_ret (v := .tuple #[vecO n b2, .int .i64 0]) (by simp [results, Tryz.results98, go_sem, e0, e1, vecO]) rfl ⟨_, rfl, (HT3.out.vo 0 rfl HL.out HA.out.le).vr (shiftN_lt _ _ _ _), HT3.out.bel, Far.vec (HT3.out.far 0 rfl)⟩
end Go.Proofs.YtcjfelndnnhgjaaGreatDoor.L
namespace Go.Proofs.YtcjfelndnnhgjaaGreatDoor.L
set_option linter.unusedVariables false
open Go.RowKit
theorem setB_add {x k : Nat} (h : x < 2 ^ k) : setB x k true = x + 2 ^ k := by
  have := Nat.two_pow_add_eq_or_of_lt h 1
  rw [Nat.mul_one] at this
  rw [Nat.add_comm, this, Nat.or_comm, ← setB_or]
theorem word_small {x k : Nat} (h : x < 2 ^ k) : word x (k / 64) < 2 ^ (k % 64) := by
  unfold word
  refine Nat.lt_of_le_of_lt (Nat.mod_le _ _) ?_
  rw [Nat.div_lt_iff_lt_mul (Nat.pow_pos (by decide)), ← Nat.pow_add]
  rwa [show k % 64 + 64 * (k / 64) = k by omega]
theorem u64_one (k : Nat) (hk : k < 64) : IntKind.u64.wrap (1 * 2 ^ k) = ((2 ^ k : Nat) : Int) := by
  rw [Int.one_mul]; exact u64_pow k hk
theorem words_step (f : Nat → Bool) (k m : Nat) (y : Nat) (hy : y < 2 ^ 64) (he : y = setB (word (ofB f k) (k / 64)) (k % 64) (f k)) : (wordsV m (ofB f k)).set (k / 64) (.int .u64 y) = wordsV m (ofB f (k + 1)) := by
  rw [wordsV_set hy]
  refine wordsV_ext fun i _ => ?_
  rw [setW_word _ _ _ _ hy, ← setB_ofB f k, setB_word, he]
  by_cases e : i = k / 64
  · subst e; rfl
  · rw [if_neg e, if_neg e]
theorem ofB_skip {f : Nat → Bool} {k : Nat} (h : f k = false) : ofB f (k + 1) = ofB f k := by rw [ofB, h]; simp
theorem RO.ofCells {w : World} {b n t : Nat} {l : List Value} (h : Blk w b t l) (hl : l.length = n) : RO w (.slice (some ⟨b, 0, none⟩) n n) 1 n l := by
  refine ⟨by omega, _, _, rfl, fun j u hj => ⟨b, 0, rfl, ?_⟩⟩
  rw [Nat.zero_add]; exact h.cell hj
end Go.Proofs.YtcjfelndnnhgjaaGreatDoor.L
namespace Go.Proofs.YtcjfelndnnhgjaaGreatDoor.L
set_option linter.unusedVariables false
open Go.RowKit
def natsV (l : List Nat) : List Value := l.map fun x => .int .u64 ((x : Nat) : Int)
theorem natsV_length (l : List Nat) : (natsV l).length = l.length := by simp [natsV]
theorem natsV_words (l : List Nat) (h : ∀ x ∈ l, x < 2 ^ 64) (m : Nat) : splice (wordsV m 0) 0 (natsV (l.take m)) = wordsV m (valW (l.take m)) := by
  have h' : ∀ x ∈ l.take m, x < 2 ^ 64 := fun x hx => h x (List.mem_of_mem_take hx)
  apply List.ext_getElem?
  intro i
  simp only [splice, List.take_zero, List.nil_append, Nat.zero_add, natsV_length]
  by_cases hi : i < m
  · rw [wordsV_at hi, valW_word _ h']
    by_cases h2 : i < (l.take m).length
    · rw [List.getElem?_append_left (by rw [natsV_length]; exact h2), natsV, List.getElem?_map, List.getD, List.getElem?_eq_getElem h2]; rfl
    · rw [List.getElem?_append_right (by rw [natsV_length]; omega), natsV_length, List.getElem?_drop, show (l.take m).length + (i - (l.take m).length) = i by omega, wordsV_at hi, word_zero, List.getD, List.getElem?_eq_none (by omega)]; rfl
  · have h3 : (l.take m).length ≤ m := by simp; omega
    rw [List.getElem?_append_right (by rw [natsV_length]; omega), natsV_length, List.getElem?_drop, show (l.take m).length + (i - (l.take m).length) = i by omega, List.getElem?_eq_none (by rw [wordsV_length]; omega), List.getElem?_eq_none (by rw [wordsV_length]; omega)]
set_option maxRecDepth 100000 in
set_option maxHeartbeats 2000000 in
theorem new_bad {w : World} (n : Int) (vw : Value) {k : Nat} {cs : List Value} (hl : RO w vw 1 k cs) (hb : n < 1 ∨ 128 < n) : Calls Tryz.prog 97 #[.int .i64 n, vw] w (RetE w 0 0 2) := by
  obtain ⟨p, c, rfl⟩ := hl.form
  have HG : Hid (∀ w, Calls Tryz.prog 103 #[.int .i64 n] w fun e w' => e = .returned (.bool false) ∧ w = w') := Lib.hid fun w => by
    have := good_any n w
    rwa [show (decide ((1 : Int) ≤ n) && decide (n ≤ 128)) = false by simp; omega] at this
  clear hl hb
  go_enter Tryz.func97, Tryz.ntmps97
  go_wp2_with fail
  refine (HG.out _).mono ?_; rintro e w' ⟨rfl, rfl⟩
  go_wp2_with fail
  exact bodyPost_ret (v := .tuple #[.agg #[.int .i64 0, .slice none 0 0], .int .i64 2]) (by simp [results, Tryz.results97, go_sem]) rfl ⟨_, rfl, VR.zero _, Below.new _ _, Far.zero _ _⟩
set_option maxRecDepth 100000 in
set_option maxHeartbeats 4000000 in
theorem new_good {w : World} (n : Nat) (h1 : 1 ≤ n) (h2 : n ≤ 128) (vw : Value) {l : List Nat} (hl : RO w vw 1 l.length (natsV l)) (hx : ∀ x ∈ l, x < 2 ^ 64) : Calls Tryz.prog 97 #[.int .i64 n, vw] w (RetE w n (valW l % 2 ^ n) 0) := by
  have HL := Lib.hid hl
  obtain ⟨p, c, rfl⟩ := hl.form
  have HG : Hid (∀ w, Calls Tryz.prog 103 #[.int .i64 n] w fun e w' => e = .returned (.bool true) ∧ w = w') := Lib.hid fun w => by
    have := good_any n w
    rwa [show (decide ((1 : Int) ≤ n) && decide ((n : Int) ≤ 128)) = true by simp; omega] at this
  have hni : (n : Int) ≤ 128 := by omega
  have HBl := Lib.hid (fun w => blank_any (w := w) n h2)
  have HX := Lib.hid (And.intro hx h1)
  clear hl hx h1 h2
  go_enter Tryz.func97, Tryz.ntmps97
  go_wp2_with fail
  refine (HG.out _).mono ?_; rintro e w' ⟨rfl, rfl⟩
  go_wp2_with fail
  have k2 := Blk.new (w := w) 115 [.int .i64 0, .slice none 0 0]
  have hb3 := Below.new w (.cells #[.int .i64 0, .slice none 0 0] 115)
  generalize w.alloc (.cells #[.int .i64 0, .slice none 0 0] 115) = W at *
  have HK := Lib.hid (And.intro k2 hb3)
  clear k2 hb3
  refine (HBl.out _).mono ?_; rintro e w1 ⟨v, b, rfl, hV, hge, hb1⟩
  obtain rfl := hV.e
  have hS := Bld.start (w := w) (bs := [(w.heap.size, [.int .i64 0, .slice none 0 0])]) (by
    intro p hp
    simp only [List.mem_cons, List.not_mem_nil, or_false] at hp
    subst hp
    exact HK.out.1) HK.out.2 hb1 hV hge
  have hS2 := hS.push [.int .i64 n, .slice (some ⟨b, 0, none⟩) (wcount n) (wcount n)]
  have y1 := (hS2.box (p := (w1.heap.size, [.int .i64 n, .slice (some ⟨b, 0, none⟩) (wcount n) (wcount n)])) (by simp)).cell (i := 1) rfl
  dsimp only at y1
  have hbk := hS2.vo.blk
  have hro := HL.out.below hS2.bel
  have hone : ∀ u ∈ natsV l, u.oneCell' = true := by
    intro u hu
    simp only [natsV, List.mem_map] at hu
    obtain ⟨x, _, rfl⟩ := hu; rfl
  have HC := Lib.hid (And.intro hbk (And.intro hro hone))
  have HS2 := Lib.hid hS2
  clear hV hb1 hS hge hS2 hbk hro hone
  have HNext : Hid (∀ w2 : World, Hid (Blk w2 b 158 (splice (wordsV (wcount n) 0) 0 ((natsV l).take (wcount n))) ∧ (w1.alloc (.cells [Value.int .i64 n, .slice (some ⟨b, 0, none⟩) (wcount n) (wcount n)].toArray 115)).grownBy w2 (some b)) → Bld w [(w1.heap.size, [.int .i64 n, .slice (some ⟨b, 0, none⟩) (wcount n) (wcount n)]), (w.heap.size, [.int .i64 0, .slice none 0 0])] n (valW (l.take (wcount n))) b w2) := Lib.hid fun w2 h2 => by
    refine HS2.out.grown h2.out.2 ⟨rfl, ?_, ?_, HS2.out.vo.le⟩
    · have := h2.out.1
      rwa [show (natsV l).take (wcount n) = natsV (l.take (wcount n)) by simp [natsV, List.map_take], natsV_words l HX.out.1] at this
    · refine Nat.lt_of_lt_of_le (valW_lt _ fun x hx => HX.out.1 x (List.mem_of_mem_take hx)) (Nat.pow_le_pow_right (by decide) ?_)
      have : (l.take (wcount n)).length ≤ wcount n := by simp; omega
      omega
  go_wp2_with (refine wpList_copyR rfl _ _ 113 113 rfl 158 Tryz.underlying113 (by kernel_rfl) b 0 (wcount n) (wcount n) rfl _ 158 HC.out.1 (by rw [wordsV_length]; omega) _ _ _ rfl HC.out.2.1 HC.out.2.2 ?_; intro w2 h2; have hB2 := HNext.out w2 h2; have HB2 := Lib.hid hB2; have x0 := (hB2.box (p := (w1.heap.size, [.int .i64 n, .slice (some ⟨b, 0, none⟩) (wcount n) (wcount n)])) (by simp)).cell (i := 0) rfl; have x1 := (hB2.box (p := (w1.heap.size, [.int .i64 n, .slice (some ⟨b, 0, none⟩) (wcount n) (wcount n)])) (by simp)).cell (i := 1) rfl; dsimp only at x0 x1; clear h2 hB2 y1)
  have HCut := Lib.hid (cut_any HB2.out.vo HX.out.2)
  refine HCut.out.mono ?_; rintro e w3 ⟨rfl, hv3, hg3⟩
  have hB3 := HB2.out.grown hg3 hv3
  have kr := hB3.box (p := (w.heap.size, [.int .i64 0, .slice none 0 0])) (by simp)
  have HB3 := Lib.hid hB3
  have r0 := kr.cell (i := 0) rfl
  have r1 := kr.cell (i := 1) rfl
  have f0 := kr.frz 0
  have f1 := kr.frz 1
  dsimp only [vecO] at r0 r1 f0 f1 ⊢
  clear hv3 hg3 hB3 kr x0 x1
  go_wp2_with fail
  obtain ⟨e0, e1, hv, hbl⟩ := HB3.out.ret (R := w.heap.size) (u := .int .i64 0) (v := .slice none 0 0) (by simp) (Nat.le_refl _)
  rw [valW_take l HX.out.1 n _ (n_le_words n)] at hv
  exact bodyPost_ret (v := .tuple #[vecO n b, .int .i64 0]) (by simp [results, Tryz.results97, go_sem, e0, e1, vecO]) rfl ⟨_, rfl, hv.vr (Nat.mod_lt _ (Nat.pow_pos (by decide))), hbl, Far.vec HB3.out.ge⟩
end Go.Proofs.YtcjfelndnnhgjaaGreatDoor.L
namespace Go.Proofs.YtcjfelndnnhgjaaGreatDoor.L
set_option linter.unusedVariables false
open Go.RowKit
/-- bits lo and on -/
def sliceR (f : Nat → Bool) (lo j : Nat) : Bool := f (lo + j)
/-- the part of a list that is read -/
theorem RO.part {w : World} {b o n c lo m c' : Nat} {f : Nat → Bool} (h : RO w (.slice (some ⟨b, o, none⟩) n c) 1 n (bools (rl n f))) (hm : lo + m ≤ n) :
    RO w (.slice (some ⟨b, o + lo, none⟩) m c') 1 m (bools (rl m fun j => f (lo + j))) := by
  refine ⟨by simp [bools, rl], _, _, rfl, fun j u hj => ⟨b, o + lo, rfl, ?_⟩⟩
  have hjm : j < m := by
    rcases Nat.lt_or_ge j m with h | h
    · exact h
    · rw [List.getElem?_eq_none (by simp [bools, rl]; omega)] at hj; cases hj
  rw [bools_at _ j (by rw [rl_length]; exact hjm), rl_getD _ _ _ hjm] at hj
  have hat := bools_at (rl n f) (lo + j) (by rw [rl_length]; omega)
  rw [rl_getD n f (lo + j) (by omega), hj] at hat
  rw [Nat.add_assoc]; exact h.cell hat
theorem RO.ptr {w : World} {p : Option Addr} {n c : Nat} {f : Nat → Bool} (h : RO w (.slice p n c) 1 n (bools (rl n f))) (h0 : 0 < n) : ∃ b o, p = some ⟨b, o, none⟩ := by
  exact h.sl (bools_at (rl n f) 0 (by rw [rl_length]; exact h0))
theorem RO.part' {w : World} {b o n c lo m c' : Nat} {f : Nat → Bool} {p : Option Addr} (h : RO w (.slice (some ⟨b, o, none⟩) n c) 1 n (bools (rl n f))) (hm : lo + m ≤ n) (hp : 0 < m → p = some ⟨b, o + lo, none⟩) :
    RO w (.slice p m c') 1 m (bools (rl m fun j => f (lo + j))) := by
  by_cases h0 : m = 0
  · subst h0
    exact ⟨rfl, _, _, rfl, fun j u hj => by simp [rl, bools] at hj⟩
  · obtain rfl := hp (by omega)
    exact h.part hm
/-- what Put gives -/
def putR (f g : Nat → Bool) (lo m j : Nat) : Bool := if j < lo then f j else if j < lo + m then g (j - lo) else f j
end Go.Proofs.YtcjfelndnnhgjaaGreatDoor.L
namespace Go.Proofs.YtcjfelndnnhgjaaGreatDoor.L
set_option linter.unusedVariables false
open Go.RowKit
/-- what Ext gives -/
def extR (f : Nat → Bool) (n : Nat) (s : Bool) (j : Nat) : Bool := if j < n then f j else s && f (n - 1)
theorem rl_step (m k : Nat) (f : Nat → Bool) (t : Bool) (ht : t = f k) : (bools (rl m fun j => decide (j < k) && f j)).set k (.bool t) = bools (rl m fun j => decide (j < k + 1) && f j) := by
  rw [bools_set, rl_set]
  congr 1
  refine rl_congr fun i hi => ?_
  by_cases e : i = k
  · subst e; simp [ht]
  · by_cases e2 : i < k
    · have : i < k + 1 := by omega
      simp [e, e2, this]
    · have : ¬ i < k + 1 := by omega
      simp [e, e2, this]
theorem u64_bit2 (W k : Nat) (hW : W < 2 ^ 64) : (((W : Int) / 2 ^ k).tmod 2 == 1) = W.testBit k := by
  have e : (W : Int) / 2 ^ k = ((W / 2 ^ k : Nat) : Int) := by simp
  rw [e, Int.tmod_eq_emod_of_nonneg (Int.natCast_nonneg _), Nat.testBit_eq_decide_div_mod_eq]
  generalize W / 2 ^ k = q
  rw [Bool.eq_iff_iff]
  simp
  omega
end Go.Proofs.YtcjfelndnnhgjaaGreatDoor.L
namespace Go.Proofs.YtcjfelndnnhgjaaGreatDoor.L
set_option linter.unusedVariables false
open Go.RowKit
theorem RO.short {w : World} {p : Option Addr} {n c c' m : Nat} {f : Nat → Bool} (hA : RO w (.slice p n c) 1 n (bools (rl n f))) (hm : m ≤ n) : RO w (.slice p m c') 1 m (bools (rl m f)) := by
  by_cases h0 : m = 0
  · subst h0; exact ⟨rfl, _, _, rfl, fun j u hj => by simp [rl, bools] at hj⟩
  · obtain ⟨b, o, rfl⟩ := hA.ptr (by omega)
    have := hA.part (lo := 0) (m := m) (c' := c') (by omega)
    rw [Nat.add_zero] at this
    rwa [show (fun j => f (0 + j)) = f from funext fun j => by rw [Nat.zero_add]] at this
/-- what fit gives -/
def fitF (g : Nat → Bool) (m j : Nat) : Bool := decide (j < m) && g j
theorem fit_cells (n m : Nat) (g : Nat → Bool) : splice (bools (List.replicate n false)) 0 ((bools (rl m g)).take n) = bools (rl n (fitF g m)) := by
  have ht : (bools (rl m g)).take n = bools (rl (min m n) g) := by
    rw [bools, ← List.map_take]; congr 1
    rw [rl, rl, ← List.map_take, List.take_range, Nat.min_comm]
  rw [ht, ← rl_false]
  unfold splice
  rw [List.take_zero, List.nil_append]
  have hd : (bools (rl n fun _ => false)).drop (0 + (bools (rl (min m n) g)).length) = bools (rl (n - min m n) fun _ => false) := by
    have hlen : (bools (rl (min m n) g)).length = min m n := by simp [bools, rl]
    rw [hlen, Nat.zero_add, bools, ← List.map_drop]; congr 1
    rw [rl_false, rl_false, List.drop_replicate]
  rw [hd, bools_append, rl_append, show min m n + (n - min m n) = n by omega]
  congr 1
  refine rl_congr fun i hi => ?_
  unfold fitF
  by_cases h : i < m
  · rw [if_pos (by omega), decide_eq_true h, Bool.true_and]
  · rw [if_neg (by omega), decide_eq_false h, Bool.false_and]
/-- a vector is returned, its words in no old block -/
def RetV (w : World) (n x : Nat) (e : Ending) (w' : World) : Prop := ∃ v, e = .returned v ∧ VR w' v n x ∧ Below w.heap.size w w' ∧ Far w v
theorem valB_rl (n : Nat) (f : Nat → Bool) : valB (rl n f) = ofB f n := by
  unfold valB; rw [rl_length]; exact ofB_congr fun i hi => rl_getD n f i hi
theorem RO.lits {w : World} {b : Nat} {l : List Nat} (h : Blk w b 158 (natsV l)) : RO w (.slice (some ⟨b, 0, none⟩) l.length l.length) 1 l.length (natsV l) := RO.ofCells h (natsV_length l)
end Go.Proofs.YtcjfelndnnhgjaaGreatDoor.L
namespace Go.Proofs.YtcjfelndnnhgjaaGreatDoor.L
set_option linter.unusedVariables false
open Go.RowKit
theorem VR.new_ne {w : World} {p : Option Addr} {c n x : Nat} (h : VR w (.agg #[.int .i64 n, .slice p (wcount n) c]) n x) (hn : 0 < n) : ∀ b o, p = some ⟨b, o, none⟩ → b ≠ w.heap.size := by
  rintro b o rfl
  obtain ⟨b', o', c', e', f'⟩ := h.word (i := 0) (by unfold wcount; omega)
  simp only [Value.agg.injEq, Array.mk.injEq, List.cons.injEq, Value.slice.injEq, true_and, and_true, Option.some.injEq, Addr.mk.injEq] at e'
  have := World.block_lt_of_cell? _ _ f'
  dsimp only at this
  omega
theorem Far.ne {w : World} {k : Value} {p : Option Addr} {m c L : Nat} (h : Far w (.agg #[k, .slice p m c])) (hL : L < w.heap.size) : ∀ b o, p = some ⟨b, o, none⟩ → b ≠ L := fun b o hp => by
  have := h _ _ _ _ _ _ rfl hp
  omega
theorem VR.set2 {w : World} {p : Option Addr} {c n x R : Nat} {x1 y1 : Value} (h : VR w (.agg #[.int .i64 n, .slice p (wcount n) c]) n x) (hne : ∀ b o, p = some ⟨b, o, none⟩ → b ≠ R) :
    VR ((w.setCell ⟨R, 0, none⟩ x1).setCell ⟨R, 1, none⟩ y1) (.agg #[.int .i64 n, .slice p (wcount n) c]) n x := by
  refine ⟨?_, h.lt, h.le⟩
  obtain ⟨⟨p', c', e, hl, p2, c2, e2, hcs⟩, _, _⟩ := h
  simp only [Value.agg.injEq, Array.mk.injEq, List.cons.injEq, Value.slice.injEq, true_and, and_true] at e
  obtain ⟨rfl, rfl⟩ := e
  refine ⟨p, c, rfl, hl, p2, c2, e2, fun j y hj => ?_⟩
  obtain ⟨b, o, h1, h2⟩ := hcs j y hj
  simp only [Value.slice.injEq] at e2
  obtain ⟨rfl, _⟩ := e2
  exact ⟨b, o, h1, (World.cell?_setCell_far _ _ _ _ (Ne.symm (hne b o h1))).trans ((World.cell?_setCell_far _ _ _ _ (Ne.symm (hne b o h1))).trans h2)⟩
end Go.Proofs.YtcjfelndnnhgjaaGreatDoor.L
namespace Go.Proofs.YtcjfelndnnhgjaaGreatDoor.L
set_option linter.unusedVariables false
open Go.RowKit
end Go.Proofs.YtcjfelndnnhgjaaGreatDoor.L
namespace Go.Proofs.YtcjfelndnnhgjaaGreatDoor.L
set_option linter.unusedVariables false
open Go.RowKit
theorem Tr.subs {w W : World} {ls ls'} (h : Tr w ls W) (hs : ∀ p ∈ ls', p ∈ ls) (hnd : (ls'.map (·.1)).Nodup) : Tr w ls' W := ⟨h.bel, fun p hp => h.blk p (hs p hp), fun p hp => h.ge p (hs p hp), hnd⟩
end Go.Proofs.YtcjfelndnnhgjaaGreatDoor.L
