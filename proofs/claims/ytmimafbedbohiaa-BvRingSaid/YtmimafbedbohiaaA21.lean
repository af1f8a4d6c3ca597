import Derived.Test.YtmimafbedbohiaaA20
namespace Go.Proofs.Ytmimafbedbohiaa
set_option linter.unusedVariables false
open Go.RowKit

/-- what Slice gives: bit j is bit lo + j of A -/
def sliceF (A lo : Nat) (j : Nat) : Bool := A.testBit (lo + j)
theorem bitI_add (A lo k : Nat) : bitI A ((lo : Int) + (k : Int)) = sliceF A lo k := by
  unfold bitI sliceF
  rw [decide_eq_true (by omega), show ((lo : Int) + (k : Int)).toNat = lo + k by omega, Bool.true_and]

set_option maxRecDepth 100000 in
set_option maxHeartbeats 4000000 in
theorem slice_bad {w : World} {va : Value} {n A : Nat} (hA : VR w va n A) (lo k : Int) (hb : lo < 0 ∨ k < 1 ∨ (n : Int) < k ∨ (n : Int) - k < lo) :
    Calls Try.prog 34 #[va, .int .i64 lo, .int .i64 k] w (RetE w 0 0 3) := by
  have hn128 := hA.le
  have hni : (n : Int) ≤ 128 := by omega
  obtain ⟨pa, ca, rfl, ra⟩ := hA.ex
  have HB : Hid (∀ w1 : World, Below w.heap.size w ((w1.alloc (.cells #[.int .i64 n, .slice pa (wcount n) ca] 26))) → True) := Lib.hid fun _ _ => trivial
  have hbel : Below w.heap.size w ((w.alloc (.cells #[.int .i64 n, .slice pa (wcount n) ca] 26)).alloc (.cells #[.int .i64 0, .slice none 0 0] 26)) := (Below.new _ _).alloc (by simp) _
  have HBel := Lib.hid hbel
  clear hA ra hn128 HB hbel
  by_cases h0 : lo < 0
  · clear hb
    go_enter Try.func34, Try.ntmps34
    go_wp2_with fail
    exact bodyPost_ret (v := .tuple #[.agg #[.int .i64 0, .slice none 0 0], .int .i64 3]) (by simp [results, Try.results34, go_sem]) rfl ⟨_, rfl, VR.zero _, HBel.out, Far.zero _ _⟩
  by_cases h1 : k < 1
  · clear hb
    have g0 : decide (lo < 0) = false := by simp; omega
    go_enter Try.func34, Try.ntmps34
    go_wp2_with fail
    exact bodyPost_ret (v := .tuple #[.agg #[.int .i64 0, .slice none 0 0], .int .i64 3]) (by simp [results, Try.results34, go_sem]) rfl ⟨_, rfl, VR.zero _, HBel.out, Far.zero _ _⟩
  by_cases h2 : (n : Int) < k
  · clear hb
    have g0 : decide (lo < 0) = false := by simp; omega
    have g1 : decide (k < 1) = false := by simp; omega
    go_enter Try.func34, Try.ntmps34
    go_wp2_with fail
    exact bodyPost_ret (v := .tuple #[.agg #[.int .i64 0, .slice none 0 0], .int .i64 3]) (by simp [results, Try.results34, go_sem]) rfl ⟨_, rfl, VR.zero _, HBel.out, Far.zero _ _⟩
  · have h3 : (n : Int) - k < lo := by omega
    have g0 : decide (lo < 0) = false := by simp; omega
    have g1 : decide (k < 1) = false := by simp; omega
    have g2 : decide ((n : Int) < k) = false := by simp; omega
    have hw : IntKind.i64.wrap ((n : Int) - k) = (n : Int) - k := IntWalk.i64_in _ (by omega)
    clear hb
    go_enter Try.func34, Try.ntmps34
    go_wp2_with fail
    exact bodyPost_ret (v := .tuple #[.agg #[.int .i64 0, .slice none 0 0], .int .i64 3]) (by simp [results, Try.results34, go_sem]) rfl ⟨_, rfl, VR.zero _, HBel.out, Far.zero _ _⟩

set_option maxRecDepth 100000 in
set_option maxHeartbeats 4000000 in
theorem slice_good {w : World} {va : Value} {n A : Nat} (hA : VR w va n A) (lo m : Nat) (hm : 1 ≤ m) (hlm : lo + m ≤ n) :
    Calls Try.prog 34 #[va, .int .i64 lo, .int .i64 m] w (RetE w m (ofB (sliceF A lo) m) 0) := by
  have HA := Lib.hid hA
  have hn128 := hA.le
  have hni : (n : Int) ≤ 128 := by omega
  have hmi : (1 : Int) ≤ m := by omega
  have g0 : decide ((lo : Int) < 0) = false := by simp
  have g1 : decide ((m : Int) < 1) = false := by simp; omega
  have g2 : decide ((n : Int) < m) = false := by simp; omega
  have g3 : decide ((n : Int) - m < lo) = false := by simp; omega
  have g4 : (lo : Int) + m ≤ n := by omega
  have hw : IntKind.i64.wrap ((n : Int) - m) = (n : Int) - m := IntWalk.i64_in _ (by omega)
  have HBit := Lib.hid (fun w' (hb : Below w.heap.size w w') => bit_any (hA.below hb))
  obtain ⟨pa, ca, rfl, ra⟩ := hA.ex
  have HBl := Lib.hid (fun w => blank_any (w := w) m (by omega))
  clear hA ra hn128 hm hlm
  go_enter Try.func34, Try.ntmps34
  go_wp2_with fail
  have k0 := (Blk.new (w := w) 26 [.int .i64 n, .slice pa (wcount n) ca]).alloc (.cells #[.int .i64 0, .slice none 0 0] 26)
  have k2 := Blk.new (w := (w.alloc (.cells #[.int .i64 n, .slice pa (wcount n) ca] 26))) 26 [.int .i64 0, .slice none 0 0]
  have hb3 : Below w.heap.size w ((w.alloc (.cells #[.int .i64 n, .slice pa (wcount n) ca] 26)).alloc (.cells #[.int .i64 0, .slice none 0 0] 26)) := (Below.new _ _).alloc (by simp) _
  simp only [World.size_alloc] at k2
  generalize (w.alloc (.cells #[.int .i64 n, .slice pa (wcount n) ca] 26)).alloc (.cells #[.int .i64 0, .slice none 0 0] 26) = W at *
  have HK := Lib.hid (And.intro k0 (And.intro k2 hb3))
  clear k0 k2 hb3
  refine (HBl.out _).mono ?_; rintro e w1 ⟨v, b, rfl, hV, hge, hb1⟩
  obtain rfl := hV.e
  have hS := Bld.start (w := w) (bs := [(w.heap.size, [.int .i64 n, .slice pa (wcount n) ca]), (w.heap.size + 1, [.int .i64 0, .slice none 0 0])]) (by
    intro p hp
    simp only [List.mem_cons, List.not_mem_nil, or_false] at hp
    rcases hp with rfl | rfl
    · exact HK.out.1
    · exact HK.out.2.1) HK.out.2.2 hb1 hV hge
  have hS2 := Lib.hid (hS.push [.int .i64 m, .slice (some ⟨b, 0, none⟩) (wcount m) (wcount m)])
  clear hV hb1 hS hge
  go_wp2_with fail
  generalize w1.alloc (.cells #[.int .i64 m, .slice (some ⟨b, 0, none⟩) (wcount m) (wcount m)] 26) = w2 at *
  generalize w1.heap.size = L at *
  generalize hbs : [(L, [Value.int IntKind.i64 m, Value.slice (some ⟨b, 0, none⟩) (wcount m) (wcount m)]), (w.heap.size, [Value.int IntKind.i64 n, Value.slice pa (wcount n) ca]), (w.heap.size + 1, [Value.int IntKind.i64 0, Value.slice none 0 0])] = bs at *
  have hL : (L, [Value.int IntKind.i64 m, Value.slice (some ⟨b, 0, none⟩) (wcount m) (wcount m)]) ∈ bs := by rw [← hbs]; simp
  have ha : (w.heap.size, [Value.int IntKind.i64 n, Value.slice pa (wcount n) ca]) ∈ bs := by rw [← hbs]; simp
  have hR : (w.heap.size + 1, [Value.int IntKind.i64 0, Value.slice none 0 0]) ∈ bs := by rw [← hbs]; simp
  have HS := Lib.hid (And.intro hL (And.intro ha hR))
  clear hbs hL ha hR
  go_loopw [34] (fun i wr => ∃ k : Nat, k ≤ m ∧ i = .int .i64 k ∧ Bld w bs m (ofB (sliceF A lo) k) b wr) (fun i _ => m - (intOf i).toNat)
  case atStart => exact ⟨0, Nat.zero_le _, rfl, hS2.out⟩
  case round =>
    obtain ⟨k, hk, rfl, hX⟩ := hrel
    have HX := Lib.hid hX
    have s0 := hX.drew.four HS.out.1 HS.out.2.1
    by_cases hlt : k < m
    · have hki : (k : Int) < m := by omega
      have HST := Lib.hid (setB_ofB (sliceF A lo) k)
      have hb := HBit.out wr.drew hX.drew.bel ((lo : Int) + (k : Int))
      rw [bitI_add A lo k] at hb
      have HC := Lib.hid hb
      have hwr : IntKind.i64.wrap ((lo : Int) + (k : Int)) = (lo : Int) + (k : Int) := IntWalk.i64_in _ (by omega)
      generalize sliceF A lo k = r at *
      clear hX hb g0 g1 g2 g3
      go_wp2_with fail
      go_region_held3 (fun w' => w'.cell? ⟨L, 0, none⟩ = some (.int .i64 m) ∧ w'.cell? ⟨L, 1, none⟩ = some (.slice (some ⟨b, 0, none⟩) (wcount m) (wcount m)) ∧ w'.cell? ⟨w.heap.size, 0, none⟩ = some (.int .i64 n) ∧ w'.cell? ⟨w.heap.size, 1, none⟩ = some (.slice pa (wcount n) ca))
        (first | assumption)
        (first
          | (go_at_call 17; refine HC.out.mono ?_; rintro e w5 ⟨rfl, hb5⟩; have s5 := four_step s0 hb5; have H5 := Lib.hid (HX.out.drew.below hb5); clear hb5)
          | (go_at_call 61; refine (set_any H5.out.vo k r hlt).mono ?_; rintro e w6 ⟨rfl, hv6, hg6⟩; have h6 := H5.out.grown hg6 hv6; have s6 := h6.four HS.out.1 HS.out.2.1; have H6 := Lib.hid h6; clear hv6 hg6 h6))
      go_wp2_with fail
      go_roundw
      case rel => exact ⟨k + 1, by omega, by go_num, by rw [← HST.out]; exact H6.out⟩
      case measure => simp [intOf]; omega
    · obtain rfl : k = m := by omega
      have kr := hX.box HS.out.2.2
      have r0 := kr.cell (i := 0) rfl
      have r1 := kr.cell (i := 1) rfl
      have f0 := kr.frz 0
      have f1 := kr.frz 1
      have y0 := (hX.box HS.out.1).cell (i := 0) rfl
      have y1 := (hX.box HS.out.1).cell (i := 1) rfl
      dsimp only at r0 r1 f0 f1 y0 y1
      clear hX kr hlt s0
      go_wp2_with fail
      obtain ⟨e0, e1, hv, hbl⟩ := HX.out.ret HS.out.2.2 (by omega)
      exact bodyPost_ret (v := .tuple #[vecO k b, .int .i64 0]) (by simp [results, Try.results34, go_sem, e0, e1, vecO]) rfl ⟨_, rfl, hv.vr (ofB_lt _ _), hbl, Far.vec HX.out.ge⟩
end Go.Proofs.Ytmimafbedbohiaa
