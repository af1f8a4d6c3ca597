import Derived.Test.YtmimafbedbohiaaA57
import Derived.Test.YtmimafbedbohiaaP10
import Derived.Laws.BitsAllLaws
namespace Go.Proofs.Ytmimafbedbohiaa
set_option linter.unusedVariables false
open Go.RowKit

set_option maxRecDepth 100000 in
theorem i64_and_nat (a b : Nat) (ha : a < 9223372036854775808) (hb : b < 128) : bits .and .i64 (a : Int) (b : Int) = ((a &&& b : Nat) : Int) := by
  have h1 : a &&& b < 128 := Nat.lt_of_le_of_lt Nat.and_le_right hb
  show IntKind.i64.wrap ((BitVec.ofInt 64 (a : Int) &&& BitVec.ofInt 64 (b : Int)).toNat : Int) = _
  rw [BitVec.toNat_and, ofInt_u64 a (by omega), ofInt_u64 b (by omega)]
  generalize a &&& b = c at h1 ⊢
  clear ha hb
  exact IntWalk.i64_in (c : Int) (by omega)
theorem parity_none : ∀ n, parity (fun _ => false) n = false
  | 0 => rfl
  | n + 1 => by simp only [parity]; rw [parity_none n]; rfl
theorem parity_word (A k : Nat) : parity A.testBit (64 * (k + 1)) = (parity A.testBit (64 * k) != parity (word A k).testBit 64) := by
  have h : ∀ m, m = 64 → parity (fun j => A.testBit (64 * k + j)) m = parity (word A k).testBit m := fun m hm => parity_congr (f := fun j => A.testBit (64 * k + j)) (g := (word A k).testBit) fun j hj => by
    have hj' : j < 64 := by omega
    rw [word_bit]; simp [hj']
  rw [Nat.mul_add, Nat.mul_one, parity_add, h 64 rfl]
theorem parity_all {A n m : Nat} (hA : A < 2 ^ n) (hn : n ≤ m) : parity A.testBit m = parity A.testBit n := by
  rw [show m = n + (m - n) by omega, parity_add, show parity (fun j => A.testBit (n + j)) (m - n) = false by
    rw [← parity_none (m - n)]
    exact parity_congr fun j hj => bit_big hA (by omega)]
  simp

set_option maxRecDepth 100000 in
set_option maxHeartbeats 4000000 in
theorem ones_any (x : Nat) (hx : x < 2 ^ 64) (w : World) : Calls Try.prog 75 #[.int .u64 x] w fun e w' => (∃ r : Nat, e = .returned (.int .i64 r) ∧ r ≤ 64 ∧ (r % 2 = 1 ↔ parity x.testBit 64 = true)) ∧ w = w' := by
  obtain ⟨x1, x2, x3, x4, x5, x6, r, e1, l1, e2, l2, l2', e3, l3, e4, l4, e5, l5, e6, l6, e7, hr, hp⟩ := ones_sum hx
  have HR := Lib.hid (And.intro hr hp)
  have h1 : IntKind.u64.wrap (bits .and .u64 ((x : Int) / 2) 6148914691236517205 + bits .and .u64 (x : Int) 6148914691236517205) = (x1 : Int) := by
    rw [show (x : Int) / 2 = ((x / 2 : Nat) : Int) by simp, show (6148914691236517205 : Int) = ((6148914691236517205 : Nat) : Int) from rfl, u64_and_nat _ _ (by omega) (by decide), u64_and_nat _ _ hx (by decide), ← Int.natCast_add, e1, IntKind.wrap_u64]
    omega
  have h2 : IntKind.u64.wrap (bits .and .u64 ((x1 : Int) / 4) 3689348814741910323 + bits .and .u64 (x1 : Int) 3689348814741910323) = (x2 : Int) := by
    rw [show (x1 : Int) / 4 = ((x1 / 4 : Nat) : Int) by simp, show (3689348814741910323 : Int) = ((3689348814741910323 : Nat) : Int) from rfl, u64_and_nat _ _ (by omega) (by decide), u64_and_nat _ _ l1 (by decide), ← Int.natCast_add, e2, IntKind.wrap_u64]
    omega
  have h3 : bits .and .u64 (IntKind.u64.wrap ((x2 : Int) / 16 + (x2 : Int))) 1085102592571150095 = (x3 : Int) := by
    rw [show IntKind.u64.wrap ((x2 : Int) / 16 + (x2 : Int)) = ((x2 / 16 + x2 : Nat) : Int) by rw [IntKind.wrap_u64]; omega, show (1085102592571150095 : Int) = ((1085102592571150095 : Nat) : Int) from rfl, u64_and_nat _ _ l2' (by decide), e3]
  have h4 : IntKind.u64.wrap ((x3 : Int) + (x3 : Int) / 256) = (x4 : Int) := by rw [IntKind.wrap_u64]; omega
  have h5 : IntKind.u64.wrap ((x4 : Int) + (x4 : Int) / 65536) = (x5 : Int) := by rw [IntKind.wrap_u64]; omega
  have h6 : IntKind.u64.wrap ((x5 : Int) + (x5 : Int) / 4294967296) = (x6 : Int) := by rw [IntKind.wrap_u64]; omega
  have h7 : wrap64 (x6 : Int) = (x6 : Int) := by unfold wrap64; omega
  have h8 : bits .and .i64 (x6 : Int) 127 = (r : Int) := by
    rw [show (127 : Int) = ((127 : Nat) : Int) from rfl, i64_and_nat _ _ (by omega) (by decide), e7]
  clear e1 e2 e3 e4 e5 e6 e7 l1 l2 l2' l3 l4 l5 l6 hr hp hx
  go_enter Try.func75, Try.ntmps75
  go_wp2_with fail
  go_ret
  exact ⟨⟨r, rfl, HR.out.1, HR.out.2⟩, rfl⟩

set_option maxRecDepth 100000 in
set_option maxHeartbeats 4000000 in
theorem un_4 {w : World} {va : Value} {n A : Nat} (hA : VR w va n A) (hn : 0 < n) :
    Calls Try.prog 33 #[.int .i64 4, va] w (RetE w 1 (b2n (parity A.testBit n)) 0) := by
  have HA := Lib.hid hA
  have hni : (n : Int) ≤ 128 := by have := hA.le; omega
  have hn0 : ((n : Int) == 0) = false := by simp; omega
  have hmi : (wcount n : Int) ≤ 3 := by have := hA.le; unfold wcount; omega
  have HTr := Lib.hid (fun w q => truth_any (w := w) q)
  have HOn := Lib.hid (fun x hx w => ones_any x hx w)
  obtain ⟨pa, ca, rfl, ra⟩ := hA.ex
  have HRA := Lib.hid ra
  clear hA hn ra
  go_enter Try.func33, Try.ntmps33
  have hT := ((Tr.nil w).lay 26 [.int .i64 n, .slice pa (wcount n) ca]).lay 26 [.int .i64 0, .slice none 0 0]
  simp only [World.size_alloc] at hT
  have HT := Lib.hid hT
  clear hT
  go_upto_region 16 with fail
  generalize (w.alloc (.cells [Value.int .i64 n, .slice pa (wcount n) ca].toArray 26)).alloc (.cells [Value.int .i64 0, .slice none 0 0].toArray 26) = W at *
  have c1 := (HT.out.pr 1 rfl).2
  go_wp2_with fail
  go_loopw [6, 52] (fun sv iv wr => ∃ k s : Nat, k ≤ wcount n ∧ iv = .int .i64 k ∧ sv = .int .i64 s ∧ s ≤ 64 * k ∧ (s % 2 = 1 ↔ parity A.testBit (64 * k) = true) ∧ wr = W) (fun _ iv _ => wcount n - (intOf iv).toNat)
  case atStart => exact ⟨0, 0, Nat.zero_le _, rfl, rfl, Nat.zero_le _, by simp [parity], rfl⟩
  case round =>
    obtain ⟨k, s, hk, rfl, rfl, hs, hp, rfl⟩ := hrel
    have HP := Lib.hid (And.intro hs hp)
    clear hp
    by_cases hlt : k < wcount n
    · have hki : (k : Int) < wcount n := by omega
      have hk0 : (0 : Int) ≤ k := by omega
      have hsi : (s : Int) ≤ 192 := by omega
      have hat := wordsV_at (m := wcount n) (x := A) hlt
      obtain ⟨b, o, e⟩ := HRA.out.sl hat
      subst e
      have g := (HRA.out.below HT.out.bel).cell hat
      have HLT := Lib.hid hlt
      have hO := HOn.out (word A k) (word_lt A k) wr
      have HPW := Lib.hid (parity_word A k)
      have hOn := Lib.hid hO
      generalize word A k = y at *
      clear hat hs hlt hk hO
      go_wp2_with fail
      refine hOn.out.mono ?_; rintro e w2 ⟨⟨r, rfl, hr, hpr⟩, rfl⟩
      have HR := Lib.hid (And.intro hr hpr)
      have hw : IntKind.i64.wrap ((s : Int) + (r : Int)) = ((s + r : Nat) : Int) := by rw [IntWalk.i64_in _ (by omega)]; omega
      have hw' : IntKind.i64.wrap ((s : Int) + (r : Int)) = (s : Int) + (r : Int) := IntWalk.i64_in _ (by omega)
      clear hr hpr hw
      go_wp2_with fail
      go_roundw
      case rel =>
        refine ⟨k + 1, s + r, by have := HLT.out; omega, by go_num, by first | rfl | (congr 1), by have := HP.out.1; have := HR.out.1; omega, ?_, by first | rfl | trivial⟩
        rw [HPW.out]
        have h1 := HP.out.2
        have h2 := HR.out.2
        cases hpp : parity A.testBit (64 * k) <;> cases hqq : parity y.testBit 64 <;> rw [hpp] at h1 <;> rw [hqq] at h2 <;> simp at h1 h2 ⊢ <;> omega
      case measure => simp [intOf]; omega
    · obtain rfl : k = wcount n := by omega
      obtain ⟨q, hq⟩ : ∃ q, parity A.testBit n = q := ⟨_, rfl⟩
      have hpar : parity A.testBit (64 * wcount n) = q := by rw [← hq]; exact parity_all HA.out.lt (n_le_words n)
      have hs2 := HP.out.2
      rw [hpar] at hs2
      have hm1 : ((s : Int).tmod 2 == 1) = q := by
        rw [show (s : Int).tmod 2 = ((s % 2 : Nat) : Int) by rw [Int.tmod_eq_emod_of_nonneg (by omega)]; omega]
        cases q <;> simp at hs2 ⊢ <;> omega
      have hm2 : ((s : Int) % 2 == 1) = q := by
        rw [show (s : Int) % 2 = ((s % 2 : Nat) : Int) by omega]
        cases q <;> simp at hs2 ⊢ <;> omega
      have HQ := Lib.hid hq
      clear hlt hk hpar hs2 hq hs
      go_wp2_with fail
      refine (HTr.out _ _).mono ?_; rintro e w2 ⟨v2, b2, rfl, hv2, hge2, hb2⟩
      obtain rfl := hv2.e
      have HT2 := Lib.hid (HT.out.cons hb2 hv2.blk hge2)
      have HL := Lib.hid hv2.lt
      have r0 := (HT2.out.pr 1 rfl).1
      have r1 := (HT2.out.pr 1 rfl).2
      have f0 := (HT2.out.at 1 rfl).frz 0
      have f1 := (HT2.out.at 1 rfl).frz 1
      clear hv2 hge2 hb2
      go_wp2_with fail
      have HT3 := Lib.hid (HT2.out.two 1 (x := .int .i64 1) (y := .slice (some ⟨b2, 0, none⟩) (wcount 1) (wcount 1)) rfl)
      have e0 := (HT3.out.pr 1 rfl).1
      have e1 := (HT3.out.pr 1 rfl).2
      exact bodyPost_ret (v := .tuple #[vecO 1 b2, .int .i64 0]) (by simp [results, Try.results33, go_sem, e0, e1, vecO]) rfl ⟨_, rfl, by rw [HQ.out]; exact (HT3.out.vo 0 rfl HL.out (by decide)).vr (b2n_lt _), HT3.out.bel, Far.vec (HT3.out.far 0 rfl)⟩
end Go.Proofs.Ytmimafbedbohiaa
