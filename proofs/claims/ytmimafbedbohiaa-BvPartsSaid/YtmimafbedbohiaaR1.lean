import Derived.Test.YtmimafbedbohiaaB6
namespace Go.Proofs.Ytmimafbedbohiaa
set_option linter.unusedVariables false
open Go.RowKit

theorem ofB_less (f g : Nat → Bool) (i : Nat) (hi : f i ≠ g i) : ∀ n, i < n → (∀ j, i < j → j < n → f j = g j) → decide (ofB f n < ofB g n) = g i
  | 0, h, _ => absurd h (Nat.not_lt_zero _)
  | n + 1, h, he => by
    have h1 := ofB_lt f n
    have h2 := ofB_lt g n
    by_cases e : i = n
    · subst e
      rw [ofB, ofB]
      generalize ofB f i = x at *
      generalize ofB g i = y at *
      generalize 2 ^ i = z at *
      cases hf : f i <;> cases hg : g i <;> simp_all <;> omega
    · have ih := ofB_less f g i hi n (by omega) fun j a b => he j a (by omega)
      rw [ofB, ofB, he n (by omega) (by omega), ← ih]
      congr 1
      simp
theorem ofB_same (f g : Nat → Bool) (n : Nat) (h : ∀ j, j < n → f j = g j) : decide (ofB f n < ofB g n) = false := by
  rw [ofB_congr h]; simp

set_option maxRecDepth 100000 in
theorem rone_any (b : Bool) (w : World) : Calls Try.prog 71 #[.bool b] w (RetL w 1 fun _ => b) := by
  go_enter Try.func71, Try.ntmps71
  go_wp2_with fail
  go_ret
  exact ⟨_, rfl, RO.ofBlk (f := fun _ => b) (Blk.new 4 [.bool b]), Below.new _ _⟩

set_option maxRecDepth 100000 in
set_option maxHeartbeats 4000000 in
theorem rany_any {w : World} {va : Value} {n : Nat} {f : Nat → Bool} (hA : RO w va 1 n (bools (rl n f))) (hn : n ≤ 128) : Calls Try.prog 79 #[va] w fun e w' => e = .returned (.bool (nz (ofB f n))) ∧ w = w' := by
  have hni : (n : Int) ≤ 128 := by omega
  have HA := Lib.hid hA
  obtain ⟨pa, ca, rfl⟩ := hA.form
  clear hA hn
  go_enter Try.func79, Try.ntmps79
  go_wp2_with fail
  go_loopw [3] (fun i wr => ∃ k : Nat, k ≤ n ∧ i = .int .i64 k ∧ (∀ j, j < k → f j = false) ∧ w = wr) (fun i _ => n - (intOf i).toNat)
  case atStart => exact ⟨0, Nat.zero_le _, rfl, fun j hj => absurd hj (Nat.not_lt_zero _), rfl⟩
  case round =>
    obtain ⟨k, hk, rfl, hz, rfl⟩ := hrel
    have HZ := Lib.hid hz
    by_cases hlt : k < n
    · have hki : (k : Int) < n := by omega
      have hat := bools_at (rl n f) k (by rw [rl_length]; exact hlt)
      rw [rl_getD n f k hlt] at hat
      obtain ⟨bl, ol, rfl⟩ := HA.out.sl hat
      have f0 := HA.out.cell hat
      obtain ⟨q, hq⟩ : ∃ q, f k = q := ⟨_, rfl⟩
      have HQ := Lib.hid hq
      have HLT := Lib.hid hlt
      rw [hq] at f0
      clear hz hat hq hlt
      cases q
      · go_wp2_with fail
        go_roundw
        case rel => exact ⟨k + 1, HLT.out, by go_num, fun j hj => by
          by_cases e : j = k
          · subst e; exact HQ.out
          · exact HZ.out j (by omega), trivial⟩
        case measure => simp [intOf]; omega
      · have HF : Hid (nz (ofB f n) = true) := Lib.hid (by
          have : (ofB f n).testBit k = true := by rw [testBit_ofB, decide_eq_true HLT.out, HQ.out]; rfl
          unfold nz
          simp
          intro h0
          rw [h0] at this
          simp at this)
        go_wp2_with fail
        go_ret
        exact ⟨by rw [HF.out]; rfl, rfl⟩
    · obtain rfl : k = n := by omega
      have HF : Hid (nz (ofB f k) = false) := Lib.hid (by rw [ofB_none f k hz]; rfl)
      clear hz hlt
      go_wp2_with fail
      go_ret
      exact ⟨by rw [HF.out]; rfl, rfl⟩
end Go.Proofs.Ytmimafbedbohiaa
namespace Go.Proofs.Ytmimafbedbohiaa
set_option linter.unusedVariables false
open Go.RowKit


set_option maxRecDepth 100000 in
set_option maxHeartbeats 4000000 in
theorem rless_any {w : World} {va vb : Value} {n : Nat} {f g : Nat → Bool} (hA : RO w va 1 n (bools (rl n f))) (hB : RO w vb 1 n (bools (rl n g))) (hn : n ≤ 128) :
    Calls Try.prog 72 #[va, vb] w fun e w' => e = .returned (.bool (decide (ofB f n < ofB g n))) ∧ Below w.heap.size w w' := by
  have hni : (n : Int) ≤ 128 := by omega
  have q3 : IntKind.i64.wrap ((n : Int) - 1) = (n : Int) - 1 := IntWalk.i64_in _ (by omega)
  have HA := Lib.hid hA
  have HB := Lib.hid hB
  obtain ⟨pa, ca, rfl⟩ := hA.form
  obtain ⟨pb, cb, rfl⟩ := hB.form
  clear hA hB hn
  go_enter Try.func72, Try.ntmps72
  go_wp2_with fail
  go_loopw [5] (fun i wr => ∃ k : Nat, k ≤ n ∧ i = .int .i64 ((k : Int) - 1) ∧ (∀ j, k ≤ j → j < n → f j = g j) ∧ Below w.heap.size w wr) (fun i _ => (intOf i + 1).toNat)
  case atStart => exact ⟨n, Nat.le_refl _, rfl, fun j a b => absurd b (by omega), Below.refl _ _⟩
  case round =>
    obtain ⟨k, hk, rfl, hz, hbel⟩ := hrel
    have HBel := Lib.hid hbel
    have HZ := Lib.hid hz
    by_cases hlt : k = 0
    · subst hlt
      have HF : Hid (decide (ofB f n < ofB g n) = false) := Lib.hid (ofB_same f g n fun j hj => hz j (Nat.zero_le _) hj)
      clear hz hk hbel
      go_wp2_with fail
      go_ret
      exact ⟨by rw [HF.out]; rfl, HBel.out⟩
    · obtain ⟨i, rfl⟩ : ∃ i, k = i + 1 := ⟨k - 1, by omega⟩
      have hin : i < n := by omega
      have hii : (i : Int) < n := by omega
      have he : ((i + 1 : Nat) : Int) - 1 = (i : Int) := by omega
      rw [he]
      have hat := bools_at (rl n f) i (by rw [rl_length]; exact hin)
      rw [rl_getD n f i hin] at hat
      obtain ⟨bl, ol, rfl⟩ := (HA.out.below hbel).sl hat
      have f0 := (HA.out.below hbel).cell hat
      have hbt := bools_at (rl n g) i (by rw [rl_length]; exact hin)
      rw [rl_getD n g i hin] at hbt
      obtain ⟨bl2, ol2, rfl⟩ := (HB.out.below hbel).sl hbt
      have g0 := (HB.out.below hbel).cell hbt
      have HL := Lib.hid (fun hd => ofB_less f g i hd n hin fun j a b => hz j a b)
      obtain ⟨p, hp⟩ : ∃ p, f i = p := ⟨_, rfl⟩
      obtain ⟨q, hq⟩ : ∃ q, g i = q := ⟨_, rfl⟩
      have HPQ := Lib.hid (And.intro hp hq)
      have HIN := Lib.hid hin
      have hwr : IntKind.i64.wrap ((i : Int) - 1) = (i : Int) - 1 := IntWalk.i64_in _ (by omega)
      rw [hp] at f0
      rw [hq] at g0
      clear hbel hz hat hbt hp hq hin he hk hlt
      by_cases e : p = q
      · subst e
        have HZ2 : Hid (∀ j, i ≤ j → j < n → f j = g j) := Lib.hid fun j a b => by
          by_cases e : j = i
          · subst e; rw [HPQ.out.1, HPQ.out.2]
          · exact HZ.out j (by omega) b
        cases p
        · go_wp2_with fail
          go_quiet (fail)
          go_wp2_with fail
          go_roundw
          case rel => exact ⟨i, Nat.le_of_lt HIN.out, by go_num, HZ2.out, (HBel.out.trans (below_drewN _))⟩
          case measure => simp [intOf]
        · go_wp2_with fail
          go_quiet (fail)
          go_wp2_with fail
          go_roundw
          case rel => exact ⟨i, Nat.le_of_lt HIN.out, by go_num, HZ2.out, (HBel.out.trans (below_drewN _))⟩
          case measure => simp [intOf]
      · have HF : Hid (decide (ofB f n < ofB g n) = q) := Lib.hid (by
          rw [HL.out (by rw [HPQ.out.1, HPQ.out.2]; exact e), HPQ.out.2])
        cases p <;> cases q <;> simp at e
        · go_wp2_with fail
          go_quiet (fail)
          go_wp2_with fail
          go_ret
          exact ⟨by rw [HF.out]; rfl, (HBel.out.trans (below_drewN _))⟩
        · go_wp2_with fail
          go_quiet (fail)
          go_wp2_with fail
          go_ret
          exact ⟨by rw [HF.out]; rfl, (HBel.out.trans (below_drewN _))⟩
end Go.Proofs.Ytmimafbedbohiaa
namespace Go.Proofs.Ytmimafbedbohiaa
set_option linter.unusedVariables false
open Go.RowKit

def textF (n : Nat) (f : Nat → Bool) : ByteArray := ⟨((List.range n).map fun j => if f (n - 1 - j) then (49 : UInt8) else 48).toArray⟩
theorem textF_eq (n A : Nat) : textF n A.testBit = textS n A := rfl
theorem textF_size (n : Nat) (f : Nat → Bool) : (textF n f).size = n := by simp [textF, ByteArray.size]
theorem textF_succ (k : Nat) (f : Nat → Bool) : (⟨#[if f k then (49 : UInt8) else 48]⟩ : ByteArray) ++ textF k f = textF (k + 1) f := by
  apply ByteArray.ext
  apply Array.ext'
  simp only [ByteArray.data_append, textF, Array.toList_append, List.singleton_append]
  rw [List.range_succ_eq_map]
  simp only [List.map_cons, List.map_map]
  congr 1
  apply List.map_congr_left
  intro j hj
  have : k - 1 - j = k + 1 - 1 - (j + 1) := by omega
  simp only [Function.comp, this]

set_option maxRecDepth 100000 in
set_option maxHeartbeats 4000000 in
theorem rtext_any {w : World} {va : Value} {n : Nat} {f : Nat → Bool} (hA : RO w va 1 n (bools (rl n f))) (hn : n ≤ 128) : Calls Try.prog 58 #[va] w fun e w' => e = .returned (.string (textF n f)) ∧ w = w' := by
  have hni : (n : Int) ≤ 128 := by omega
  have HA := Lib.hid hA
  obtain ⟨pa, ca, rfl⟩ := hA.form
  clear hA hn
  go_enter Try.func58, Try.ntmps58
  go_wp2_with fail
  go_loopw [3, 4] (fun s i wr => ∃ k : Nat, k ≤ n ∧ i = .int .i64 k ∧ s = .string (textF k f) ∧ w = wr) (fun s i _ => n - (intOf i).toNat)
  case atStart => exact ⟨0, Nat.zero_le _, rfl, rfl, rfl⟩
  case round =>
    obtain ⟨k, hk, rfl, rfl, rfl⟩ := hrel
    by_cases hlt : k < n
    · have hki : (k : Int) < n := by omega
      have hat := bools_at (rl n f) k (by rw [rl_length]; exact hlt)
      rw [rl_getD n f k hlt] at hat
      obtain ⟨bl, ol, rfl⟩ := HA.out.sl hat
      have f0 := HA.out.cell hat
      have HT := Lib.hid (textF_succ k f)
      have HLT := Lib.hid hlt
      have hsz : ¬ 9223372036854775807 < 1 + (textF k f).size := by rw [textF_size]; omega
      generalize textF k f = s at *
      generalize f k = q at *
      clear hat hlt hk
      cases q
      · go_wp2_with fail
        exact ⟨⟨k + 1, HLT.out, by go_num, by rw [← HT.out]; rfl, trivial⟩, by simp [intOf]; omega⟩
      · go_wp2_with fail
        exact ⟨⟨k + 1, HLT.out, by go_num, by rw [← HT.out]; rfl, trivial⟩, by simp [intOf]; omega⟩
    · obtain rfl : k = n := by omega
      clear hlt
      go_wp2_with fail
      go_ret
      exact ⟨rfl, rfl⟩
end Go.Proofs.Ytmimafbedbohiaa
namespace Go.Proofs.Ytmimafbedbohiaa
set_option linter.unusedVariables false
open Go.RowKit

/-- the carry into bit j -/
def cB (f g : Nat → Bool) (c : Bool) : Nat → Bool
  | 0 => c
  | j + 1 => (f j && g j) || (f j && cB f g c j) || (g j && cB f g c j)
/-- bit j of the sum -/
def sB (f g : Nat → Bool) (c : Bool) (j : Nat) : Bool := (f j != g j) != cB f g c j
theorem sum_bits (f g : Nat → Bool) (c : Bool) : ∀ n, ofB f n + ofB g n + (if c then 1 else 0) = ofB (sB f g c) n + (if cB f g c n then 2 ^ n else 0)
  | 0 => by cases c <;> simp [ofB, cB]
  | n + 1 => by
    have ih := sum_bits f g c n
    rw [ofB, ofB, ofB, cB, sB, Nat.pow_succ]
    generalize ofB f n = x at *
    generalize ofB g n = y at *
    generalize ofB (sB f g c) n = z at *
    generalize 2 ^ n = p at *
    generalize cB f g c n = q at *
    generalize (if c = true then 1 else 0) = d at *
    cases f n <;> cases g n <;> cases q <;> simp_all <;> omega
theorem sum_mod (f g : Nat → Bool) (c : Bool) (n : Nat) : (ofB f n + ofB g n + (if c then 1 else 0)) % 2 ^ n = ofB (sB f g c) n := by
  rw [sum_bits]
  have := ofB_lt (sB f g c) n
  split
  · rw [Nat.add_mod_right, Nat.mod_eq_of_lt this]
  · rw [Nat.add_zero, Nat.mod_eq_of_lt this]

set_option maxRecDepth 100000 in
set_option maxHeartbeats 8000000 in
theorem rplus_any {w : World} {va vb : Value} {n : Nat} {f g : Nat → Bool} (c : Bool) (hA : RO w va 1 n (bools (rl n f))) (hB : RO w vb 1 n (bools (rl n g))) (hn : n ≤ 128) :
    Calls Try.prog 64 #[va, vb, .bool c] w (RetL w n (sB f g c)) := by
  have hni : (n : Int) ≤ 128 := by omega
  have HA := Lib.hid hA
  have HB := Lib.hid hB
  obtain ⟨pa, ca, rfl⟩ := hA.form
  obtain ⟨pb, cb, rfl⟩ := hB.form
  have hmk := fun w => mk_bools n (by omega) w
  clear hA hB hn
  go_enter Try.func64, Try.ntmps64
  go_wp2_with fail
  have k1 := Blk.new (w := w) 4 (bools (List.replicate n false))
  have hb : Below w.heap.size w (w.alloc (.cells (bools (List.replicate n false)).toArray 4)) := Below.new _ _
  have HK := Lib.hid (And.intro k1 hb)
  clear k1 hb hmk
  generalize w.alloc (.cells (bools (List.replicate n false)).toArray 4) = W at *
  go_loopw [2, 8] (fun d i wr => ∃ k : Nat, k ≤ n ∧ i = .int .i64 k ∧ d = .bool (cB f g c k) ∧ Blk wr w.heap.size 4 (bools (rl n fun j => decide (j < k) && sB f g c j)) ∧ Below w.heap.size w wr) (fun d i _ => n - (intOf i).toNat)
  case atStart =>
    refine ⟨0, Nat.zero_le _, rfl, rfl, ?_, HK.out.2⟩
    have : (rl n fun j => decide (j < 0) && sB f g c j) = List.replicate n false := by rw [← rl_false]; exact rl_congr fun i _ => by simp
    rw [this]; exact HK.out.1
  case round =>
    obtain ⟨k, hk, rfl, rfl, h1, hbel⟩ := hrel
    have HR := Lib.hid (And.intro h1 hbel)
    by_cases hlt : k < n
    · have hki : (k : Int) < n := by omega
      have HS : Hid ((bools (rl n fun j => decide (j < k) && sB f g c j)).set k (.bool (sB f g c k)) = bools (rl n fun j => decide (j < k + 1) && sB f g c j)) := Lib.hid (by
        rw [bools_set, rl_set]
        congr 1
        exact rl_congr fun i hi => by
          by_cases e : i = k
          · subst e; simp
          · by_cases e2 : i < k
            · have : i < k + 1 := by omega
              simp [e, e2, this]
            · have : ¬ i < k + 1 := by omega
              simp [e, e2, this])
      have hat := bools_at (rl n f) k (by rw [rl_length]; exact hlt)
      rw [rl_getD n f k hlt] at hat
      obtain ⟨bl, ol, rfl⟩ := (HA.out.below hbel).sl hat
      have f0 := (HA.out.below hbel).cell hat
      have hbt := bools_at (rl n g) k (by rw [rl_length]; exact hlt)
      rw [rl_getD n g k hlt] at hbt
      obtain ⟨bl2, ol2, rfl⟩ := (HB.out.below hbel).sl hbt
      have g0 := (HB.out.below hbel).cell hbt
      have hgb := World.block_lt_of_cell? _ _ (HB.out.cell hbt)
      have d0 := h1.cell (bools_at (rl n fun j => decide (j < k) && sB f g c j) k (by rw [rl_length]; exact hlt))
      have d1 := h1.frz k
      have hX : sB f g c k = ((f k != g k) != cB f g c k) := rfl
      have hY : cB f g c (k + 1) = ((f k && g k) || (f k && cB f g c k) || (g k && cB f g c k)) := rfl
      have HXY := Lib.hid (And.intro hX hY)
      clear hX hY
      generalize f k = p at *
      generalize g k = q at *
      generalize cB f g c k = r at *
      have HLT := Lib.hid hlt
      clear h1 hbel hat hbt hlt hk
      cases p <;> cases q <;> cases r
      all_goals
        (have HE : Hid (∀ t u : Bool, t = sB f g c k → u = cB f g c (k + 1) → ∃ k' : Nat, k' ≤ n ∧ Value.int .i64 ((k : Int) + 1) = .int .i64 k' ∧ Value.bool u = .bool (cB f g c k') ∧ Blk (wr.setCell ⟨w.heap.size, k, none⟩ (.bool t)) w.heap.size 4 (bools (rl n fun j => decide (j < k') && sB f g c j)) ∧ Below w.heap.size w (wr.setCell ⟨w.heap.size, k, none⟩ (.bool t))) := Lib.hid (by
          rintro t u rfl rfl
          exact ⟨k + 1, HLT.out, by go_num, rfl, by rw [← HS.out]; exact HR.out.1.set k _, HR.out.2.setCell (Nat.le_refl _) _⟩)
         have HXY2 := Lib.hid HXY.out
         go_wp2_with fail
         go_roundw
         case rel => exact HE.out _ _ HXY.out.1.symm HXY.out.2.symm
         case measure => simp [intOf]; omega)
    · obtain rfl : k = n := by omega
      have hfin : (rl k fun j => decide (j < k) && sB f g c j) = rl k (sB f g c) := rl_congr fun i hi => by simp [hi]
      have HF := Lib.hid hfin
      clear h1 hbel hlt hfin
      go_wp2_with fail
      go_ret
      exact ⟨_, rfl, by rw [← HF.out]; exact RO.ofBlk HR.out.1, HR.out.2⟩
end Go.Proofs.Ytmimafbedbohiaa
namespace Go.Proofs.Ytmimafbedbohiaa
set_option linter.unusedVariables false
open Go.RowKit

/-- bit j of f moved by s, what comes in is q -/
def moveF (f : Nat → Bool) (n : Nat) (s : Int) (q : Bool) (j : Nat) : Bool := if 0 ≤ (j : Int) - s ∧ (j : Int) - s < n then f ((j : Int) - s).toNat else q

set_option maxRecDepth 100000 in
set_option maxHeartbeats 8000000 in
theorem rmove_any {w : World} {va : Value} {n : Nat} {f : Nat → Bool} (s : Int) (q : Bool) (hs0 : -200 ≤ s) (hs1 : s ≤ 200) (hA : RO w va 1 n (bools (rl n f))) (hn : n ≤ 128) :
    Calls Try.prog 69 #[va, .int .i64 s, .bool q] w (RetL w n (moveF f n s q)) := by
  have hni : (n : Int) ≤ 128 := by omega
  have HA := Lib.hid hA
  obtain ⟨pa, ca, rfl⟩ := hA.form
  have hmk := fun w => mk_bools n (by omega) w
  clear hA hn
  go_enter Try.func69, Try.ntmps69
  go_wp2_with fail
  have k1 := Blk.new (w := w) 4 (bools (List.replicate n false))
  have hb : Below w.heap.size w (w.alloc (.cells (bools (List.replicate n false)).toArray 4)) := Below.new _ _
  have HK := Lib.hid (And.intro k1 hb)
  clear k1 hb hmk
  generalize w.alloc (.cells (bools (List.replicate n false)).toArray 4) = W at *
  go_loopw [8] (fun i wr => ∃ k : Nat, k ≤ n ∧ i = .int .i64 k ∧ Blk wr w.heap.size 4 (bools (rl n fun j => decide (j < k) && moveF f n s q j)) ∧ Below w.heap.size w wr) (fun i _ => n - (intOf i).toNat)
  case atStart =>
    refine ⟨0, Nat.zero_le _, rfl, ?_, HK.out.2⟩
    have : (rl n fun j => decide (j < 0) && moveF f n s q j) = List.replicate n false := by rw [← rl_false]; exact rl_congr fun i _ => by simp
    rw [this]; exact HK.out.1
  case round =>
    obtain ⟨k, hk, rfl, h1, hbel⟩ := hrel
    have HR := Lib.hid (And.intro h1 hbel)
    by_cases hlt : k < n
    · have hki : (k : Int) < n := by omega
      have HS : Hid (∀ t, t = moveF f n s q k → (bools (rl n fun j => decide (j < k) && moveF f n s q j)).set k (.bool t) = bools (rl n fun j => decide (j < k + 1) && moveF f n s q j)) := Lib.hid (by
        rintro t rfl
        rw [bools_set, rl_set]
        congr 1
        exact rl_congr fun i hi => by
          by_cases e : i = k
          · subst e; simp
          · by_cases e2 : i < k
            · have : i < k + 1 := by omega
              simp [e, e2, this]
            · have : ¬ i < k + 1 := by omega
              simp [e, e2, this])
      have d0 := h1.cell (bools_at (rl n fun j => decide (j < k) && moveF f n s q j) k (by rw [rl_length]; exact hlt))
      have d1 := h1.frz k
      have hwr : IntKind.i64.wrap ((k : Int) - s) = (k : Int) - s := IntWalk.i64_in _ (by omega)
      have HLT := Lib.hid hlt
      have HE : Hid (∀ wq : World, (∃ t, t = moveF f n s q k ∧ Blk wq w.heap.size 4 ((bools (rl n fun j => decide (j < k) && moveF f n s q j)).set k (.bool t)) ∧ Below w.heap.size w wq) → ∃ k' : Nat, k' ≤ n ∧ Value.int .i64 ((k : Int) + 1) = .int .i64 k' ∧ Blk wq w.heap.size 4 (bools (rl n fun j => decide (j < k') && moveF f n s q j)) ∧ Below w.heap.size w wq) := Lib.hid (by
        rintro wq ⟨t, ht, hb, hbl⟩
        exact ⟨k + 1, HLT.out, by go_num, by rw [← HS.out t ht]; exact hb, hbl⟩)
      by_cases hin : 0 ≤ (k : Int) - s ∧ (k : Int) - s < n
      · obtain ⟨i, hi⟩ : ∃ i : Nat, (k : Int) - s = i := ⟨((k : Int) - s).toNat, by omega⟩
        have hi2 : (i : Int) < n := by omega
        have hM : moveF f n s q k = f i := by unfold moveF; rw [if_pos hin, hi]; rfl
        have HM := Lib.hid hM
        have hat := bools_at (rl n f) i (by rw [rl_length]; omega)
        rw [rl_getD n f i (by omega)] at hat
        have f0 := (HA.out.below hbel)
        obtain ⟨bl, ol, rfl⟩ := f0.sl hat
        have g0 := f0.cell hat
        have hgb := World.block_lt_of_cell? _ _ (HA.out.cell hat)
        dsimp only at hgb
        have hne : ¬ bl = w.heap.size := by omega
        have g1 : (wr.setCell ⟨w.heap.size, k, none⟩ (.bool q)).cell? ⟨bl, ol + i, none⟩ = some (.bool (f i)) := (World.cell?_setCell_far wr ⟨w.heap.size, k, none⟩ ⟨bl, ol + i, none⟩ (.bool q) (fun e => hne e.symm)).trans g0
        rw [hi] at hwr
        generalize f i = t at *
        clear h1 hbel hat hlt hk f0 hin hM hgb
        go_wp2_with fail
        go_roundw
        case rel => exact HE.out _ ⟨t, HM.out.symm, by have := (HR.out.1.set k (.bool q)).set k (.bool t); rwa [List.set_set] at this, (HR.out.2.setCell (Nat.le_refl _) _).setCell (Nat.le_refl _) _⟩
        case measure => simp [intOf]; omega
      · have hM : moveF f n s q k = q := by unfold moveF; rw [if_neg hin]
        have HM := Lib.hid hM
        by_cases h0 : 0 ≤ (k : Int) - s
        · have h2 : (n : Int) ≤ (k : Int) - s := by omega
          clear h1 hbel hlt hk hin hM
          go_wp2_with fail
          go_roundw
          case rel => exact HE.out _ ⟨q, HM.out.symm, HR.out.1.set k _, HR.out.2.setCell (Nat.le_refl _) _⟩
          case measure => simp [intOf]; omega
        · have h2 : (k : Int) - s < 0 := by omega
          have h3 : decide (0 ≤ (k : Int) - s) = false := by simp; omega
          clear h1 hbel hlt hk hin hM h0
          go_wp2_with fail
          go_roundw
          case rel => exact HE.out _ ⟨q, HM.out.symm, HR.out.1.set k _, HR.out.2.setCell (Nat.le_refl _) _⟩
          case measure => simp [intOf]; omega
    · obtain rfl : k = n := by omega
      have hfin : (rl k fun j => decide (j < k) && moveF f k s q j) = rl k (moveF f k s q) := rl_congr fun i hi => by simp [hi]
      have HF := Lib.hid hfin
      clear h1 hbel hlt hfin
      go_wp2_with fail
      go_ret
      exact ⟨_, rfl, by rw [← HF.out]; exact RO.ofBlk HR.out.1, HR.out.2⟩
end Go.Proofs.Ytmimafbedbohiaa
namespace Go.Proofs.Ytmimafbedbohiaa
set_option linter.unusedVariables false
open Go.RowKit

set_option maxRecDepth 100000 in
set_option maxHeartbeats 8000000 in
theorem rneg_any {w : World} {va : Value} {n : Nat} {f : Nat → Bool} (hA : RO w va 1 n (bools (rl n f))) (hn : n ≤ 128) :
    Calls Try.prog 78 #[va] w (RetL w n (sB (fun j => !(f j)) (fun _ => false) true)) := by
  have hni : (n : Int) ≤ 128 := by omega
  have HNot := Lib.hid (fun w' (hb : Below w.heap.size w w') => rnot_any (hA.below hb) hn)
  obtain ⟨pa, ca, rfl⟩ := hA.form
  have hmk := fun w => mk_bools n (by omega) w
  have HPlus := Lib.hid (fun (w' : World) (v1 v2 : Value) (h1 : RO w' v1 1 n (bools (rl n fun j => !(f j)))) (h2 : RO w' v2 1 n (bools (rl n fun _ => false))) => rplus_any true h1 h2 hn)
  have HMk : Hid (∀ w' : World, RO (w'.alloc (.cells (bools (List.replicate n false)).toArray 4)) (.slice (some ⟨w'.heap.size, 0, none⟩) n n) 1 n (bools (rl n fun _ => false))) := Lib.hid fun w' => by
    have := Blk.new (w := w') 4 (bools (List.replicate n false))
    rw [← rl_false] at this ⊢
    exact RO.ofBlk this
  clear hA hn
  go_enter Try.func78, Try.ntmps78
  go_wp2_with fail
  have hb0 : Hid (Below w.heap.size w w.drew) := Lib.hid (Below.refl _ _).drew
  go_region_with (first
    | (go_at_call 65; refine (HNot.out _ (by first | exact hb0.out | exact hb0.out.alloc (Nat.le_refl _) _)).mono ?_; rintro e w1 ⟨v1, rfl, hr1, hb1⟩; have H1 := Lib.hid (And.intro hr1 hb1); clear hr1 hb1)
    | (go_at_call 64; refine (HPlus.out _ _ _ (by first | exact H1.out.1.below (Below.new _ _) | exact H1.out.1) (by first | exact HMk.out w1 | exact (HMk.out w.drew).below H1.out.2)).mono ?_; rintro e w2 ⟨v2, rfl, hr2, hb2⟩; have H2 := Lib.hid (And.intro hr2 hb2); clear hr2 hb2))
  all_goals go_wp2_with fail
  all_goals go_ret
  · exact ⟨_, rfl, H2.out.1, by first | exact Below.next ((Below.next hb0.out H1.out.2).alloc (Below.next hb0.out H1.out.2).size _) H2.out.2 | exact Below.next (Below.next (hb0.out.alloc (Nat.le_refl _) _) H1.out.2) H2.out.2⟩
  · exact ⟨_, rfl, H2.out.1, by first | exact Below.next ((Below.next hb0.out H1.out.2).alloc (Below.next hb0.out H1.out.2).size _) H2.out.2 | exact Below.next (Below.next (hb0.out.alloc (Nat.le_refl _) _) H1.out.2) H2.out.2⟩
end Go.Proofs.Ytmimafbedbohiaa
namespace Go.Proofs.Ytmimafbedbohiaa
set_option linter.unusedVariables false
open Go.RowKit

theorem ofB_inj {f g : Nat → Bool} {n : Nat} (h : ofB f n = ofB g n) (i : Nat) (hi : i < n) : f i = g i := by
  have h1 := testBit_ofB f n i
  have h2 := testBit_ofB g n i
  rw [h, h2] at h1
  simpa [hi] using h1.symm

theorem requal_diff {w : World} {va vb : Value} {n m : Nat} {f g : Nat → Bool} (hA : RO w va 1 n (bools (rl n f))) (hB : RO w vb 1 m (bools (rl m g))) (hne : n ≠ m) :
    Calls Try.prog 41 #[va, vb] w fun e w' => e = .returned (.bool false) ∧ w = w' := by
  have hd : ((n : Int) != m) = true := by simp; omega
  obtain ⟨pa, ca, rfl⟩ := hA.form
  obtain ⟨pb, cb, rfl⟩ := hB.form
  clear hA hB
  go_enter Try.func41, Try.ntmps41
  go_wp2_with fail
  go_ret
  exact ⟨rfl, rfl⟩

set_option maxRecDepth 100000 in
set_option maxHeartbeats 4000000 in
theorem requal_any {w : World} {va vb : Value} {n : Nat} {f g : Nat → Bool} (hA : RO w va 1 n (bools (rl n f))) (hB : RO w vb 1 n (bools (rl n g))) (hn : n ≤ 140) :
    Calls Try.prog 41 #[va, vb] w fun e w' => e = .returned (.bool (decide (ofB f n = ofB g n))) ∧ Below w.heap.size w w' := by
  have hni : (n : Int) ≤ 140 := by omega
  have HA := Lib.hid hA
  have HB := Lib.hid hB
  obtain ⟨pa, ca, rfl⟩ := hA.form
  obtain ⟨pb, cb, rfl⟩ := hB.form
  clear hA hB hn
  go_enter Try.func41, Try.ntmps41
  go_wp2_with fail
  go_loopw [5] (fun i wr => ∃ k : Nat, k ≤ n ∧ i = .int .i64 k ∧ (∀ j, j < k → f j = g j) ∧ Below w.heap.size w wr) (fun i _ => n - (intOf i).toNat)
  case atStart => exact ⟨0, Nat.zero_le _, rfl, fun j hj => absurd hj (Nat.not_lt_zero _), Below.refl _ _⟩
  case round =>
    obtain ⟨k, hk, rfl, hz, hbel⟩ := hrel
    have HZ := Lib.hid hz
    have HBel := Lib.hid hbel
    by_cases hlt : k < n
    · have hki : (k : Int) < n := by omega
      have hat := bools_at (rl n f) k (by rw [rl_length]; exact hlt)
      rw [rl_getD n f k hlt] at hat
      obtain ⟨bl, ol, rfl⟩ := (HA.out.below hbel).sl hat
      have f0 := (HA.out.below hbel).cell hat
      have hbt := bools_at (rl n g) k (by rw [rl_length]; exact hlt)
      rw [rl_getD n g k hlt] at hbt
      obtain ⟨bl2, ol2, rfl⟩ := (HB.out.below hbel).sl hbt
      have g0 := (HB.out.below hbel).cell hbt
      obtain ⟨p, hp⟩ : ∃ p, f k = p := ⟨_, rfl⟩
      obtain ⟨q, hq⟩ : ∃ q, g k = q := ⟨_, rfl⟩
      have HPQ := Lib.hid (And.intro hp hq)
      have HLT := Lib.hid hlt
      rw [hp] at f0
      rw [hq] at g0
      clear hz hat hbt hp hq hlt hbel
      by_cases e : p = q
      · subst e
        have HZ2 : Hid (∀ j, j < k + 1 → f j = g j) := Lib.hid fun j b => by
          by_cases e : j = k
          · subst e; rw [HPQ.out.1, HPQ.out.2]
          · exact HZ.out j (by omega)
        cases p
        all_goals
          go_wp2_with fail
          go_quiet (fail)
          go_wp2_with fail
          go_roundw
          case rel => exact ⟨k + 1, HLT.out, by go_num, HZ2.out, (HBel.out.trans (below_drewN _))⟩
          case measure => simp [intOf]; omega
      · have HF : Hid (decide (ofB f n = ofB g n) = false) := Lib.hid (by
          rw [decide_eq_false]
          intro h
          exact e (by rw [← HPQ.out.1, ← HPQ.out.2]; exact ofB_inj h k HLT.out))
        cases p <;> cases q <;> simp at e
        all_goals
          go_wp2_with fail
          go_quiet (fail)
          go_wp2_with fail
          go_ret
          exact ⟨by rw [HF.out]; rfl, (HBel.out.trans (below_drewN _))⟩
    · obtain rfl : k = n := by omega
      have HF : Hid (decide (ofB f k = ofB g k) = true) := Lib.hid (decide_eq_true (ofB_congr hz))
      clear hz hlt hbel
      go_wp2_with fail
      go_ret
      exact ⟨by rw [HF.out]; rfl, HBel.out⟩
end Go.Proofs.Ytmimafbedbohiaa
namespace Go.Proofs.Ytmimafbedbohiaa
set_option linter.unusedVariables false
open Go.RowKit

theorem div_bit (f : Nat → Bool) (n i : Nat) (hi : i < n) : ofB f n / 2 ^ i = 2 * (ofB f n / 2 ^ (i + 1)) + (if f i then 1 else 0) := by
  have h1 : ofB f n / 2 ^ (i + 1) = ofB f n / 2 ^ i / 2 := by rw [Nat.pow_succ, Nat.div_div_eq_div_mul]
  have h2 := testBit_ofB f n i
  rw [decide_eq_true hi, Bool.true_and, Nat.testBit_eq_decide_div_mod_eq] at h2
  rw [h1]
  generalize ofB f n / 2 ^ i = q at *
  cases hf : f i <;> simp [hf] at h2 ⊢ <;> omega

set_option maxRecDepth 100000 in
set_option maxHeartbeats 8000000 in
theorem rnum_any {w : World} {va : Value} {n : Nat} {f : Nat → Bool} (hA : RO w va 1 n (bools (rl n f))) (hn : n ≤ 140) (most : Int) (hm : -9223372036854775808 ≤ most ∧ most ≤ 9223372036854775807) :
    Calls Try.prog 23 #[va, .int .i64 most] w fun e w' => e = .returned (.int .i64 (min ((ofB f n : Nat) : Int) (max most 0))) ∧ w = w' := by
  have hni : (n : Int) ≤ 140 := by omega
  have HA := Lib.hid hA
  obtain ⟨pa, ca, rfl⟩ := hA.form
  have q3 : IntKind.i64.wrap ((n : Int) - 1) = (n : Int) - 1 := IntWalk.i64_in _ (by omega)
  obtain ⟨M, hM⟩ : ∃ M : Int, max most 0 = M := ⟨_, rfl⟩
  have hM0 : 0 ≤ M := by omega
  have HM1 := Lib.hid (show M ≤ 9223372036854775807 by omega)
  have HN : Hid (ofB f n / 2 ^ n = 0) := Lib.hid (Nat.div_eq_of_lt (ofB_lt f n))
  have HMin : Hid (∀ k : Nat, M < ((ofB f n / 2 ^ k : Nat) : Int) → min ((ofB f n : Nat) : Int) M = M) := Lib.hid fun k hk => by
    have := Nat.div_le_self (ofB f n) (2 ^ k)
    omega
  have HMin2 : Hid (((ofB f n : Nat) : Int) ≤ M → min ((ofB f n : Nat) : Int) M = ((ofB f n : Nat) : Int)) := Lib.hid fun h => by omega
  have HDiv := Lib.hid (div_bit f n)
  rw [hM]
  have HX := Lib.hid hA
  clear hA
  have HLoop : Hid (∀ wL : World, True) := Lib.hid fun _ => trivial
  by_cases hneg : most < 0
  · obtain rfl : M = 0 := by omega
    clear hn hm hM
    go_enter Try.func23, Try.ntmps23
    go_wp2_with fail
    go_loopw [5, 6, 7] (fun acc i b wr => ∃ k N : Nat, k ≤ n ∧ i = .int .i64 ((k : Int) - 1) ∧ acc = .int .i64 N ∧ ofB f n / 2 ^ k = N ∧ (N : Int) ≤ (0 : Int) ∧ w = wr) (fun acc i b _ => (intOf i + 1).toNat)
    case atStart => exact ⟨n, 0, Nat.le_refl _, rfl, rfl, HN.out, hM0, rfl⟩
    case round =>
      obtain ⟨k, N, hk, rfl, rfl, hz, hNM, rfl⟩ := hrel
      have HZ := Lib.hid hz
      have HNM := Lib.hid hNM
      by_cases hlt : k = 0
      · subst hlt
        have HF : Hid (min ((ofB f n : Nat) : Int) (0 : Int) = N) := Lib.hid (by
          have : ofB f n = N := by simpa using hz
          rw [HMin2.out (by omega)]; omega)
        clear hz hk hNM
        go_wp2_with fail
        go_ret
        exact ⟨by rw [HF.out]; rfl, rfl⟩
      · obtain ⟨i, rfl⟩ : ∃ i, k = i + 1 := ⟨k - 1, by omega⟩
        have hin : i < n := by omega
        have hii : (i : Int) < n := by omega
        have he : ((i + 1 : Nat) : Int) - 1 = (i : Int) := by omega
        rw [he]
        have hat := bools_at (rl n f) i (by rw [rl_length]; exact hin)
        rw [rl_getD n f i hin] at hat
        obtain ⟨bl, ol, rfl⟩ := HA.out.sl hat
        have f0 := HA.out.cell hat
        have hD := HDiv.out i hin
        rw [hz] at hD
        have HIN := Lib.hid hin
        have hwr : IntKind.i64.wrap ((i : Int) - 1) = (i : Int) - 1 := IntWalk.i64_in _ (by omega)
        have hMb := HM1.out
        obtain ⟨q, hq⟩ : ∃ q, f i = q := ⟨_, rfl⟩
        rw [hq] at f0 hD
        clear hz hat hk hlt he hin hq
        cases q
        all_goals
          simp only [if_true, if_false, Bool.false_eq_true] at hD
          have HD := Lib.hid hD
          clear hD
          obtain rfl : N = 0 := by omega
          clear hNM hMb
          go_wp2_with fail
          first
            | (go_ret; exact ⟨by rw [HMin.out i (by rw [HD.out]; decide)]; rfl, rfl⟩)
            | (go_roundw
               case rel => exact ⟨i, _, Nat.le_of_lt HIN.out, by go_num, rfl, HD.out, by simp, trivial⟩
               case measure => simp [intOf])
  · have hnn : 0 ≤ most := by omega
    obtain rfl : most = M := by omega
    clear hn hm hM hneg
    go_enter Try.func23, Try.ntmps23
    go_wp2_with fail
    go_loopw [5, 6, 7] (fun acc i b wr => ∃ k N : Nat, k ≤ n ∧ i = .int .i64 ((k : Int) - 1) ∧ acc = .int .i64 N ∧ ofB f n / 2 ^ k = N ∧ (N : Int) ≤ most ∧ w = wr) (fun acc i b _ => (intOf i + 1).toNat)
    case atStart => exact ⟨n, 0, Nat.le_refl _, rfl, rfl, HN.out, hM0, rfl⟩
    case round =>
      obtain ⟨k, N, hk, rfl, rfl, hz, hNM, rfl⟩ := hrel
      have HZ := Lib.hid hz
      have HNM := Lib.hid hNM
      by_cases hlt : k = 0
      · subst hlt
        have HF : Hid (min ((ofB f n : Nat) : Int) most = N) := Lib.hid (by
          have : ofB f n = N := by simpa using hz
          rw [HMin2.out (by omega)]; omega)
        clear hz hk hNM
        go_wp2_with fail
        go_ret
        exact ⟨by rw [HF.out]; rfl, rfl⟩
      · obtain ⟨i, rfl⟩ : ∃ i, k = i + 1 := ⟨k - 1, by omega⟩
        have hin : i < n := by omega
        have hii : (i : Int) < n := by omega
        have he : ((i + 1 : Nat) : Int) - 1 = (i : Int) := by omega
        rw [he]
        have hat := bools_at (rl n f) i (by rw [rl_length]; exact hin)
        rw [rl_getD n f i hin] at hat
        obtain ⟨bl, ol, rfl⟩ := HA.out.sl hat
        have f0 := HA.out.cell hat
        have hD := HDiv.out i hin
        rw [hz] at hD
        have HIN := Lib.hid hin
        have hwr : IntKind.i64.wrap ((i : Int) - 1) = (i : Int) - 1 := IntWalk.i64_in _ (by omega)
        have hMb := HM1.out
        obtain ⟨q, hq⟩ : ∃ q, f i = q := ⟨_, rfl⟩
        rw [hq] at f0 hD
        clear hz hat hk hlt he hin hq
        cases q
        · simp only [if_false, Bool.false_eq_true] at hD
          have HD := Lib.hid hD
          clear hD
          have ht : most.tdiv 2 = most / 2 := Int.tdiv_eq_ediv_of_nonneg hnn
          have hwd : IntKind.i64.wrap (most / 2) = most / 2 := IntWalk.i64_in _ (by omega)
          by_cases hgt : most / 2 < (N : Int)
          · clear hNM hMb
            go_wp2_with fail
            go_ret
            exact ⟨by rw [HMin.out i (by rw [HD.out]; omega)]; rfl, rfl⟩
          · have hgd : decide (most / 2 < (N : Int)) = false := decide_eq_false hgt
            have h2N : IntKind.i64.wrap (2 * (N : Int)) = 2 * (N : Int) := IntWalk.i64_in _ (by omega)
            have hm0 : IntKind.i64.wrap most = most := IntWalk.i64_in _ (by omega)
            have hm1 : IntKind.i64.wrap (most - 1) = most - 1 := IntWalk.i64_in _ (by omega)
            have hs : IntKind.i64.wrap (2 * (N : Int) + 1) = 2 * (N : Int) + 1 := IntWalk.i64_in _ (by omega)
            by_cases hg2 : most < 2 * (N : Int)
            · clear hNM hMb hgt
              go_wp2_with fail
              go_ret
              exact ⟨by rw [HMin.out i (by rw [HD.out]; omega)]; rfl, rfl⟩
            · have hgd2 : decide (most < 2 * (N : Int)) = false := decide_eq_false hg2
              clear hMb hgt
              go_wp2_with fail
              go_roundw
              case rel => exact ⟨i, _, Nat.le_of_lt HIN.out, by go_num, by congr 1, HD.out, by omega, trivial⟩
              case measure => simp [intOf]
        · simp only [if_true] at hD
          have HD := Lib.hid hD
          clear hD
          have ht : most.tdiv 2 = most / 2 := Int.tdiv_eq_ediv_of_nonneg hnn
          have hwd : IntKind.i64.wrap (most / 2) = most / 2 := IntWalk.i64_in _ (by omega)
          by_cases hgt : most / 2 < (N : Int)
          · clear hNM hMb
            go_wp2_with fail
            go_ret
            exact ⟨by rw [HMin.out i (by rw [HD.out]; omega)]; rfl, rfl⟩
          · have hgd : decide (most / 2 < (N : Int)) = false := decide_eq_false hgt
            have h2N : IntKind.i64.wrap (2 * (N : Int)) = 2 * (N : Int) := IntWalk.i64_in _ (by omega)
            have hm0 : IntKind.i64.wrap most = most := IntWalk.i64_in _ (by omega)
            have hm1 : IntKind.i64.wrap (most - 1) = most - 1 := IntWalk.i64_in _ (by omega)
            have hs : IntKind.i64.wrap (2 * (N : Int) + 1) = 2 * (N : Int) + 1 := IntWalk.i64_in _ (by omega)
            by_cases hg2 : most - 1 < 2 * (N : Int)
            · clear hNM hMb hgt
              go_wp2_with fail
              go_ret
              exact ⟨by rw [HMin.out i (by rw [HD.out]; omega)]; rfl, rfl⟩
            · have hgd2 : decide (most - 1 < 2 * (N : Int)) = false := decide_eq_false hg2
              clear hMb hgt
              go_wp2_with fail
              go_roundw
              case rel => exact ⟨i, _, Nat.le_of_lt HIN.out, by go_num, by congr 1, HD.out, by omega, trivial⟩
              case measure => simp [intOf]
end Go.Proofs.Ytmimafbedbohiaa
