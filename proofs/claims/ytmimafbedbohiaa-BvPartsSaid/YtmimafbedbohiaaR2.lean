import Derived.Test.YtmimafbedbohiaaR1
import Derived.Test.YtmimafbedbohiaaB11
import Derived.Test.YtmimafbedbohiaaQ1
import Derived.Deep.CutRange
namespace Go.Proofs.Ytmimafbedbohiaa
set_option linter.unusedVariables false
open Go.RowKit

theorem ofB_mod' (x n : Nat) : ofB x.testBit n = x % 2 ^ n := by
  apply eq_bits; intro j
  rw [testBit_ofB, mod_bit]
/-- a list of n bits that is the number x -/
def LN (w : World) (v : Value) (n x : Nat) : Prop := ∃ f, RO w v 1 n (bools (rl n f)) ∧ ofB f n = x
theorem LN.of {w : World} {v : Value} {n : Nat} {f : Nat → Bool} (h : RO w v 1 n (bools (rl n f))) : LN w v n (ofB f n) := ⟨f, h, rfl⟩
theorem LN.lt {w v n x} (h : LN w v n x) : x < 2 ^ n := by obtain ⟨f, _, rfl⟩ := h; exact ofB_lt _ _
theorem LN.below {w w' : World} {v n x} (h : LN w v n x) (hb : Below w.heap.size w w') : LN w' v n x := by obtain ⟨f, h, e⟩ := h; exact ⟨f, h.below hb, e⟩
theorem LN.form {w v n x} (h : LN w v n x) : ∃ p c, v = .slice p n c := by obtain ⟨f, h, _⟩ := h; exact h.form
theorem LN.bits {w v n x} (h : LN w v n x) : RO w v 1 n (bools (rl n x.testBit)) := by
  obtain ⟨f, h, rfl⟩ := h
  rwa [show rl n (ofB f n).testBit = rl n f from rl_congr fun i hi => by rw [testBit_ofB]; simp [hi]]
/-- a list of bits is returned -/
def RetN (w : World) (n x : Nat) (e : Ending) (w' : World) : Prop := ∃ v, e = .returned v ∧ LN w' v n x ∧ Below w.heap.size w w'
theorem RetL.n {w : World} {n : Nat} {f : Nat → Bool} {e : Ending} {w' : World} {x : Nat} (h : RetL w n f e w') (hx : ofB f n = x) : RetN w n x e w' := by
  obtain ⟨v, he, hr, hb⟩ := h
  exact ⟨v, he, ⟨f, hr, hx⟩, hb⟩
/-- a list of bits in a new block is returned -/
def RetLF (w : World) (n : Nat) (f : Nat → Bool) (e : Ending) (w' : World) : Prop := ∃ b, e = .returned (.slice (some ⟨b, 0, none⟩) n n) ∧ Blk w' b 4 (bools (rl n f)) ∧ w.heap.size ≤ b ∧ Below w.heap.size w w'
theorem ofB_not (f : Nat → Bool) (n : Nat) : ofB (fun j => !(f j)) n = notN n (ofB f n) := by
  apply eq_bits; intro j
  rw [testBit_ofB, notN_bit (ofB_lt f n), testBit_ofB]
  by_cases h : j < n <;> simp [h]
set_option maxRecDepth 100000 in
set_option maxHeartbeats 4000000 in
theorem rnot9 {w : World} {va : Value} {n : Nat} {f : Nat → Bool} (hA : RO w va 1 n (bools (rl n f))) (hn : n ≤ 129) : Calls Try.prog 65 #[va] w (RetL w n fun j => !(f j)) := by
  have hni : (n : Int) ≤ 129 := by omega
  have HA := Lib.hid hA
  obtain ⟨pa, ca, rfl⟩ := hA.form
  have hmk := fun w => mk_bools n (by omega) w
  clear hA hn
  go_enter Try.func65, Try.ntmps65
  go_wp2_with fail
  have k1 := Blk.new (w := w) 4 (bools (List.replicate n false))
  have hb : Below w.heap.size w (w.alloc (.cells (bools (List.replicate n false)).toArray 4)) := Below.new _ _
  have HK := Lib.hid (And.intro k1 hb)
  clear k1 hb hmk
  generalize w.alloc (.cells (bools (List.replicate n false)).toArray 4) = W at *
  go_loopw [4] (fun i wr => ∃ k : Nat, k ≤ n ∧ i = .int .i64 k ∧ Blk wr w.heap.size 4 (bools (rl n fun j => decide (j < k) && !(f j))) ∧ Below w.heap.size w wr) (fun i _ => n - (intOf i).toNat)
  case atStart =>
    refine ⟨0, Nat.zero_le _, rfl, ?_, HK.out.2⟩
    have : (rl n fun j => decide (j < 0) && !(f j)) = List.replicate n false := by rw [← rl_false]; exact rl_congr fun i _ => by simp
    rw [this]; exact HK.out.1
  case round =>
    obtain ⟨k, hk, rfl, h1, hbel⟩ := hrel
    have HR := Lib.hid (And.intro h1 hbel)
    by_cases hlt : k < n
    · have hki : (k : Int) < n := by omega
      have HS : Hid ((bools (rl n fun j => decide (j < k) && !(f j))).set k (.bool (!(f k))) = bools (rl n fun j => decide (j < k + 1) && !(f j))) := Lib.hid (by
        rw [bools_set, rl_set]
        congr 1
        exact rl_congr fun i hi => by
          by_cases e : i = k
          · subst e; simp
          · by_cases e2 : i < k
            · have : i < k + 1 := by omega
              simp [e, e2, this]
            · have : ¬ i < k + 1 := by omega
              simp [e, e2, this])
      have hro := HA.out.below hbel
      have hat := bools_at (rl n f) k (by rw [rl_length]; exact hlt)
      rw [rl_getD n f k hlt] at hat
      obtain ⟨bl, ol, rfl⟩ := hro.sl hat
      have f0 := hro.cell hat
      have d0 := h1.cell (bools_at (rl n fun j => decide (j < k) && !(f j)) k (by rw [rl_length]; exact hlt))
      have d1 := h1.frz k
      generalize f k = q at *
      clear h1 hbel hat hro
      go_wp2_with fail
      go_roundw
      case rel => exact ⟨k + 1, by omega, by go_num, by rw [← HS.out]; exact HR.out.1.set k _, HR.out.2.setCell (Nat.le_refl _) _⟩
      case measure => simp [intOf]; omega
    · obtain rfl : k = n := by omega
      have hfin : (rl k fun j => decide (j < k) && !(f j)) = rl k (fun j => !(f j)) := rl_congr fun i hi => by simp [hi]
      have HF := Lib.hid hfin
      clear h1 hbel hlt hfin
      go_wp2_with fail
      go_ret
      exact ⟨_, rfl, by rw [← HF.out]; exact RO.ofBlk HR.out.1, HR.out.2⟩


set_option maxRecDepth 100000 in
set_option maxHeartbeats 8000000 in
theorem rplus9 {w : World} {va vb : Value} {n : Nat} {f g : Nat → Bool} (c : Bool) (hA : RO w va 1 n (bools (rl n f))) (hB : RO w vb 1 n (bools (rl n g))) (hn : n ≤ 129) :
    Calls Try.prog 64 #[va, vb, .bool c] w (RetLF w n (sB f g c)) := by
  have hni : (n : Int) ≤ 129 := by omega
  have HA := Lib.hid hA
  have HB := Lib.hid hB
  obtain ⟨pa, ca, rfl⟩ := hA.form
  obtain ⟨pb, cb, rfl⟩ := hB.form
  have hmk := fun w => mk_bools n (by omega) w
  clear hA hB hn
  go_enter Try.func64, Try.ntmps64
  go_wp2_with fail
  have k1 := Blk.new (w := w) 4 (bools (List.replicate n false))
  have hb : Below w.heap.size w (w.alloc (.cells (bools (List.replicate n false)).toArray 4)) := Below.new _ _
  have HK := Lib.hid (And.intro k1 hb)
  clear k1 hb hmk
  generalize w.alloc (.cells (bools (List.replicate n false)).toArray 4) = W at *
  go_loopw [2, 8] (fun d i wr => ∃ k : Nat, k ≤ n ∧ i = .int .i64 k ∧ d = .bool (cB f g c k) ∧ Blk wr w.heap.size 4 (bools (rl n fun j => decide (j < k) && sB f g c j)) ∧ Below w.heap.size w wr) (fun d i _ => n - (intOf i).toNat)
  case atStart =>
    refine ⟨0, Nat.zero_le _, rfl, rfl, ?_, HK.out.2⟩
    have : (rl n fun j => decide (j < 0) && sB f g c j) = List.replicate n false := by rw [← rl_false]; exact rl_congr fun i _ => by simp
    rw [this]; exact HK.out.1
  case round =>
    obtain ⟨k, hk, rfl, rfl, h1, hbel⟩ := hrel
    have HR := Lib.hid (And.intro h1 hbel)
    by_cases hlt : k < n
    · have hki : (k : Int) < n := by omega
      have HS : Hid ((bools (rl n fun j => decide (j < k) && sB f g c j)).set k (.bool (sB f g c k)) = bools (rl n fun j => decide (j < k + 1) && sB f g c j)) := Lib.hid (by
        rw [bools_set, rl_set]
        congr 1
        exact rl_congr fun i hi => by
          by_cases e : i = k
          · subst e; simp
          · by_cases e2 : i < k
            · have : i < k + 1 := by omega
              simp [e, e2, this]
            · have : ¬ i < k + 1 := by omega
              simp [e, e2, this])
      have hat := bools_at (rl n f) k (by rw [rl_length]; exact hlt)
      rw [rl_getD n f k hlt] at hat
      obtain ⟨bl, ol, rfl⟩ := (HA.out.below hbel).sl hat
      have f0 := (HA.out.below hbel).cell hat
      have hbt := bools_at (rl n g) k (by rw [rl_length]; exact hlt)
      rw [rl_getD n g k hlt] at hbt
      obtain ⟨bl2, ol2, rfl⟩ := (HB.out.below hbel).sl hbt
      have g0 := (HB.out.below hbel).cell hbt
      have hgb := World.block_lt_of_cell? _ _ (HB.out.cell hbt)
      have d0 := h1.cell (bools_at (rl n fun j => decide (j < k) && sB f g c j) k (by rw [rl_length]; exact hlt))
      have d1 := h1.frz k
      have hX : sB f g c k = ((f k != g k) != cB f g c k) := rfl
      have hY : cB f g c (k + 1) = ((f k && g k) || (f k && cB f g c k) || (g k && cB f g c k)) := rfl
      have HXY := Lib.hid (And.intro hX hY)
      clear hX hY
      generalize f k = p at *
      generalize g k = q at *
      generalize cB f g c k = r at *
      have HLT := Lib.hid hlt
      clear h1 hbel hat hbt hlt hk
      cases p <;> cases q <;> cases r
      all_goals
        (have HE : Hid (∀ t u : Bool, t = sB f g c k → u = cB f g c (k + 1) → ∃ k' : Nat, k' ≤ n ∧ Value.int .i64 ((k : Int) + 1) = .int .i64 k' ∧ Value.bool u = .bool (cB f g c k') ∧ Blk (wr.setCell ⟨w.heap.size, k, none⟩ (.bool t)) w.heap.size 4 (bools (rl n fun j => decide (j < k') && sB f g c j)) ∧ Below w.heap.size w (wr.setCell ⟨w.heap.size, k, none⟩ (.bool t))) := Lib.hid (by
          rintro t u rfl rfl
          exact ⟨k + 1, HLT.out, by go_num, rfl, by rw [← HS.out]; exact HR.out.1.set k _, HR.out.2.setCell (Nat.le_refl _) _⟩)
         have HXY2 := Lib.hid HXY.out
         go_wp2_with fail
         go_roundw
         case rel => exact HE.out _ _ HXY.out.1.symm HXY.out.2.symm
         case measure => simp [intOf]; omega)
    · obtain rfl : k = n := by omega
      have hfin : (rl k fun j => decide (j < k) && sB f g c j) = rl k (sB f g c) := rl_congr fun i hi => by simp [hi]
      have HF := Lib.hid hfin
      clear h1 hbel hlt hfin
      go_wp2_with fail
      go_ret
      exact ⟨_, rfl, by rw [← HF.out]; exact HR.out.1, Nat.le_refl _, HR.out.2⟩

set_option maxRecDepth 100000 in
set_option maxHeartbeats 8000000 in
theorem rmove9 {w : World} {va : Value} {n : Nat} {f : Nat → Bool} (s : Int) (q : Bool) (hs0 : -200 ≤ s) (hs1 : s ≤ 200) (hA : RO w va 1 n (bools (rl n f))) (hn : n ≤ 129) :
    Calls Try.prog 69 #[va, .int .i64 s, .bool q] w (RetLF w n (moveF f n s q)) := by
  have hni : (n : Int) ≤ 129 := by omega
  have HA := Lib.hid hA
  obtain ⟨pa, ca, rfl⟩ := hA.form
  have hmk := fun w => mk_bools n (by omega) w
  clear hA hn
  go_enter Try.func69, Try.ntmps69
  go_wp2_with fail
  have k1 := Blk.new (w := w) 4 (bools (List.replicate n false))
  have hb : Below w.heap.size w (w.alloc (.cells (bools (List.replicate n false)).toArray 4)) := Below.new _ _
  have HK := Lib.hid (And.intro k1 hb)
  clear k1 hb hmk
  generalize w.alloc (.cells (bools (List.replicate n false)).toArray 4) = W at *
  go_loopw [8] (fun i wr => ∃ k : Nat, k ≤ n ∧ i = .int .i64 k ∧ Blk wr w.heap.size 4 (bools (rl n fun j => decide (j < k) && moveF f n s q j)) ∧ Below w.heap.size w wr) (fun i _ => n - (intOf i).toNat)
  case atStart =>
    refine ⟨0, Nat.zero_le _, rfl, ?_, HK.out.2⟩
    have : (rl n fun j => decide (j < 0) && moveF f n s q j) = List.replicate n false := by rw [← rl_false]; exact rl_congr fun i _ => by simp
    rw [this]; exact HK.out.1
  case round =>
    obtain ⟨k, hk, rfl, h1, hbel⟩ := hrel
    have HR := Lib.hid (And.intro h1 hbel)
    by_cases hlt : k < n
    · have hki : (k : Int) < n := by omega
      have HS : Hid (∀ t, t = moveF f n s q k → (bools (rl n fun j => decide (j < k) && moveF f n s q j)).set k (.bool t) = bools (rl n fun j => decide (j < k + 1) && moveF f n s q j)) := Lib.hid (by
        rintro t rfl
        rw [bools_set, rl_set]
        congr 1
        exact rl_congr fun i hi => by
          by_cases e : i = k
          · subst e; simp
          · by_cases e2 : i < k
            · have : i < k + 1 := by omega
              simp [e, e2, this]
            · have : ¬ i < k + 1 := by omega
              simp [e, e2, this])
      have d0 := h1.cell (bools_at (rl n fun j => decide (j < k) && moveF f n s q j) k (by rw [rl_length]; exact hlt))
      have d1 := h1.frz k
      have hwr : IntKind.i64.wrap ((k : Int) - s) = (k : Int) - s := IntWalk.i64_in _ (by omega)
      have HLT := Lib.hid hlt
      have HE : Hid (∀ wq : World, (∃ t, t = moveF f n s q k ∧ Blk wq w.heap.size 4 ((bools (rl n fun j => decide (j < k) && moveF f n s q j)).set k (.bool t)) ∧ Below w.heap.size w wq) → ∃ k' : Nat, k' ≤ n ∧ Value.int .i64 ((k : Int) + 1) = .int .i64 k' ∧ Blk wq w.heap.size 4 (bools (rl n fun j => decide (j < k') && moveF f n s q j)) ∧ Below w.heap.size w wq) := Lib.hid (by
        rintro wq ⟨t, ht, hb, hbl⟩
        exact ⟨k + 1, HLT.out, by go_num, by rw [← HS.out t ht]; exact hb, hbl⟩)
      by_cases hin : 0 ≤ (k : Int) - s ∧ (k : Int) - s < n
      · obtain ⟨i, hi⟩ : ∃ i : Nat, (k : Int) - s = i := ⟨((k : Int) - s).toNat, by omega⟩
        have hi2 : (i : Int) < n := by omega
        have hM : moveF f n s q k = f i := by unfold moveF; rw [if_pos hin, hi]; rfl
        have HM := Lib.hid hM
        have hat := bools_at (rl n f) i (by rw [rl_length]; omega)
        rw [rl_getD n f i (by omega)] at hat
        have f0 := (HA.out.below hbel)
        obtain ⟨bl, ol, rfl⟩ := f0.sl hat
        have g0 := f0.cell hat
        have hgb := World.block_lt_of_cell? _ _ (HA.out.cell hat)
        dsimp only at hgb
        have hne : ¬ bl = w.heap.size := by omega
        have g1 : (wr.setCell ⟨w.heap.size, k, none⟩ (.bool q)).cell? ⟨bl, ol + i, none⟩ = some (.bool (f i)) := (World.cell?_setCell_far wr ⟨w.heap.size, k, none⟩ ⟨bl, ol + i, none⟩ (.bool q) (fun e => hne e.symm)).trans g0
        rw [hi] at hwr
        generalize f i = t at *
        clear h1 hbel hat hlt hk f0 hin hM hgb
        go_wp2_with fail
        go_roundw
        case rel => exact HE.out _ ⟨t, HM.out.symm, by have := (HR.out.1.set k (.bool q)).set k (.bool t); rwa [List.set_set] at this, (HR.out.2.setCell (Nat.le_refl _) _).setCell (Nat.le_refl _) _⟩
        case measure => simp [intOf]; omega
      · have hM : moveF f n s q k = q := by unfold moveF; rw [if_neg hin]
        have HM := Lib.hid hM
        by_cases h0 : 0 ≤ (k : Int) - s
        · have h2 : (n : Int) ≤ (k : Int) - s := by omega
          clear h1 hbel hlt hk hin hM
          go_wp2_with fail
          go_roundw
          case rel => exact HE.out _ ⟨q, HM.out.symm, HR.out.1.set k _, HR.out.2.setCell (Nat.le_refl _) _⟩
          case measure => simp [intOf]; omega
        · have h2 : (k : Int) - s < 0 := by omega
          have h3 : decide (0 ≤ (k : Int) - s) = false := by simp; omega
          clear h1 hbel hlt hk hin hM h0
          go_wp2_with fail
          go_roundw
          case rel => exact HE.out _ ⟨q, HM.out.symm, HR.out.1.set k _, HR.out.2.setCell (Nat.le_refl _) _⟩
          case measure => simp [intOf]; omega
    · obtain rfl : k = n := by omega
      have hfin : (rl k fun j => decide (j < k) && moveF f k s q j) = rl k (moveF f k s q) := rl_congr fun i hi => by simp [hi]
      have HF := Lib.hid hfin
      clear h1 hbel hlt hfin
      go_wp2_with fail
      go_ret
      exact ⟨_, rfl, by rw [← HF.out]; exact HR.out.1, Nat.le_refl _, HR.out.2⟩

set_option maxRecDepth 100000 in
set_option maxHeartbeats 4000000 in
theorem rless9 {w : World} {va vb : Value} {n : Nat} {f g : Nat → Bool} (hA : RO w va 1 n (bools (rl n f))) (hB : RO w vb 1 n (bools (rl n g))) (hn : n ≤ 129) :
    Calls Try.prog 72 #[va, vb] w fun e w' => e = .returned (.bool (decide (ofB f n < ofB g n))) ∧ Below w.heap.size w w' := by
  have hni : (n : Int) ≤ 129 := by omega
  have q3 : IntKind.i64.wrap ((n : Int) - 1) = (n : Int) - 1 := IntWalk.i64_in _ (by omega)
  have HA := Lib.hid hA
  have HB := Lib.hid hB
  obtain ⟨pa, ca, rfl⟩ := hA.form
  obtain ⟨pb, cb, rfl⟩ := hB.form
  clear hA hB hn
  go_enter Try.func72, Try.ntmps72
  go_wp2_with fail
  go_loopw [5] (fun i wr => ∃ k : Nat, k ≤ n ∧ i = .int .i64 ((k : Int) - 1) ∧ (∀ j, k ≤ j → j < n → f j = g j) ∧ Below w.heap.size w wr) (fun i _ => (intOf i + 1).toNat)
  case atStart => exact ⟨n, Nat.le_refl _, rfl, fun j a b => absurd b (by omega), Below.refl _ _⟩
  case round =>
    obtain ⟨k, hk, rfl, hz, hbel⟩ := hrel
    have HBel := Lib.hid hbel
    have HZ := Lib.hid hz
    by_cases hlt : k = 0
    · subst hlt
      have HF : Hid (decide (ofB f n < ofB g n) = false) := Lib.hid (ofB_same f g n fun j hj => hz j (Nat.zero_le _) hj)
      clear hz hk hbel
      go_wp2_with fail
      go_ret
      exact ⟨by rw [HF.out]; rfl, HBel.out⟩
    · obtain ⟨i, rfl⟩ : ∃ i, k = i + 1 := ⟨k - 1, by omega⟩
      have hin : i < n := by omega
      have hii : (i : Int) < n := by omega
      have he : ((i + 1 : Nat) : Int) - 1 = (i : Int) := by omega
      rw [he]
      have hat := bools_at (rl n f) i (by rw [rl_length]; exact hin)
      rw [rl_getD n f i hin] at hat
      obtain ⟨bl, ol, rfl⟩ := (HA.out.below hbel).sl hat
      have f0 := (HA.out.below hbel).cell hat
      have hbt := bools_at (rl n g) i (by rw [rl_length]; exact hin)
      rw [rl_getD n g i hin] at hbt
      obtain ⟨bl2, ol2, rfl⟩ := (HB.out.below hbel).sl hbt
      have g0 := (HB.out.below hbel).cell hbt
      have HL := Lib.hid (fun hd => ofB_less f g i hd n hin fun j a b => hz j a b)
      obtain ⟨p, hp⟩ : ∃ p, f i = p := ⟨_, rfl⟩
      obtain ⟨q, hq⟩ : ∃ q, g i = q := ⟨_, rfl⟩
      have HPQ := Lib.hid (And.intro hp hq)
      have HIN := Lib.hid hin
      have hwr : IntKind.i64.wrap ((i : Int) - 1) = (i : Int) - 1 := IntWalk.i64_in _ (by omega)
      rw [hp] at f0
      rw [hq] at g0
      clear hbel hz hat hbt hp hq hin he hk hlt
      by_cases e : p = q
      · subst e
        have HZ2 : Hid (∀ j, i ≤ j → j < n → f j = g j) := Lib.hid fun j a b => by
          by_cases e : j = i
          · subst e; rw [HPQ.out.1, HPQ.out.2]
          · exact HZ.out j (by omega) b
        cases p
        · go_wp2_with fail
          go_quiet (fail)
          go_wp2_with fail
          go_roundw
          case rel => exact ⟨i, Nat.le_of_lt HIN.out, by go_num, HZ2.out, (HBel.out.trans (below_drewN _))⟩
          case measure => simp [intOf]
        · go_wp2_with fail
          go_quiet (fail)
          go_wp2_with fail
          go_roundw
          case rel => exact ⟨i, Nat.le_of_lt HIN.out, by go_num, HZ2.out, (HBel.out.trans (below_drewN _))⟩
          case measure => simp [intOf]
      · have HF : Hid (decide (ofB f n < ofB g n) = q) := Lib.hid (by
          rw [HL.out (by rw [HPQ.out.1, HPQ.out.2]; exact e), HPQ.out.2])
        cases p <;> cases q <;> simp at e
        · go_wp2_with fail
          go_quiet (fail)
          go_wp2_with fail
          go_ret
          exact ⟨by rw [HF.out]; rfl, (HBel.out.trans (below_drewN _))⟩
        · go_wp2_with fail
          go_quiet (fail)
          go_wp2_with fail
          go_ret
          exact ⟨by rw [HF.out]; rfl, (HBel.out.trans (below_drewN _))⟩


theorem nplus {w : World} {va vb : Value} {n A B : Nat} (c : Bool) (hA : LN w va n A) (hB : LN w vb n B) (hn : n ≤ 129) : Calls Try.prog 64 #[va, vb, .bool c] w (RetN w n ((A + B + (if c then 1 else 0)) % 2 ^ n)) := by
  obtain ⟨f, hA, rfl⟩ := hA
  obtain ⟨g, hB, rfl⟩ := hB
  exact (rplus9 c hA hB hn).mono fun e w' ⟨b, he, hk, _, hb⟩ => ⟨_, he, ⟨_, RO.ofBlk hk, (sum_mod f g c n).symm⟩, hb⟩
theorem nplusF {w : World} {va vb : Value} {n A B : Nat} (c : Bool) (hA : LN w va n A) (hB : LN w vb n B) (hn : n ≤ 129) : Calls Try.prog 64 #[va, vb, .bool c] w fun e w' => ∃ b, e = .returned (.slice (some ⟨b, 0, none⟩) n n) ∧ Blk w' b 4 (bools (rl n ((A + B + (if c then 1 else 0)) % 2 ^ n).testBit)) ∧ w.heap.size ≤ b ∧ Below w.heap.size w w' := by
  obtain ⟨f, hA, rfl⟩ := hA
  obtain ⟨g, hB, rfl⟩ := hB
  refine (rplus9 c hA hB hn).mono fun e w' ⟨b, he, hk, h1, hb⟩ => ⟨b, he, ?_, h1, hb⟩
  rwa [sum_mod, show rl n (ofB (sB f g c) n).testBit = rl n (sB f g c) from rl_congr fun i hi => by rw [testBit_ofB]; simp [hi]]
theorem LN.blk {w : World} {b n x : Nat} (h : Blk w b 4 (bools (rl n x.testBit))) (hx : x < 2 ^ n) : LN w (.slice (some ⟨b, 0, none⟩) n n) n x := ⟨_, RO.ofBlk h, by rw [ofB_mod', Nat.mod_eq_of_lt hx]⟩
theorem nnot {w : World} {va : Value} {n A : Nat} (hA : LN w va n A) (hn : n ≤ 129) : Calls Try.prog 65 #[va] w (RetN w n (notN n A)) := by
  obtain ⟨f, hA, rfl⟩ := hA
  exact (rnot9 hA hn).mono fun e w' h => h.n (ofB_not f n)
theorem nless {w : World} {va vb : Value} {n A B : Nat} (hA : LN w va n A) (hB : LN w vb n B) (hn : n ≤ 129) : Calls Try.prog 72 #[va, vb] w fun e w' => e = .returned (.bool (decide (A < B))) ∧ Below w.heap.size w w' := by
  obtain ⟨f, hA, rfl⟩ := hA
  obtain ⟨g, hB, rfl⟩ := hB
  exact rless9 hA hB hn
theorem nany {w : World} {va : Value} {n A : Nat} (hA : LN w va n A) (hn : n ≤ 128) : Calls Try.prog 79 #[va] w fun e w' => e = .returned (.bool (nz A)) ∧ w = w' := by
  obtain ⟨f, hA, rfl⟩ := hA
  exact rany_any hA hn
theorem nneg {w : World} {va : Value} {n A : Nat} (hA : LN w va n A) (hn : n ≤ 128) : Calls Try.prog 78 #[va] w (RetN w n (negN n A)) := by
  obtain ⟨f, hA, rfl⟩ := hA
  refine (rneg_any hA hn).mono fun e w' h => h.n ?_
  rw [← sum_mod, ofB_not, if_pos rfl, ofB_none _ _ (fun _ _ => rfl)]
  exact negN_eq (ofB_lt f n)
theorem ntop {w : World} {va : Value} {n A : Nat} (hA : LN w va n A) (hn : n ≤ 128) (h0 : 1 ≤ n) : Calls Try.prog 70 #[va] w fun e w' => e = .returned (.bool (topB n A)) ∧ w = w' := by
  obtain ⟨f, hA, rfl⟩ := hA
  have := rtop_any hA hn h0
  rwa [show f (n - 1) = topB n (ofB f n) by
    unfold topB bitI
    rw [decide_eq_true (by omega), show ((n : Int) - 1).toNat = n - 1 by omega, testBit_ofB]; simp; omega] at this
theorem nmove {w : World} {va : Value} {n A : Nat} (s : Int) (q : Bool) (hs0 : -200 ≤ s) (hs1 : s ≤ 200) (hA : LN w va n A) (hn : n ≤ 129) :
    Calls Try.prog 69 #[va, .int .i64 s, .bool q] w (RetN w n (ofB (moveF A.testBit n s q) n)) := by
  exact (rmove9 s q hs0 hs1 hA.bits hn).mono fun e w' ⟨b, he, hk, _, hb⟩ => ⟨_, he, ⟨_, RO.ofBlk hk, rfl⟩, hb⟩
theorem nmoveF {w : World} {va : Value} {n A : Nat} (s : Int) (q : Bool) (hs0 : -200 ≤ s) (hs1 : s ≤ 200) (hA : LN w va n A) (hn : n ≤ 129) :
    Calls Try.prog 69 #[va, .int .i64 s, .bool q] w fun e w' => ∃ b, e = .returned (.slice (some ⟨b, 0, none⟩) n n) ∧ LN w' (.slice (some ⟨b, 0, none⟩) n n) n (ofB (moveF A.testBit n s q) n) ∧ w.heap.size ≤ b ∧ Below w.heap.size w w' :=
  (rmove9 s q hs0 hs1 hA.bits hn).mono fun e w' ⟨b, he, hk, h1, hb⟩ => ⟨b, he, ⟨_, RO.ofBlk hk, rfl⟩, h1, hb⟩
theorem move_up {n A k : Nat} (hk : k ≤ n) : ofB (moveF A.testBit n k false) n = A * 2 ^ k % 2 ^ n := by
  apply eq_bits; intro j
  rw [testBit_ofB, mod_bit, Nat.testBit_mul_two_pow]
  unfold moveF
  by_cases hj : j < n
  · by_cases h : k ≤ j
    · rw [if_pos ⟨by omega, by omega⟩, show ((j : Int) - (k : Int)).toNat = j - k by omega]; simp [hj, h]
    · rw [if_neg (by omega)]; simp [h]
  · simp [hj]
theorem move_one {n A : Nat} (q : Bool) (hn : 0 < n) : ofB (moveF A.testBit n 1 q) n = A * 2 % 2 ^ n + (if q then 1 else 0) := by
  have h2 : A * 2 % 2 ^ n = 2 * (A % 2 ^ (n - 1)) := by
    obtain ⟨m, rfl⟩ : ∃ m, n = m + 1 := ⟨n - 1, by omega⟩
    rw [Nat.pow_succ, Nat.mul_mod_mul_right, Nat.add_sub_cancel, Nat.mul_comm]
  rw [h2]
  apply eq_bits; intro j
  rw [testBit_ofB]
  unfold moveF
  cases j with
  | zero =>
    rw [if_neg (by omega)]
    cases q <;> simp [hn, Nat.testBit_zero] <;> omega
  | succ j =>
    have e : (2 * (A % 2 ^ (n - 1)) + (if q then 1 else 0)).testBit (j + 1) = (A % 2 ^ (n - 1)).testBit j := by
      rw [Nat.testBit_succ]
      congr 1
      cases q <;> simp <;> omega
    rw [e, mod_bit]
    by_cases hj : j + 1 < n
    · rw [if_pos ⟨by omega, by omega⟩, show (((j + 1 : Nat) : Int) - 1).toNat = j by omega]; simp [hj]; omega
    · have : ¬ j < n - 1 := by omega
      simp [hj, this]
end Go.Proofs.Ytmimafbedbohiaa
