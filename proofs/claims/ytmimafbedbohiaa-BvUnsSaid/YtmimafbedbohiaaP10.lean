import Derived.Test.YtmimafbedbohiaaQ1
namespace Go.Proofs.Ytmimafbedbohiaa
set_option linter.unusedVariables false

/-- bytes, the lowest first -/
def valY : List Nat → Nat
  | [] => 0
  | b :: l => b + 256 * valY l
def repY (m : Nat) : Nat → Nat
  | 0 => 0
  | n + 1 => m + 256 * repY m n
theorem low_bit {b y j : Nat} (hb : b < 256) : (b + 256 * y).testBit j = if j < 8 then b.testBit j else y.testBit (j - 8) := by
  have h : b + 256 * y = 2 ^ 8 * y + b := by omega
  rw [h, Nat.testBit_two_pow_mul_add y (show b < 2 ^ 8 by omega)]
theorem and_low {b m y k : Nat} (hb : b < 256) (hm : m < 256) : (b + 256 * y) &&& (m + 256 * k) = (b &&& m) + 256 * (y &&& k) := by
  apply eq_bits; intro j
  have h : b &&& m < 256 := Nat.lt_of_le_of_lt Nat.and_le_left hb
  rw [Nat.testBit_and, low_bit hb, low_bit hm, low_bit h, Nat.testBit_and, Nat.testBit_and]
  split <;> rfl
theorem valY_and (m : Nat) (hm : m < 256) : ∀ l : List Nat, (∀ b ∈ l, b < 256) → valY l &&& repY m l.length = valY (l.map (· &&& m))
  | [], _ => by simp [valY]
  | b :: l, h => by
    simp only [valY, List.length_cons, repY, List.map_cons]
    rw [and_low (h b (by simp)) hm, valY_and m hm l fun c hc => h c (by simp [hc])]
theorem and_55 : ∀ b, b < 256 → ∀ e, e < 2 → (b / 2 + 128 * e) &&& 85 = b / 2 &&& 85 := by decide +kernel
theorem and_33 : ∀ b, b < 256 → ∀ e, e < 4 → (b / 4 + 64 * e) &&& 51 = b / 4 &&& 51 := by decide +kernel
theorem valY_half : ∀ l : List Nat, (∀ b ∈ l, b < 256) → valY l / 2 &&& repY 85 l.length = valY (l.map fun b => b / 2 &&& 85)
  | [], _ => by simp [valY]
  | b :: l, h => by
    have hb := h b (by simp)
    simp only [valY, List.length_cons, repY, List.map_cons]
    rw [show (b + 256 * valY l) / 2 = (b / 2 + 128 * (valY l % 2)) + 256 * (valY l / 2) by omega, and_low (by omega) (by decide), and_55 b hb _ (Nat.mod_lt _ (by decide)), valY_half l fun c hc => h c (by simp [hc])]
theorem valY_quarter : ∀ l : List Nat, (∀ b ∈ l, b < 256) → valY l / 4 &&& repY 51 l.length = valY (l.map fun b => b / 4 &&& 51)
  | [], _ => by simp [valY]
  | b :: l, h => by
    have hb := h b (by simp)
    simp only [valY, List.length_cons, repY, List.map_cons]
    rw [show (b + 256 * valY l) / 4 = (b / 4 + 64 * (valY l % 4)) + 256 * (valY l / 4) by omega, and_low (by omega) (by decide), and_33 b hb _ (Nat.mod_lt _ (by decide)), valY_quarter l fun c hc => h c (by simp [hc])]
theorem valY_add (f g : Nat → Nat) : ∀ l : List Nat, valY (l.map f) + valY (l.map g) = valY (l.map fun b => f b + g b)
  | [] => rfl
  | b :: l => by simp only [valY, List.map_cons]; rw [← valY_add f g l]; omega
/-- both halves of the byte are small -/
def nib (c : Nat) : Prop := c % 16 ≤ 4 ∧ c / 16 ≤ 4
theorem and_0f : ∀ c, c < 80 → ∀ e, e < 5 → (c / 16 + c + 16 * e) &&& 15 = (c / 16 + c) &&& 15 := by decide +kernel
theorem valY_mod16 : ∀ l : List Nat, (∀ c ∈ l, nib c) → valY l % 16 ≤ 4
  | [], _ => by simp [valY]
  | c :: l, h => by
    have := (h c (by simp)).1
    simp only [valY]; omega
theorem valY_nib : ∀ l : List Nat, (∀ c ∈ l, nib c) → (valY l / 16 + valY l) &&& repY 15 l.length = valY (l.map fun c => (c / 16 + c) &&& 15)
  | [], _ => by simp [valY]
  | c :: l, h => by
    have hc := h c (by simp)
    have hm := valY_mod16 l fun d hd => h d (by simp [hd])
    unfold nib at hc
    simp only [valY, List.length_cons, repY, List.map_cons]
    rw [show (c + 256 * valY l) / 16 + (c + 256 * valY l) = (c / 16 + c + 16 * (valY l % 16)) + 256 * (valY l / 16 + valY l) by omega, and_low (by omega) (by decide), and_0f c (by omega) _ (by omega), valY_nib l fun d hd => h d (by simp [hd])]
def byteF1 (b : Nat) : Nat := (b / 2 &&& 85) + (b &&& 85)
def byteF2 (b : Nat) : Nat := (b / 4 &&& 51) + (b &&& 51)
def byteF3 (c : Nat) : Nat := (c / 16 + c) &&& 15
def parity (f : Nat → Bool) : Nat → Bool
  | 0 => false
  | n + 1 => parity f n != f n
theorem byte_f1 : ∀ b, b < 256 → byteF1 b < 256 := by decide +kernel
theorem byte_f2 : ∀ b, b < 256 → nib (byteF2 (byteF1 b)) ∧ byteF2 (byteF1 b) < 256 := by unfold nib; decide +kernel
theorem byte_f3 : ∀ b, b < 256 → byteF3 (byteF2 (byteF1 b)) ≤ 8 ∧ (byteF3 (byteF2 (byteF1 b)) % 2 = 1 ↔ parity b.testBit 8 = true) := by decide +kernel
theorem parity_add (f : Nat → Bool) (a : Nat) : ∀ m, parity f (a + m) = (parity f a != parity (fun j => f (a + j)) m)
  | 0 => by simp [parity]
  | m + 1 => by
    rw [show a + (m + 1) = (a + m) + 1 by omega]
    simp only [parity]
    rw [parity_add f a m]
    cases parity f a <;> cases parity (fun j => f (a + j)) m <;> cases f (a + m) <;> rfl
theorem parity_congr {f g : Nat → Bool} : ∀ {n : Nat}, (∀ j, j < n → f j = g j) → parity f n = parity g n
  | 0, _ => rfl
  | n + 1, h => by
    simp only [parity]
    rw [parity_congr fun j hj => h j (by omega), h n (by omega)]
def sumY : List Nat → Nat
  | [] => 0
  | b :: l => b + sumY l
theorem parity_bytes (F : Nat → Nat) (hF : ∀ b, b < 256 → (F b % 2 = 1 ↔ parity b.testBit 8 = true)) : ∀ l : List Nat, (∀ b ∈ l, b < 256) → (sumY (l.map F) % 2 = 1 ↔ parity (valY l).testBit (8 * l.length) = true)
  | [], _ => by simp [sumY, parity]
  | b :: l, h => by
    have hb := h b (by simp)
    have ih := parity_bytes F hF l fun c hc => h c (by simp [hc])
    have h1 := hF b hb
    rw [List.length_cons, show 8 * (l.length + 1) = 8 + 8 * l.length by omega, parity_add]
    have e1 : parity (valY (b :: l)).testBit 8 = parity b.testBit 8 := parity_congr fun j hj => by simp only [valY]; rw [low_bit hb, if_pos hj]
    have e2 : parity (fun j => (valY (b :: l)).testBit (8 + j)) (8 * l.length) = parity (valY l).testBit (8 * l.length) := parity_congr fun j hj => by
      simp only [valY]; rw [low_bit hb, if_neg (by omega), show 8 + j - 8 = j by omega]
    rw [e1, e2]
    simp only [List.map_cons, sumY]
    cases hp : parity b.testBit 8 <;> cases hq : parity (valY l).testBit (8 * l.length) <;> rw [hp] at h1 <;> rw [hq] at ih <;> simp at h1 ih ⊢ <;> omega
theorem bytes_of {x : Nat} (hx : x < 2 ^ 64) : ∃ b0 b1 b2 b3 b4 b5 b6 b7, x = valY [b0, b1, b2, b3, b4, b5, b6, b7] ∧ b0 < 256 ∧ b1 < 256 ∧ b2 < 256 ∧ b3 < 256 ∧ b4 < 256 ∧ b5 < 256 ∧ b6 < 256 ∧ b7 < 256 := by
  refine ⟨x % 256, x / 256 % 256, x / 65536 % 256, x / 16777216 % 256, x / 4294967296 % 256, x / 1099511627776 % 256, x / 281474976710656 % 256, x / 72057594037927936, ?_, by omega, by omega, by omega, by omega, by omega, by omega, by omega, by omega⟩
  simp only [valY]; omega
theorem valY_lt : ∀ {l : List Nat}, (∀ b ∈ l, b < 256) → l.length ≤ 8 → valY l < 256 ^ l.length
  | [], _, _ => by simp [valY]
  | b :: l, h, h8 => by
    have ih := valY_lt (l := l) (fun c hc => h c (by simp [hc])) (by simp at h8; omega)
    have hb := h b (by simp)
    simp only [valY, List.length_cons, Nat.pow_succ]
    omega
theorem valY_third : ∀ l : List Nat, (∀ c ∈ l, c ≤ 84) → 3 * valY l + 1 ≤ 256 ^ l.length
  | [], _ => by simp [valY]
  | c :: l, h => by
    have ih := valY_third l fun d hd => h d (by simp [hd])
    have hc := h c (by simp)
    simp only [valY, List.length_cons, Nat.pow_succ]
    omega
theorem fold_sum {d0 d1 d2 d3 d4 d5 d6 d7 : Nat} (k0 : d0 ≤ 8) (k1 : d1 ≤ 8) (k2 : d2 ≤ 8) (k3 : d3 ≤ 8) (k4 : d4 ≤ 8) (k5 : d5 ≤ 8) (k6 : d6 ≤ 8) (k7 : d7 ≤ 8) :
    ∃ x4 x5 x6, valY [d0, d1, d2, d3, d4, d5, d6, d7] + valY [d0, d1, d2, d3, d4, d5, d6, d7] / 256 = x4 ∧ x4 < 2 ^ 64 ∧ x4 + x4 / 65536 = x5 ∧ x5 < 2 ^ 64 ∧ x5 + x5 / 4294967296 = x6 ∧ x6 < 2 ^ 63 ∧ x6 % 128 = d0 + (d1 + (d2 + (d3 + (d4 + (d5 + (d6 + d7)))))) := by
  have q1 : ∀ b v, b < 256 → (b + 256 * v) / 256 = v := fun b v h => by omega
  have q2 : ∀ b c v, b < 256 → c < 256 → (b + 256 * (c + 256 * v)) / 65536 = v := fun b c v h h' => by omega
  have q3 : ∀ b c d e v, b < 256 → c < 256 → d < 256 → e < 256 → (b + 256 * (c + 256 * (d + 256 * (e + 256 * v)))) / 4294967296 = v := fun b c d e v _ _ _ _ => by omega
  have e4 : valY [d0, d1, d2, d3, d4, d5, d6, d7] + valY [d0, d1, d2, d3, d4, d5, d6, d7] / 256 = valY [d0 + d1, d1 + d2, d2 + d3, d3 + d4, d4 + d5, d5 + d6, d6 + d7, d7] := by
    simp only [valY]; rw [q1 _ _ (by omega)]; omega
  have e5 : valY [d0 + d1, d1 + d2, d2 + d3, d3 + d4, d4 + d5, d5 + d6, d6 + d7, d7] + valY [d0 + d1, d1 + d2, d2 + d3, d3 + d4, d4 + d5, d5 + d6, d6 + d7, d7] / 65536 = valY [d0 + d1 + d2 + d3, d1 + d2 + d3 + d4, d2 + d3 + d4 + d5, d3 + d4 + d5 + d6, d4 + d5 + d6 + d7, d5 + d6 + d7, d6 + d7, d7] := by
    simp only [valY]; rw [q2 _ _ _ (by omega) (by omega)]; omega
  have e6 : valY [d0 + d1 + d2 + d3, d1 + d2 + d3 + d4, d2 + d3 + d4 + d5, d3 + d4 + d5 + d6, d4 + d5 + d6 + d7, d5 + d6 + d7, d6 + d7, d7] + valY [d0 + d1 + d2 + d3, d1 + d2 + d3 + d4, d2 + d3 + d4 + d5, d3 + d4 + d5 + d6, d4 + d5 + d6 + d7, d5 + d6 + d7, d6 + d7, d7] / 4294967296 = (d0 + d1 + d2 + d3 + d4 + d5 + d6 + d7) + 256 * valY [d1 + d2 + d3 + d4 + d5 + d6 + d7, d2 + d3 + d4 + d5 + d6 + d7, d3 + d4 + d5 + d6 + d7, d4 + d5 + d6 + d7, d5 + d6 + d7, d6 + d7, d7] := by
    simp only [valY]; rw [q3 _ _ _ _ _ (by omega) (by omega) (by omega) (by omega)]; omega
  refine ⟨_, _, _, e4, ?_, e5, ?_, e6, ?_, ?_⟩
  · simp only [valY]; omega
  · simp only [valY]; omega
  · simp only [valY]; omega
  · generalize valY _ = v
    omega
theorem third_lt {v : Nat} (h : 3 * v + 1 ≤ 2 ^ 64) : v < 2 ^ 64 ∧ v / 16 + v < 2 ^ 64 := ⟨by omega, by omega⟩
theorem small_sum {d0 d1 d2 d3 d4 d5 d6 d7 : Nat} (k0 : d0 ≤ 8) (k1 : d1 ≤ 8) (k2 : d2 ≤ 8) (k3 : d3 ≤ 8) (k4 : d4 ≤ 8) (k5 : d5 ≤ 8) (k6 : d6 ≤ 8) (k7 : d7 ≤ 8) :
    valY [d0, d1, d2, d3, d4, d5, d6, d7] < 2 ^ 64 ∧ d0 + (d1 + (d2 + (d3 + (d4 + (d5 + (d6 + d7)))))) ≤ 64 := by
  simp only [valY]; exact ⟨by omega, by omega⟩
theorem ones_sum {x : Nat} (hx : x < 2 ^ 64) : ∃ x1 x2 x3 x4 x5 x6 r : Nat, (x / 2 &&& 6148914691236517205) + (x &&& 6148914691236517205) = x1 ∧ x1 < 2 ^ 64 ∧ (x1 / 4 &&& 3689348814741910323) + (x1 &&& 3689348814741910323) = x2 ∧ x2 < 2 ^ 64 ∧ x2 / 16 + x2 < 2 ^ 64 ∧
    (x2 / 16 + x2) &&& 1085102592571150095 = x3 ∧ x3 < 2 ^ 64 ∧ x3 + x3 / 256 = x4 ∧ x4 < 2 ^ 64 ∧ x4 + x4 / 65536 = x5 ∧ x5 < 2 ^ 64 ∧ x5 + x5 / 4294967296 = x6 ∧ x6 < 2 ^ 63 ∧ x6 &&& 127 = r ∧ r ≤ 64 ∧ (r % 2 = 1 ↔ parity x.testBit 64 = true) := by
  obtain ⟨b0, b1, b2, b3, b4, b5, b6, b7, hxe, h0, h1, h2, h3, h4, h5, h6, h7⟩ := bytes_of hx
  obtain ⟨l, hl⟩ : ∃ l, l = [b0, b1, b2, b3, b4, b5, b6, b7] := ⟨_, rfl⟩
  have hlb : ∀ b ∈ l, b < 256 := by rw [hl]; simp [h0, h1, h2, h3, h4, h5, h6, h7]
  have hll : l.length = 8 := by rw [hl]; rfl
  rw [← hl] at hxe
  have r1 : repY 85 l.length = 6148914691236517205 := by rw [hll]; rfl
  have r2 : ∀ F : Nat → Nat, repY 51 (l.map F).length = 3689348814741910323 := fun F => by rw [List.length_map, hll]; rfl
  have r3 : ∀ F : Nat → Nat, repY 15 (l.map F).length = 1085102592571150095 := fun F => by rw [List.length_map, hll]; rfl
  have e1 : (x / 2 &&& 6148914691236517205) + (x &&& 6148914691236517205) = valY (l.map byteF1) := by
    rw [hxe, ← r1, valY_half l hlb, valY_and 85 (by decide) l hlb, valY_add]; rfl
  have hb1 : ∀ b ∈ l.map byteF1, b < 256 := fun b hb => by obtain ⟨c, hc, rfl⟩ := List.mem_map.1 hb; exact byte_f1 c (hlb c hc)
  have e2 : (valY (l.map byteF1) / 4 &&& 3689348814741910323) + (valY (l.map byteF1) &&& 3689348814741910323) = valY ((l.map byteF1).map byteF2) := by
    rw [← r2 byteF1, valY_quarter _ hb1, valY_and 51 (by decide) _ hb1, valY_add]; rfl
  have hb2 : ∀ c ∈ (l.map byteF1).map byteF2, nib c := fun b hb => by
    obtain ⟨c, hc, rfl⟩ := List.mem_map.1 hb
    obtain ⟨d, hd, rfl⟩ := List.mem_map.1 hc
    exact (byte_f2 d (hlb d hd)).1
  have e3 : (valY ((l.map byteF1).map byteF2) / 16 + valY ((l.map byteF1).map byteF2)) &&& 1085102592571150095 = valY (((l.map byteF1).map byteF2).map byteF3) := by
    have h := valY_nib _ hb2
    rw [List.length_map, List.length_map, hll, show repY 15 8 = 1085102592571150095 from rfl] at h
    exact h
  have hp := parity_bytes (fun b => byteF3 (byteF2 (byteF1 b))) (fun b hb => (byte_f3 b hb).2) l hlb
  rw [hll, ← hxe] at hp
  have hx1 : valY (l.map byteF1) < 2 ^ 64 := by
    have h := valY_lt hb1 (by rw [List.length_map, hll]; decide)
    rw [List.length_map, hll] at h
    exact Nat.lt_of_lt_of_le h (by decide)
  have hx2 : 3 * valY ((l.map byteF1).map byteF2) + 1 ≤ 2 ^ 64 := by
    have h := valY_third ((l.map byteF1).map byteF2) (fun c hc => by have h := hb2 c hc; unfold nib at h; omega)
    rw [List.length_map, List.length_map, hll] at h
    exact Nat.le_trans h (by decide)
  obtain ⟨d0, d1, d2, d3, d4, d5, d6, d7, hd, k0, k1, k2, k3, k4, k5, k6, k7⟩ : ∃ d0 d1 d2 d3 d4 d5 d6 d7, ((l.map byteF1).map byteF2).map byteF3 = [d0, d1, d2, d3, d4, d5, d6, d7] ∧ d0 ≤ 8 ∧ d1 ≤ 8 ∧ d2 ≤ 8 ∧ d3 ≤ 8 ∧ d4 ≤ 8 ∧ d5 ≤ 8 ∧ d6 ≤ 8 ∧ d7 ≤ 8 := by
    rw [hl]
    exact ⟨_, _, _, _, _, _, _, _, rfl, (byte_f3 b0 h0).1, (byte_f3 b1 h1).1, (byte_f3 b2 h2).1, (byte_f3 b3 h3).1, (byte_f3 b4 h4).1, (byte_f3 b5 h5).1, (byte_f3 b6 h6).1, (byte_f3 b7 h7).1⟩
  have hp2 : ((d0 + (d1 + (d2 + (d3 + (d4 + (d5 + (d6 + d7))))))) % 2 = 1 ↔ parity x.testBit 64 = true) := by
    rw [← hp]
    have : l.map (fun b => byteF3 (byteF2 (byteF1 b))) = [d0, d1, d2, d3, d4, d5, d6, d7] := by rw [← hd, List.map_map, List.map_map]; rfl
    rw [this]; rfl
  rw [hd] at e3
  obtain ⟨x4, x5, x6, g1, g2, g3, g4, g5, g6, g7⟩ := fold_sum k0 k1 k2 k3 k4 k5 k6 k7
  obtain ⟨hx3, hle⟩ := small_sum k0 k1 k2 k3 k4 k5 k6 k7
  have hr : x6 &&& 127 = d0 + (d1 + (d2 + (d3 + (d4 + (d5 + (d6 + d7)))))) := by
    rw [show (127 : Nat) = 2 ^ 7 - 1 from rfl, Nat.and_two_pow_sub_one_eq_mod _ 7, show 2 ^ 7 = 128 from rfl, g7]
  clear hb1 hb2 hp hd r1 r2 r3 hlb hxe hll g7
  generalize valY ((l.map byteF1).map byteF2) = v2 at *
  generalize valY (l.map byteF1) = v1 at *
  generalize valY [d0, d1, d2, d3, d4, d5, d6, d7] = v3 at *
  obtain ⟨hx4, hx5⟩ := third_lt hx2
  exact ⟨v1, v2, v3, x4, x5, x6, _, e1, hx1, e2, hx4, hx5, e3, hx3, g1, g2, g3, g4, g5, g6, hr, hle, hp2⟩
end Go.Proofs.Ytmimafbedbohiaa
