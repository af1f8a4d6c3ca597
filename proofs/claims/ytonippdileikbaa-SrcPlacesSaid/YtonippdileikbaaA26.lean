import Derived.Test.YtonippdileikbaaA25
namespace Go.Proofs.Ytonippdileikbaa
set_option linter.unusedVariables false
open Go.RowKit

theorem plTo_st (l : List UInt8) : ∀ m, (plTo l m).1 = (stTo l m).length ∧ ((plTo l m).2 : Int) = 1 + m - (stTo l m).getD ((stTo l m).length - 1) 0
  | 0 => ⟨rfl, rfl⟩
  | m + 1 => by
    obtain ⟨h1, h2⟩ := plTo_st l m
    have hl := stTo_length l m
    rw [plTo_succ, stTo_succ]
    split
    · refine ⟨by simp [h1], ?_⟩
      rw [getD_snoc, if_neg (by simp), if_pos (by simp)]
      simp
    · exact ⟨h1, by simp only; omega⟩
theorem stTo_prefix (l : List UInt8) (m : Nat) : ∀ d, ∃ R : List Int, stTo l (m + d) = stTo l m ++ R ∧ ∀ i, i < R.length → (m : Int) < R.getD i 0
  | 0 => ⟨[], by simp, fun i hi => absurd hi (Nat.not_lt_zero _)⟩
  | d + 1 => by
    obtain ⟨R, h1, h2⟩ := stTo_prefix l m d
    rw [show m + (d + 1) = (m + d) + 1 by omega, stTo_succ]
    split
    · refine ⟨R ++ [((m + d + 1 : Nat) : Int)], by rw [h1, List.append_assoc], fun i hi => ?_⟩
      rw [getD_snoc]
      split
      · rename_i h; exact h2 i h
      · rw [if_pos (by simp at hi; omega)]; omega
    · exact ⟨R, h1, h2⟩
theorem place_line (s : ByteArray) (m k : Nat) (hm : m ≤ s.size) (h : LineOf (starts s) m k) : (plTo s.data.toList m).1 = k + 1 ∧ ((plTo s.data.toList m).2 : Int) = 1 + m - (starts s).getD k 0 := by
  obtain ⟨h1, h2⟩ := plTo_st s.data.toList m
  obtain ⟨R, hR, hR2⟩ := stTo_prefix s.data.toList m (s.size - m)
  rw [show m + (s.size - m) = s.size by omega] at hR
  have hl := stTo_length s.data.toList m
  have hf := stTo_facts s.data.toList m
  have e : (stTo s.data.toList m).getD ((stTo s.data.toList m).length - 1) 0 = (starts s).getD ((stTo s.data.toList m).length - 1) 0 := by
    unfold starts
    rw [hR]
    simp only [List.getD]
    rw [List.getElem?_append_left (by omega)]
  have hL : LineOf (starts s) m ((stTo s.data.toList m).length - 1) := by
    refine ⟨?_, ?_, fun hlt => ?_⟩
    · unfold starts; rw [hR, List.length_append]; omega
    · rw [← e]; exact (hf.1 _ (by omega)).2
    · unfold starts at hlt ⊢
      rw [hR, List.length_append] at hlt
      rw [hR]
      have := hR2 0 (by omega)
      simp only [List.getD] at this ⊢
      rw [List.getElem?_append_right (by omega), show (stTo s.data.toList m).length - 1 + 1 - (stTo s.data.toList m).length = 0 by omega]
      exact this
  obtain rfl := lineOf_one (starts_facts s).2.1 h hL
  exact ⟨by omega, by rw [h2, e]⟩
theorem lineOf_ex (s : ByteArray) (m : Nat) (hm : m ≤ s.size) : ∃ k, LineOf (starts s) m k := by
  obtain ⟨R, hR, hR2⟩ := stTo_prefix s.data.toList m (s.size - m)
  rw [show m + (s.size - m) = s.size by omega] at hR
  have hl := stTo_length s.data.toList m
  have hf := stTo_facts s.data.toList m
  have e : (stTo s.data.toList m).getD ((stTo s.data.toList m).length - 1) 0 = (starts s).getD ((stTo s.data.toList m).length - 1) 0 := by
    unfold starts
    rw [hR]
    simp only [List.getD]
    rw [List.getElem?_append_left (by omega)]
  refine ⟨(stTo s.data.toList m).length - 1, ?_, ?_, fun hlt => ?_⟩
  · unfold starts; rw [hR, List.length_append]; omega
  · rw [← e]; exact (hf.1 _ (by omega)).2
  · unfold starts at hlt ⊢
    rw [hR, List.length_append] at hlt
    rw [hR]
    have := hR2 0 (by omega)
    simp only [List.getD] at this ⊢
    rw [List.getElem?_append_right (by omega), show (stTo s.data.toList m).length - 1 + 1 - (stTo s.data.toList m).length = 0 by omega]
    exact this

/-- the place (l, c) is a byte's -/
def placed (s : ByteArray) (l c : Int) : Prop := ∃ k : Nat, l = (k : Int) + 1 ∧ k < (starts s).length ∧ colOk (starts s) s.size k c
theorem placed_of (s : ByteArray) (m : Nat) (hm : m ≤ s.size) : placed s (plTo s.data.toList m).1 (plTo s.data.toList m).2 := by
  obtain ⟨k, hk⟩ := lineOf_ex s m hm
  obtain ⟨h1, h2⟩ := place_line s m k hm hk
  have hlo := hk.lo
  refine ⟨k, by omega, hk.lt, ?_⟩
  unfold colOk endOf
  split
  · omega
  · have := hk.hi (by have := hk.lt; omega)
    omega
/-- and it is byte L k + c - 1 -/
theorem placed_back (s : ByteArray) (k : Nat) (c : Int) (hk : k < (starts s).length) (hc : colOk (starts s) s.size k c) :
    0 ≤ (starts s).getD k 0 + c - 1 ∧ (starts s).getD k 0 + c - 1 ≤ s.size ∧ (plTo s.data.toList ((starts s).getD k 0 + c - 1).toNat).1 = k + 1 ∧ ((plTo s.data.toList ((starts s).getD k 0 + c - 1).toNat).2 : Int) = c := by
  obtain ⟨f1, f2, f3⟩ := starts_facts s
  have b := f1 k hk
  unfold colOk endOf at hc
  have hle : (starts s).getD k 0 + c - 1 ≤ s.size ∧ (k + 1 < (starts s).length → (starts s).getD k 0 + c - 1 < (starts s).getD (k + 1) 0) := by
    split at hc
    · exact ⟨by omega, fun h => by omega⟩
    · have := f1 (k + 1) (by omega)
      exact ⟨by omega, fun _ => by omega⟩
  have hL : LineOf (starts s) (((starts s).getD k 0 + c - 1).toNat : Nat) k := ⟨hk, by omega, fun h => by have := hle.2 h; omega⟩
  obtain ⟨h1, h2⟩ := place_line s _ k (by omega) hL
  exact ⟨by omega, hle.1, h1, by rw [h2]; omega⟩
theorem plTo_inj (s : ByteArray) (m m' : Nat) (hm : m ≤ s.size) (hm' : m' ≤ s.size) (h1 : (plTo s.data.toList m).1 = (plTo s.data.toList m').1) (h2 : (plTo s.data.toList m).2 = (plTo s.data.toList m').2) : m = m' := by
  obtain ⟨k, hk⟩ := lineOf_ex s m hm
  obtain ⟨k', hk'⟩ := lineOf_ex s m' hm'
  obtain ⟨a1, a2⟩ := place_line s m k hm hk
  obtain ⟨b1, b2⟩ := place_line s m' k' hm' hk'
  obtain rfl : k = k' := by omega
  omega

theorem off_yes {w bt ps fs} (h : Made w bt ps fs) (hl : fs.length ≤ 100000) (n : Nat) (f : Fil) (hf : fs.getD n default = f) (hn : n < fs.length) (l c : Int) (hc : -9223372036854775808 ≤ c ∧ c ≤ 9223372036854775807) (hp : placed f.text l c) :
    Calls Try.prog 20 #[.pointer (some ⟨bt, 0, none⟩), .agg #[.int .i64 ((n : Int) + 1), .int .i64 l, .int .i64 c]] w fun e w' => ∃ m : Nat, (m ≤ f.text.size ∧ ((plTo f.text.data.toList m).1 : Int) = l ∧ ((plTo f.text.data.toList m).2 : Int) = c) ∧ e = .returned (.tuple #[.int .i64 m, .int .i64 0]) ∧ Below w.heap.size w w' := by
  subst hf
  obtain ⟨k, rfl, hk, hok⟩ := hp
  refine (offset_at h.tab n k c (h.len ▸ hn) (h.small hl) (h.kn n hn) hk hc).mono ?_
  rw [h.tx n hn]
  rintro e w' ⟨⟨_, rfl⟩ | ⟨hno, _⟩, hb⟩
  · obtain ⟨b1, b2, b3, b4⟩ := placed_back _ k c hk hok
    refine ⟨_, ⟨?_, ?_, b4⟩, ?_, hb⟩
    · omega
    · omega
    · rw [Int.toNat_of_nonneg b1]
  · exact absurd hok hno
theorem off_no {w bt ps fs} (h : Made w bt ps fs) (hl : fs.length ≤ 100000) (n : Nat) (f : Fil) (hf : fs.getD n default = f) (hn : n < fs.length) (l c : Int) (hc : -9223372036854775808 ≤ c ∧ c ≤ 9223372036854775807) (hp : ¬ placed f.text l c) :
    Calls Try.prog 20 #[.pointer (some ⟨bt, 0, none⟩), .agg #[.int .i64 ((n : Int) + 1), .int .i64 l, .int .i64 c]] w fun e w' => e = .returned (.tuple #[.int .i64 0, .int .i64 3]) ∧ Below w.heap.size w w' := by
  subst hf
  by_cases hk : l < 1 ∨ ((starts (fs.getD n default).text).length : Int) < l
  · exact offset_noline h.tab n l c (h.len ▸ hn) (h.small hl) (h.kn n hn) hk
  · obtain ⟨k, rfl⟩ : ∃ k : Nat, l = (k : Int) + 1 := ⟨(l - 1).toNat, by omega⟩
    have hk' : k < (starts (fs.getD n default).text).length := by omega
    refine (offset_at h.tab n k c (h.len ▸ hn) (h.small hl) (h.kn n hn) hk' hc).mono ?_
    rw [h.tx n hn]
    rintro e w' ⟨⟨hok, _⟩ | ⟨_, rfl⟩, hb⟩
    · exact absurd ⟨k, rfl, hk', hok⟩ hp
    · exact ⟨rfl, hb⟩
theorem pos_at {w bt ps fs} (h : Made w bt ps fs) (hl : fs.length ≤ 100000) (n m : Nat) (f : Fil) (hf : fs.getD n default = f) (hn : n < fs.length) (hm : m ≤ f.text.size) :
    Calls Try.prog 18 #[.pointer (some ⟨bt, 0, none⟩), .int .i64 ((n : Int) + 1), .int .i64 m] w fun e w' => e = .returned (.tuple #[.agg #[.int .i64 ((n : Int) + 1), .int .i64 (plTo f.text.data.toList m).1, .int .i64 (plTo f.text.data.toList m).2], .int .i64 0]) ∧ Below w.heap.size w w' := by
  refine (pos_made h hl n m f hf hn hm).mono ?_
  rintro e w' ⟨k, hk, rfl, hb⟩
  obtain ⟨h1, h2⟩ := place_line f.text m k hm hk
  refine ⟨?_, hb⟩
  rw [h1, h2]; rfl
theorem pos_no {w bt ps fs} (h : Made w bt ps fs) (hl : fs.length ≤ 100000) (n : Nat) (m : Int) (f : Fil) (hf : fs.getD n default = f) (hn : n < fs.length) (hm : m < 0 ∨ (f.text.size : Int) < m) :
    Calls Try.prog 18 #[.pointer (some ⟨bt, 0, none⟩), .int .i64 ((n : Int) + 1), .int .i64 m] w fun e w' => e = .returned (.tuple #[.agg #[.int .i64 0, .int .i64 0, .int .i64 0], .int .i64 3]) ∧ Below w.heap.size w w' := by
  subst hf
  exact pos_out h.tab n m (h.len ▸ hn) (h.small hl) (by rw [h.tx n hn]; exact hm) (h.kn n hn).tx
end Go.Proofs.Ytonippdileikbaa
