import Derived.Test.YtcifiibpiooeiaaGreatDoorC2
import Derived.Lib.Atoi
import Derived.Lib.SplitLaws
import Derived.Lib.IndexBytes
import Derived.Lib.Strings
namespace Go.Proofs.YtcifiibpiooeiaaGreatDoor
set_option linter.unusedVariables false
open Go.RowKit

/-! ## plain: numbers written and read -/
/-- a byte of a number -/
def numb (b : UInt8) : Prop := b = 45 ∨ (48 ≤ b.toNat ∧ b.toNat ≤ 57)
theorem numb_ne {b : UInt8} (h : numb b) : b ≠ 32 ∧ b ≠ 10 := by
  constructor <;> (rintro rfl; revert h; unfold numb; decide)
theorem dig_numb (d : Nat) (h : d < 10) : numb (UInt8.ofNat (48 + d)) ∧ Lib.digitVal (UInt8.ofNat (48 + d)) = some d := by
  have : ∀ d : Fin 10, (48 ≤ (UInt8.ofNat (48 + d.val)).toNat ∧ (UInt8.ofNat (48 + d.val)).toNat ≤ 57) ∧ Lib.digitVal (UInt8.ofNat (48 + d.val)) = some d.val := by decide
  exact ⟨.inr (this ⟨d, h⟩).1, (this ⟨d, h⟩).2⟩
theorem digits_numb (u : Nat) : ∀ b ∈ Lib.decDigits u, numb b := by
  induction u using Nat.strongRecOn with
  | _ u ih =>
    intro b hb
    rw [Lib.decDigits] at hb
    split at hb
    · rename_i h
      rw [List.mem_singleton] at hb
      rw [hb]; exact (dig_numb u h).1
    · rcases List.mem_append.1 hb with hb | hb
      · exact ih (u / 10) (by omega) b hb
      · rw [List.mem_singleton] at hb
        rw [hb]; exact (dig_numb _ (by omega)).1
theorem itoa_numb (n : Int) : ∀ b ∈ Lib.itoa n, numb b := by
  intro b hb
  unfold Lib.itoa at hb
  split at hb
  · rcases List.mem_cons.1 hb with rfl | hb
    · exact .inl rfl
    · exact digits_numb _ b hb
  · exact digits_numb _ b hb
theorem decFrom_app : ∀ (a b : List UInt8) (acc : Nat), Lib.decFrom acc (a ++ b) = (Lib.decFrom acc a).bind fun m => Lib.decFrom m b
  | [], b, acc => rfl
  | x :: a, b, acc => by
    simp only [List.cons_append, Lib.decFrom]
    cases h : Lib.digitVal x with
    | none => rfl
    | some d => exact decFrom_app a b _
theorem decFrom_digits (u : Nat) : Lib.decFrom 0 (Lib.decDigits u) = some u := by
  induction u using Nat.strongRecOn with
  | _ u ih =>
    rw [Lib.decDigits]
    split
    · rename_i h
      simp only [Lib.decFrom, (dig_numb u h).2]
      simp
    · rw [decFrom_app, ih (u / 10) (by omega)]
      simp only [Option.bind_some, Lib.decFrom, (dig_numb (u % 10) (by omega)).2]
      congr 1
      omega
theorem digits_ne (u : Nat) : Lib.decDigits u ≠ [] := fun h => by
  have h1 := Lib.decDigits_length u
  have h2 := Lib.nDigits_pos u
  rw [h] at h1
  simp at h1
  omega
theorem decNat_digits (u : Nat) : Lib.decNat (Lib.decDigits u) = some u := by
  unfold Lib.decNat
  rw [if_neg (by have := digits_ne u; simpa [List.isEmpty_iff] using this), decFrom_digits]
theorem digits_head (u : Nat) : ∃ b r, Lib.decDigits u = b :: r ∧ 48 ≤ b.toNat := by
  cases h : Lib.decDigits u with
  | nil => exact absurd h (digits_ne u)
  | cons b r =>
    refine ⟨b, r, rfl, ?_⟩
    have hn := Lib.decFrom_take
    obtain ⟨d, hd⟩ := Lib.digit_of_decFrom _ 0 u (decFrom_digits u) 0 b (by rw [h]; rfl)
    exact (Lib.digitVal_eq hd).1
theorem atoi_itoa (n : Int) : Lib.atoi (Lib.itoa n) = some n := by
  unfold Lib.itoa
  split
  · rename_i h
    unfold Lib.atoi
    simp only [beq_self_eq_true, if_true, decNat_digits, Option.map_some]
    congr 1; omega
  · rename_i h
    obtain ⟨b, r, hb, h48⟩ := digits_head n.toNat
    rw [hb]
    unfold Lib.atoi
    have h1 : (b == 45) = false := by rw [beq_eq_false_iff_ne]; rintro rfl; revert h48; decide
    have h2 : (b == 43) = false := by rw [beq_eq_false_iff_ne]; rintro rfl; revert h48; decide
    simp only [h1, h2]
    rw [← hb, decNat_digits]
    simp only [Bool.false_eq_true, if_false, Option.map_some]
    congr 1; omega
/-- a number of nine digits at most -/
theorem itoa_short (n : Int) (h : n.natAbs < 1000000000) : (Lib.itoa n).length ≤ 10 := by
  have key : ∀ u : Nat, u < 1000000000 → Lib.nDigits u ≤ 9 := fun u hu => by
    rcases Nat.lt_or_ge 9 (Lib.nDigits u) with hk | hk
    · obtain ⟨k, hk'⟩ : ∃ k, Lib.nDigits u = k + 1 := ⟨Lib.nDigits u - 1, by have := Lib.nDigits_pos u; omega⟩
      have h10 : (10 : Nat) ^ 9 ≤ u := by
        by_cases hz : u < 10
        · rw [Lib.nDigits_small hz] at hk; omega
        · rcases Nat.lt_or_ge u (10 ^ 9) with hlt | hge
          · exfalso
            have hex : ∃ j, j < 9 ∧ 10 ^ j ≤ u ∧ u < 10 ^ (j + 1) := by
              have : ∀ m, u < 10 ^ m → m ≤ 9 → ∃ j, j < m ∧ (10 ^ j ≤ u) ∧ u < 10 ^ (j + 1) := by
                intro m
                induction m with
                | zero => intro h; simp at h; omega
                | succ m ih =>
                  intro h h9
                  rcases Nat.lt_or_ge u (10 ^ m) with h' | h'
                  · obtain ⟨j, h1, h2⟩ := ih h' (by omega); exact ⟨j, by omega, h2⟩
                  · exact ⟨m, by omega, h', h⟩
              obtain ⟨j, h1, h2⟩ := this 9 hlt (Nat.le_refl _)
              exact ⟨j, h1, h2⟩
            obtain ⟨j, hj, h1, h2⟩ := hex
            rw [Lib.nDigits_unique j u h1 h2] at hk
            omega
          · exact hge
      omega
    · omega
  unfold Lib.itoa
  split
  · simp only [List.length_cons, Lib.decDigits_length]; have := key n.natAbs h; omega
  · rw [Lib.decDigits_length]; have := key n.toNat (by omega); omega

/-! ## plain: lines and words -/
theorem indexByte_app {a : List UInt8} {c : UInt8} (h : c ∉ a) (r : List UInt8) : Lib.indexByte (a ++ c :: r) c = a.length := by
  induction a with
  | nil => simp [Lib.indexByte]
  | cons b a ih =>
    have hb : (b == c) = false := by rw [beq_eq_false_iff_ne]; rintro rfl; exact h (by simp)
    have hi := ih (fun hc => h (by simp [hc]))
    simp only [List.cons_append, Lib.indexByte, hb, Bool.false_eq_true, if_false, hi]
    rw [if_neg (by simp)]
    simp
theorem indexByte_none {a : List UInt8} {c : UInt8} (h : c ∉ a) : Lib.indexByte a c = -1 := by
  induction a with
  | nil => rfl
  | cons b a ih =>
    have hb : (b == c) = false := by rw [beq_eq_false_iff_ne]; rintro rfl; exact h (by simp)
    have hi := ih (fun hc => h (by simp [hc]))
    simp only [Lib.indexByte, hb, Bool.false_eq_true, if_false, hi]
    simp
theorem cut_line {a : List UInt8} (h : (10 : UInt8) ∉ a) (r : List UInt8) : Lib.cut (a ++ 10 :: r) [10] = (a, r, true) := by
  unfold Lib.cut
  rw [Lib.index_one, indexByte_app h, if_pos (by omega)]
  simp
/-- the words of a line -/
theorem split_words : ∀ (x : List UInt8) (r : List (List UInt8)), (∀ y ∈ x :: r, (32 : UInt8) ∉ y) → Lib.splitK [32] 0 r.length (Lib.join (x :: r) [32]) = x :: r
  | x, [], h => by simp [Lib.splitK, Lib.join_one]
  | x, y :: r, h => by
    have hx : (32 : UInt8) ∉ x := h x (by simp)
    have hj : Lib.join (x :: y :: r) [32] = x ++ 32 :: Lib.join (y :: r) [32] := by
      rw [Lib.join_cons, Lib.join_cons]; simp [Lib.joinTail]
    rw [hj, List.length_cons, Lib.splitK, Lib.index_one, indexByte_app hx, if_neg (by simp)]
    have ih := split_words y r (fun z hz => h z (by simp [List.mem_cons.1 hz]))
    have e1 : (x ++ 32 :: Lib.join (y :: r) [32]).take ((x.length : Int).toNat + 0) = x := by simp
    have e2 : (x ++ 32 :: Lib.join (y :: r) [32]).drop ((x.length : Int).toNat + [(32 : UInt8)].length) = Lib.join (y :: r) [32] := by
      rw [List.length_singleton, Int.toNat_natCast]; simp
    rw [e1, e2, ih]
theorem count_words : ∀ (x : List UInt8) (r : List (List UInt8)), (∀ y ∈ x :: r, (32 : UInt8) ∉ y) → (Lib.join (x :: r) [32]).count 32 = r.length
  | x, [], h => by rw [Lib.join_one, List.count_eq_zero.2 (h x (by simp))]; rfl
  | x, y :: r, h => by
    have hj : Lib.join (x :: y :: r) [32] = x ++ 32 :: Lib.join (y :: r) [32] := by
      rw [Lib.join_cons, Lib.join_cons]; simp [Lib.joinTail]
    have ih := count_words y r (fun z hz => h z (by simp [List.mem_cons.1 hz]))
    rw [hj, List.count_append, List.count_eq_zero.2 (h x (by simp)), List.count_cons_self, ih]
    simp
theorem bytes_ext {a b : ByteArray} (h : a.data.toList = b.data.toList) : a = b := by
  obtain ⟨⟨a⟩⟩ := a; obtain ⟨⟨b⟩⟩ := b
  simp at h; rw [h]
/-- what strings.Split finds in a line of numbers -/
theorem split_nums (x : Int) (r : List Int) : Lib.countB ⟨(Lib.join ((x :: r).map Lib.itoa) [32]).toArray⟩ ⟨#[32]⟩ = r.length ∧
    Lib.splitB ⟨#[32]⟩ 0 r.length ⟨(Lib.join ((x :: r).map Lib.itoa) [32]).toArray⟩ = (x :: r).map fun n => ⟨(Lib.itoa n).toArray⟩ := by
  have hw : ∀ y ∈ Lib.itoa x :: r.map Lib.itoa, (32 : UInt8) ∉ y := by
    intro y hy h32
    obtain ⟨n, _, rfl⟩ : ∃ n, n ∈ x :: r ∧ Lib.itoa n = y := List.mem_map.1 hy
    exact (numb_ne (itoa_numb n 32 h32)).1 rfl
  constructor
  · show Lib.count _ _ = _
    have h := count_words _ _ hw
    rw [List.length_map] at h
    rw [show (⟨#[32]⟩ : ByteArray).data.toList = [32] from rfl, Lib.count_one]
    simpa using h
  · have h1 := Lib.splitB_data ⟨#[32]⟩ 0 r.length ⟨(Lib.join ((x :: r).map Lib.itoa) [32]).toArray⟩
    have h2 := split_words _ _ hw
    rw [List.length_map] at h2
    rw [show (⟨#[32]⟩ : ByteArray).data.toList = [32] from rfl] at h1
    simp only [List.map_cons] at h1 h2
    rw [h2] at h1
    have key : ∀ (a : List ByteArray) (b : List Int), a.map (·.data.toList) = b.map Lib.itoa → a = b.map fun n => (⟨(Lib.itoa n).toArray⟩ : ByteArray) := by
      intro a
      induction a with
      | nil => intro b hb; cases b with
        | nil => rfl
        | cons _ _ => simp at hb
      | cons y a ih => intro b hb; cases b with
        | nil => simp at hb
        | cons n b =>
          simp only [List.map_cons, List.cons.injEq] at hb ⊢
          exact ⟨bytes_ext (by simpa using hb.1), ih b hb.2⟩
    exact key _ (x :: r) (by simpa using h1)
/-- no line feed in a line's numbers -/
theorem nl_join (l : List Int) : (10 : UInt8) ∉ Lib.join (l.map Lib.itoa) [32] := by
  cases l with
  | nil => simp [Lib.join, List.intercalate]
  | cons x r =>
    rw [List.map_cons, Lib.join_cons]
    intro h
    rcases List.mem_append.1 h with h | h
    · exact (numb_ne (itoa_numb x 10 h)).2 rfl
    · unfold Lib.joinTail at h
      obtain ⟨y, hy, hb⟩ := List.mem_flatten.1 h
      obtain ⟨z, hz, rfl⟩ := List.mem_map.1 hy
      obtain ⟨n, _, rfl⟩ := List.mem_map.1 hz
      rcases List.mem_append.1 hb with hb | hb
      · simp at hb
      · exact (numb_ne (itoa_numb n 10 hb)).2 rfl

/-! ## plain: the text, line by line -/
/-- the text from clause i on -/
def restT (cls : List (List Int)) (i : Nat) : List UInt8 := ((cls.drop i).map fun l => lineT (l ++ [0])).flatten
theorem restT_step (cls : List (List Int)) (i : Nat) (h : i < cls.length) : restT cls i = Lib.join ((cls.getD i [] ++ [0]).map Lib.itoa) [32] ++ 10 :: restT cls (i + 1) := by
  unfold restT
  rw [List.drop_eq_getElem_cons h, List.map_cons, List.flatten_cons]
  simp [lineT, List.getD, List.getElem?_eq_getElem h]
theorem restT_end (cls : List (List Int)) : restT cls cls.length = [] := by simp [restT]
theorem textC_head (v : Nat) (cls : List (List Int)) : textC v cls = (hdr ++ Lib.join ([(v : Int), (cls.length : Int)].map Lib.itoa) [32]) ++ 10 :: restT cls 0 := by
  unfold textC textP restT lineT
  simp [List.append_assoc]
theorem nl_head (l : List Int) : (10 : UInt8) ∉ hdr ++ Lib.join (l.map Lib.itoa) [32] := fun h => by
  rcases List.mem_append.1 h with h | h
  · revert h; decide
  · exact nl_join l h
theorem head_prefix (s : List UInt8) : Lib.hasPrefix (hdr ++ s) hdr = true ∧ Lib.trimPrefix (hdr ++ s) hdr = s := by
  have h1 : Lib.hasPrefix (hdr ++ s) hdr = true := by unfold Lib.hasPrefix; simp
  exact ⟨h1, by unfold Lib.trimPrefix; rw [if_pos h1]; simp⟩
end Go.Proofs.YtcifiibpiooeiaaGreatDoor
