import Derived.Test.YtcdjkbgedmehjaaDoorP2
namespace Go.Proofs.YtcdjkbgedmehjaaDoor
set_option linter.unusedVariables false

/-! # plain: where the words of a head stand -/
def decDs (n : Nat) : List Nat := if h : n < 10 then [n] else decDs (n / 10) ++ [n % 10]
termination_by n
decreasing_by omega
theorem decDs_ne (n : Nat) : decDs n ≠ [] := by rw [decDs]; split <;> simp
theorem decDs_lt (n : Nat) : ∀ d ∈ decDs n, d < 10 := by
  induction n using Nat.strongRecOn with
  | ind n ih =>
    rw [decDs]
    split
    · intro d hd; simp at hd; omega
    · intro d hd
      rcases List.mem_append.1 hd with h | h
      · exact ih (n / 10) (by omega) d h
      · simp at h; omega
theorem decDs_len (n : Nat) : ∀ k, n < 10 ^ (k + 1) → (decDs n).length ≤ k + 1 := by
  induction n using Nat.strongRecOn with
  | ind n ih =>
    intro k hk
    rw [decDs]
    split
    · simp
    · cases k with
      | zero => simp at hk; omega
      | succ k =>
        have h := ih (n / 10) (by omega) k (by rw [Nat.pow_succ] at hk; omega)
        rw [List.length_append]; simp only [List.length_cons, List.length_nil]; omega
def decVal (ds : List Nat) : Nat := ds.foldl (fun n d => 10 * n + d) 0
theorem decDs_val (n : Nat) : decVal (decDs n) = n := by
  induction n using Nat.strongRecOn with
  | ind n ih =>
    rw [decDs]
    split
    · simp [decVal]
    · have h := ih (n / 10) (by omega)
      unfold decVal at h ⊢
      rw [List.foldl_append, h]
      simp only [List.foldl_cons, List.foldl_nil]
      omega
theorem decDigits_ds (n : Nat) : Lib.decDigits n = (decDs n).map fun d => UInt8.ofNat (48 + d) := by
  induction n using Nat.strongRecOn with
  | ind n ih =>
    rw [decDs, Lib.decDigits]
    split
    · rfl
    · rw [ih (n / 10) (by omega)]; simp
theorem itoa_ds (n : Nat) : Lib.itoa (n : Int) = (decDs n).map fun d => UInt8.ofNat (48 + d) := by rw [Lib.itoa_nonneg]; exact decDigits_ds n
theorem varLines_at : ∀ (l : List (List UInt8 × Nat)) (i0 i : Nat) (v : List UInt8 × Nat), l[i]? = some v → ∀ k, k < 6 → (varLines i0 l).flatten[6 * i + k]? = (varLine (i0 + i) v)[k]?
  | [], _, _, _, h => by simp at h
  | a :: l, i0, 0, v, h => by
    simp at h; subst h
    intro k hk
    simp only [varLines, List.flatten_cons, Nat.mul_zero, Nat.zero_add, Nat.add_zero]
    rw [List.getElem?_append_left (by simpa [varLine] using hk)]
  | a :: l, i0, i + 1, v, h => by
    intro k hk
    have ih := varLines_at l (i0 + 1) i v (by simpa using h) k hk
    simp only [varLines, List.flatten_cons]
    have e : 6 * (i + 1) + k = (varLine i0 a).length + (6 * i + k) := by simp [varLine]; omega
    rw [e, List.getElem?_append_right (by omega), Nat.add_sub_cancel_left, ih]
    congr 2; omega
theorem varLines_len : ∀ (l : List (List UInt8 × Nat)) (i0 : Nat), (varLines i0 l).flatten.length = 6 * l.length
  | [], _ => rfl
  | a :: l, i0 => by
    have ih := varLines_len l (i0 + 1)
    simp only [varLines, List.flatten_cons, List.length_append, ih, varLine, List.length_cons, List.length_nil]
    omega
def headA (T : Trc) : List (List UInt8) := [kTs, kOne, kNs, kEnd, kScope, kModule, T.top, kEnd]
def headB : List (List UInt8) := [kUp, kEnd, kEd, kEnd]
theorem head_words (T : Trc) : (headLines T).flatten = headA T ++ ((varLines 0 T.vars).flatten ++ headB) := by
  unfold headLines headA headB
  simp
/-- word j of a text that begins with this head -/
theorem hw_a {T : Trc} {R : List (List UInt8)} (j : Nat) (hj : j < 8) : ((headLines T).flatten ++ R)[j]? = (headA T)[j]? := by
  rw [head_words, List.append_assoc, List.getElem?_append_left (by simpa [headA] using hj)]
theorem hw_v {T : Trc} {R : List (List UInt8)} (i : Nat) (v : List UInt8 × Nat) (hi : T.vars[i]? = some v) (k : Nat) (hk : k < 6) : ((headLines T).flatten ++ R)[8 + 6 * i + k]? = (varLine i v)[k]? := by
  have hl : i < T.vars.length := (List.getElem?_eq_some_iff.1 hi).1
  have h := varLines_at T.vars 0 i v hi k hk
  rw [head_words, List.append_assoc, List.getElem?_append_right (by simp [headA]; omega), show 8 + 6 * i + k - (headA T).length = 6 * i + k by simp [headA]; omega, List.append_assoc, List.getElem?_append_left (by rw [varLines_len]; omega), h]
  simp
theorem hw_b {T : Trc} {R : List (List UInt8)} (k : Nat) (hk : k < 4) : ((headLines T).flatten ++ R)[8 + 6 * T.vars.length + k]? = headB[k]? := by
  rw [head_words, List.append_assoc, List.getElem?_append_right (by simp [headA]; omega), show 8 + 6 * T.vars.length + k - (headA T).length = 6 * T.vars.length + k by simp [headA]; omega, List.append_assoc, List.getElem?_append_right (by rw [varLines_len]; omega), varLines_len, Nat.add_sub_cancel_left, List.getElem?_append_left (by simpa [headB] using hk)]
theorem hw_r {T : Trc} {R : List (List UInt8)} (k : Nat) : ((headLines T).flatten ++ R)[12 + 6 * T.vars.length + k]? = R[k]? := by
  have hl : (headLines T).flatten.length = 12 + 6 * T.vars.length := by rw [head_words]; simp only [List.length_append, varLines_len, headA, headB, List.length_cons, List.length_nil]; omega
  rw [List.getElem?_append_right (by omega), hl, Nat.add_sub_cancel_left]
/-! # the names of Vars -/
theorem idL_inj : ∀ (n m : Nat), idL n = idL m → n = m := by
  intro n
  induction n using Nat.strongRecOn with
  | ind n ih =>
    intro m h
    rw [idL, idL.eq_1 m] at h
    split at h
    · split at h
      · simp only [List.cons.injEq, and_true] at h
        have := congrArg UInt8.toNat h
        simp only [UInt8.toNat_ofNat'] at this
        omega
      · rw [idL] at h
        split at h <;> simp at h
    · split at h
      · rw [idL] at h
        split at h <;> simp at h
      · simp only [List.cons.injEq] at h
        have h1 := congrArg UInt8.toNat h.1
        have h2 := ih (n / 94) (by omega) (m / 94) h.2
        simp only [UInt8.toNat_ofNat'] at h1
        omega
theorem idL_seen (n : Nat) : ∀ c ∈ idL n, 33 ≤ c.toNat ∧ c.toNat < 127 := by
  induction n using Nat.strongRecOn with
  | ind n ih =>
    rw [idL]
    split
    · intro c hc
      simp only [List.mem_cons, List.not_mem_nil, or_false] at hc
      subst hc
      simp only [UInt8.toNat_ofNat']; omega
    · intro c hc
      rcases List.mem_cons.1 hc with h | h
      · subst h; simp only [UInt8.toNat_ofNat']; omega
      · exact ih (n / 94) (by omega) c h
theorem idL_len (n : Nat) (h : n < 8836) : 1 ≤ (idL n).length ∧ (idL n).length ≤ 2 := by
  rw [idL]
  split
  · simp
  · rw [idL, dif_pos (by omega)]; simp
end Go.Proofs.YtcdjkbgedmehjaaDoor
