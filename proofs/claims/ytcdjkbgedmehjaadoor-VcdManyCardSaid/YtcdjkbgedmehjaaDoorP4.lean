import Derived.Test.YtcdjkbgedmehjaaDoorP3
namespace Go.Proofs.YtcdjkbgedmehjaaDoor
set_option linter.unusedVariables false

/-! # plain: the words of the times -/
/-- what changes: a Var's number, its width and value -/
def chL : Nat → Option (List (Nat × Nat)) → List (Nat × Nat) → List (Nat × (Nat × Nat))
  | _, _, [] => []
  | i, none, v :: r => (i, v) :: chL (i + 1) none r
  | i, some [], v :: r => (i, v) :: chL (i + 1) (some []) r
  | i, some (u :: q), v :: r => (if u = v then [] else [(i, v)]) ++ chL (i + 1) (some q) r
def chWords (c : Nat × (Nat × Nat)) : List (List UInt8) := [98 :: bitL c.2.1 c.2.2, idL c.1]
theorem chLines_eq : ∀ (r : List (Nat × Nat)) (i : Nat) (a : Option (List (Nat × Nat))), chLines i a r = (chL i a r).map chWords
  | [], _, _ => by simp [chLines, chL]
  | v :: r, i, none => by simp [chLines, chL, chLines_eq r (i + 1) none, chWords]
  | v :: r, i, some [] => by simp [chLines, chL, chLines_eq r (i + 1) (some []), chWords]
  | v :: r, i, some (u :: q) => by
    simp only [chLines, chL, chLines_eq r (i + 1) (some q), List.map_append]
    by_cases h : u = v
    · simp [h]
    · simp [h, chWords]
def apT (r : List Nat) (cs : List (Nat × (Nat × Nat))) : List Nat := cs.foldl (fun r c => r.set c.1 c.2.2) r
theorem apT_app (r : List Nat) (a b : List (Nat × (Nat × Nat))) : apT r (a ++ b) = apT (apT r a) b := by simp [apT]
theorem apT_none : ∀ (r : List (Nat × Nat)) (pre old : List Nat), old.length = r.length → apT (pre ++ old) (chL pre.length none r) = pre ++ r.map Prod.snd
  | [], pre, old, h => by
    have : old = [] := List.eq_nil_of_length_eq_zero h
    subst this; simp [chL, apT]
  | v :: r, pre, [], h => by simp at h
  | v :: r, pre, o :: old, h => by
    have ih := apT_none r (pre ++ [v.2]) old (by simpa using h)
    rw [List.length_append, List.length_cons, List.length_nil, Nat.zero_add] at ih
    have e : chL pre.length none (v :: r) = [(pre.length, v)] ++ chL (pre.length + 1) none r := rfl
    have e2 : apT (pre ++ o :: old) [(pre.length, v)] = (pre ++ [v.2]) ++ old := by
      simp [apT, List.set_append_right]
    rw [e, apT_app, e2, ih]
    simp
theorem apT_some : ∀ (r : List (Nat × Nat)) (pre : List Nat) (old : List (Nat × Nat)), old.length = r.length → apT (pre ++ old.map Prod.snd) (chL pre.length (some old) r) = pre ++ r.map Prod.snd
  | [], pre, old, h => by
    have : old = [] := List.eq_nil_of_length_eq_zero h
    subst this; simp [chL, apT]
  | v :: r, pre, [], h => by simp at h
  | v :: r, pre, o :: old, h => by
    have ih := apT_some r (pre ++ [v.2]) old (by simpa using h)
    rw [List.length_append, List.length_cons, List.length_nil, Nat.zero_add] at ih
    have e : chL pre.length (some (o :: old)) (v :: r) = (if o = v then [] else [(pre.length, v)]) ++ chL (pre.length + 1) (some old) r := rfl
    have e2 : apT (pre ++ (o :: old).map Prod.snd) (if o = v then [] else [(pre.length, v)]) = (pre ++ [v.2]) ++ old.map Prod.snd := by
      by_cases ho : o = v
      · subst ho; simp [apT]
      · simp [ho, apT, List.set_append_right]
    rw [e, apT_app, e2, ih]
    simp
theorem chL_mem : ∀ (r : List (Nat × Nat)) (i : Nat) (a : Option (List (Nat × Nat))) (c : Nat × (Nat × Nat)), c ∈ chL i a r → i ≤ c.1 ∧ r[c.1 - i]? = some c.2
  | [], _, _, _, h => by simp [chL] at h
  | v :: r, i, none, c, h => by
    simp only [chL, List.mem_cons] at h
    rcases h with rfl | h
    · simp
    · obtain ⟨h1, h2⟩ := chL_mem r (i + 1) none c h
      refine ⟨by omega, ?_⟩
      rw [show c.1 - i = c.1 - (i + 1) + 1 by omega, List.getElem?_cons_succ]; exact h2
  | v :: r, i, some [], c, h => by
    simp only [chL, List.mem_cons] at h
    rcases h with rfl | h
    · simp
    · obtain ⟨h1, h2⟩ := chL_mem r (i + 1) (some []) c h
      refine ⟨by omega, ?_⟩
      rw [show c.1 - i = c.1 - (i + 1) + 1 by omega, List.getElem?_cons_succ]; exact h2
  | v :: r, i, some (u :: q), c, h => by
    simp only [chL, List.mem_append] at h
    rcases h with h | h
    · by_cases hu : u = v
      · simp [hu] at h
      · simp [hu] at h; subst h; simp
    · obtain ⟨h1, h2⟩ := chL_mem r (i + 1) (some q) c h
      refine ⟨by omega, ?_⟩
      rw [show c.1 - i = c.1 - (i + 1) + 1 by omega, List.getElem?_cons_succ]; exact h2
/-- row n's changes -/
def rowCh (T : Trc) (n : Nat) : List (Nat × (Nat × Nat)) := chL 0 (prev T.rows n) (T.rows.getD n [])
def rowW (T : Trc) (n : Nat) : List (List UInt8) := (35 :: Lib.itoa (n : Int)) :: ((rowCh T n).map chWords).flatten
theorem rowLines_flat (T : Trc) (n : Nat) : (rowLines n (prev T.rows n) (T.rows.getD n [])).flatten = rowW T n := by
  unfold rowLines rowW rowCh
  rw [chLines_eq]
  rfl
def rowsW (T : Trc) : Nat → List (List UInt8)
  | 0 => []
  | n + 1 => rowsW T n ++ rowW T n
theorem rowsTo_flat (T : Trc) : ∀ n, (rowsTo T.rows n).flatten = rowsW T n
  | 0 => rfl
  | n + 1 => by
    unfold rowsTo rowsW
    rw [List.flatten_append, rowsTo_flat T n, rowLines_flat]
theorem flat2_at (l : List (Nat × (Nat × Nat))) (j : Nat) (c : Nat × (Nat × Nat)) (h : l[j]? = some c) : ((l.map chWords).flatten)[2 * j]? = some (98 :: bitL c.2.1 c.2.2) ∧ ((l.map chWords).flatten)[2 * j + 1]? = some (idL c.1) := by
  induction l generalizing j with
  | nil => simp at h
  | cons a l ih =>
    cases j with
    | zero => simp at h; subst h; exact ⟨rfl, rfl⟩
    | succ j =>
      have hh := ih j (by simpa using h)
      have e : ((a :: l).map chWords).flatten = (98 :: bitL a.2.1 a.2.2) :: idL a.1 :: (l.map chWords).flatten := rfl
      rw [e, show 2 * (j + 1) = 2 * j + 1 + 1 by omega, List.getElem?_cons_succ, List.getElem?_cons_succ, List.getElem?_cons_succ]
      exact hh
theorem flat2_len (l : List (Nat × (Nat × Nat))) : ((l.map chWords).flatten).length = 2 * l.length := by
  induction l with
  | nil => rfl
  | cons a l ih =>
    have e : ((a :: l).map chWords).flatten = (98 :: bitL a.2.1 a.2.2) :: idL a.1 :: (l.map chWords).flatten := rfl
    rw [e, List.length_cons, List.length_cons, ih, List.length_cons]; omega
theorem rowW_len (T : Trc) (n : Nat) : (rowW T n).length = 1 + 2 * (rowCh T n).length := by unfold rowW; rw [List.length_cons, flat2_len]; omega
/-- where row n begins, behind the head -/
def rowPos (T : Trc) (n : Nat) : Nat := (rowsW T n).length
theorem rowPos_succ (T : Trc) (n : Nat) : rowPos T (n + 1) = rowPos T n + 1 + 2 * (rowCh T n).length := by
  unfold rowPos
  rw [show rowsW T (n + 1) = rowsW T n ++ rowW T n from rfl, List.length_append, rowW_len]; omega
/-- the words of row n, in all of them -/
theorem rowsW_at (T : Trc) : ∀ (N n : Nat), n < N → ∀ k, k < (rowW T n).length → (rowsW T N)[rowPos T n + k]? = (rowW T n)[k]?
  | 0, _, h, _, _ => absurd h (Nat.not_lt_zero _)
  | N + 1, n, h, k, hk => by
    show (rowsW T N ++ rowW T N)[rowPos T n + k]? = _
    by_cases hn : n = N
    · subst hn
      rw [List.getElem?_append_right (by unfold rowPos; omega)]
      unfold rowPos
      rw [Nat.add_sub_cancel_left]
    · have ih := rowsW_at T N n (by omega) k hk
      rw [List.getElem?_append_left, ih]
      by_cases hh : rowPos T n + k < (rowsW T N).length
      · exact hh
      · rw [List.getElem?_eq_none (by omega), List.getElem?_eq_getElem hk] at ih; cases ih
theorem rowsW_end (T : Trc) (N n : Nat) (h : n ≤ N) : (rowsW T N)[rowPos T n]? = if n < N then some (35 :: Lib.itoa (n : Int)) else none := by
  by_cases hn : n < N
  · have := rowsW_at T N n hn 0 (by rw [rowW_len]; omega)
    rw [Nat.add_zero] at this
    rw [this, if_pos hn]; rfl
  · obtain rfl : n = N := by omega
    rw [if_neg hn, List.getElem?_eq_none (by unfold rowPos; omega)]
theorem trc_words (T : Trc) : (trcLines T).flatten = (headLines T).flatten ++ rowsW T T.rows.length := by
  unfold trcLines
  rw [List.flatten_append, rowsTo_flat]
/-! # plain: words have no blanks -/
theorem okW_of {w : List UInt8} (h0 : w ≠ []) (h : ∀ c ∈ w, 33 ≤ c.toNat ∧ c.toNat < 127) : okW w := by
  refine ⟨h0, fun c hc => ?_⟩
  have := h c hc
  unfold blankB
  have e : ∀ k : UInt8, k.toNat ≤ 32 → (c == k) = false := fun k hk => by
    rw [beq_eq_false_iff_ne]; rintro rfl; omega
  rw [e 32 (by decide), e 9 (by decide), e 13 (by decide), e 10 (by decide)]; rfl
theorem itoa_seen (n : Nat) : Lib.itoa (n : Int) ≠ [] ∧ ∀ c ∈ Lib.itoa (n : Int), 33 ≤ c.toNat ∧ c.toNat < 127 := by
  rw [itoa_ds]
  refine ⟨by simpa using decDs_ne n, fun c hc => ?_⟩
  obtain ⟨d, hd, rfl⟩ := List.mem_map.1 hc
  have := decDs_lt n d hd
  simp only [UInt8.toNat_ofNat']; omega
theorem bitL_seen (n x : Nat) : ∀ c ∈ bitL n x, 33 ≤ c.toNat ∧ c.toNat < 127 := by
  intro c hc
  obtain ⟨j, _, rfl⟩ := List.mem_map.1 hc
  split <;> decide
theorem idL_ne (n : Nat) : idL n ≠ [] := by rw [idL]; split <;> simp
theorem okW_id (n : Nat) : okW (idL n) := okW_of (idL_ne n) (idL_seen n)
theorem okW_cons {c : UInt8} {w : List UInt8} (hc : 33 ≤ c.toNat ∧ c.toNat < 127) (h : ∀ c ∈ w, 33 ≤ c.toNat ∧ c.toNat < 127) : okW (c :: w) :=
  okW_of (by simp) (fun d hd => by
    rcases List.mem_cons.1 hd with rfl | hd
    · exact hc
    · exact h d hd)
theorem lines_ok (T : Trc) (ht : okW T.top) (hv : ∀ v ∈ T.vars, okW v.1) : ∀ l ∈ trcLines T, l ≠ [] ∧ ∀ w ∈ l, okW w := by
  have hvl : ∀ (vs : List (List UInt8 × Nat)) (i : Nat), (∀ v ∈ vs, okW v.1) → ∀ l ∈ varLines i vs, l ≠ [] ∧ ∀ w ∈ l, okW w := by
    intro vs
    induction vs with
    | nil => intro i _ l hl; simp [varLines] at hl
    | cons v vs ih =>
      intro i hv l hl
      simp only [varLines, List.mem_cons] at hl
      rcases hl with rfl | hl
      · refine ⟨by simp [varLine], fun w hw => ?_⟩
        simp only [varLine, List.mem_cons, List.not_mem_nil, or_false] at hw
        rcases hw with rfl | rfl | rfl | rfl | rfl | rfl
        · exact okW_of (by decide) (by decide)
        · exact okW_of (by decide) (by decide)
        · exact okW_of (itoa_seen _).1 (itoa_seen _).2
        · exact okW_id _
        · exact hv v (by simp)
        · exact okW_of (by decide) (by decide)
      · exact ih (i + 1) (fun u hu => hv u (by simp [hu])) l hl
  have hch : ∀ (r : List (Nat × Nat)) (i : Nat) (a : Option (List (Nat × Nat))), ∀ l ∈ chLines i a r, l ≠ [] ∧ ∀ w ∈ l, okW w := by
    intro r i a l hl
    rw [chLines_eq] at hl
    obtain ⟨c, _, rfl⟩ := List.mem_map.1 hl
    refine ⟨by simp [chWords], fun w hw => ?_⟩
    simp only [chWords, List.mem_cons, List.not_mem_nil, or_false] at hw
    rcases hw with rfl | rfl
    · exact okW_cons (by decide) (bitL_seen _ _)
    · exact okW_id _
  have hrw : ∀ n, ∀ l ∈ rowsTo T.rows n, l ≠ [] ∧ ∀ w ∈ l, okW w := by
    intro n
    induction n with
    | zero => intro l hl; simp [rowsTo] at hl
    | succ n ih =>
      intro l hl
      simp only [rowsTo, rowLines, List.mem_append, List.mem_cons] at hl
      rcases hl with hl | rfl | hl
      · exact ih l hl
      · refine ⟨by simp, fun w hw => ?_⟩
        simp only [List.mem_cons, List.not_mem_nil, or_false] at hw
        subst hw
        exact okW_cons (by decide) (itoa_seen _).2
      · exact hch _ _ _ l hl
  intro l hl
  simp only [trcLines, headLines, List.mem_append, List.mem_cons, List.not_mem_nil, or_false] at hl
  rcases hl with (((rfl | rfl) | hl) | rfl | rfl) | hl
  · exact ⟨by simp, fun w hw => by
      simp only [List.mem_cons, List.not_mem_nil, or_false] at hw
      rcases hw with rfl | rfl | rfl | rfl <;> exact okW_of (by decide) (by decide)⟩
  · exact ⟨by simp, fun w hw => by
      simp only [List.mem_cons, List.not_mem_nil, or_false] at hw
      rcases hw with rfl | rfl | rfl | rfl
      · exact okW_of (by decide) (by decide)
      · exact okW_of (by decide) (by decide)
      · exact ht
      · exact okW_of (by decide) (by decide)⟩
  · exact hvl T.vars 0 hv l hl
  · exact ⟨by simp, fun w hw => by
      simp only [List.mem_cons, List.not_mem_nil, or_false] at hw
      rcases hw with rfl | rfl <;> exact okW_of (by decide) (by decide)⟩
  · exact ⟨by simp, fun w hw => by
      simp only [List.mem_cons, List.not_mem_nil, or_false] at hw
      rcases hw with rfl | rfl <;> exact okW_of (by decide) (by decide)⟩
  · exact hrw _ l hl
end Go.Proofs.YtcdjkbgedmehjaaDoor
