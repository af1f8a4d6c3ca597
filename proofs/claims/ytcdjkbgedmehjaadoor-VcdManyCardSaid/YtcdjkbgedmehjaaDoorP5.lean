import Derived.Test.YtcdjkbgedmehjaaDoorV22
namespace Go.Proofs.YtcdjkbgedmehjaaDoor
set_option linter.unusedVariables false
open Go.RowKit Go.Sort

/-! # plain: the trace of VcdMany -/
def manyVars (n : Nat) : List (Bs × Nat) := (List.range n).map fun i => (118 :: idL i, 1 + i % 3)
def manyRow (n : Nat) : List (Nat × Nat) := (List.range n).map fun i => (1 + i % 3, i % 2 ^ (1 + i % 3))
def manyT (n m : Nat) : Trc := ⟨[116], manyVars n, List.replicate m (manyRow n)⟩
theorem manyVars_at {n i : Nat} (h : i < n) : (manyVars n)[i]? = some (118 :: idL i, 1 + i % 3) := by unfold manyVars; rw [List.getElem?_map, List.getElem?_range h]; rfl
theorem manyVars_len (n : Nat) : (manyVars n).length = n := by simp [manyVars]
theorem many_word (i : Nat) (h : i < 8836) : wordB (bstr (118 :: idL i)) = true := by
  have hl := idL_len i h
  unfold wordB printedB
  rw [bstr_size]
  have hs : seens (bstr (118 :: idL i)).data.toList = true := by
    have e : (bstr (118 :: idL i)).data.toList = 118 :: idL i := by simp [bstr]
    rw [e]
    unfold seens
    rw [List.all_cons]
    have := seens_idL i
    unfold seens at this
    rw [this]; decide
  rw [hs]
  have h1 : (118 :: idL i).length ≠ 0 := by simp
  have h2 : (118 :: idL i).length ≤ 200 := by simp only [List.length_cons]; omega
  rw [decide_eq_true h1, decide_eq_true h2]
  simp [bstr]
theorem many_words (n : Nat) (hn : n ≤ 303) : ((manyVars n).any fun x => !wordB (bstr x.1)) = false := by
  rw [List.any_eq_false]
  intro x hx
  obtain ⟨i, hi, rfl⟩ := List.mem_map.1 hx
  have := many_word i (by have := List.mem_range.1 hi; omega)
  simp [this]
theorem many_dup (n : Nat) : dupB (manyVars n) = false := by
  refine dupB_no _ fun i hi => ?_
  rw [manyVars_len] at hi
  rw [List.any_eq_false]
  intro x hx
  obtain ⟨j, hj, rfl⟩ := List.mem_iff_getElem.1 hx
  have hji : j < i := by simp at hj; omega
  have hg : (manyVars n).getD i default = (118 :: idL i, 1 + i % 3) := by rw [List.getD_eq_getElem?_getD, manyVars_at hi]; rfl
  have hj' : ((manyVars n).take i)[j]? = some (118 :: idL j, 1 + j % 3) := by rw [List.getElem?_take, if_pos hji, manyVars_at (by omega)]
  have hje : ((manyVars n).take i)[j] = (118 :: idL j, 1 + j % 3) := Option.some.inj ((List.getElem?_eq_getElem hj).symm.trans hj')
  rw [hje, hg]
  simp only [decide_eq_true_eq]
  intro e
  have := idL_inj j i (by simpa using e)
  omega
theorem many_wide (n : Nat) : ((manyVars n).any fun x => !wideB x.2) = false := by
  rw [List.any_eq_false]
  intro x hx
  obtain ⟨i, hi, rfl⟩ := List.mem_map.1 hx
  have : wideB (1 + i % 3) = true := by unfold wideB; rw [decide_eq_true (by omega), decide_eq_true (by omega)]; rfl
  simp [this]
theorem many_rows (n m : Nat) : ((manyT n m).rows.all (rowB (manyVars n))) = true := by
  rw [List.all_eq_true]
  intro r hr
  have : r = manyRow n := List.eq_of_mem_replicate hr
  subst this
  unfold rowB manyRow manyVars
  simp
theorem many_check (n m : Nat) (hn : n ≤ 303) : checkN (manyT n m) = if n ≤ 300 ∧ m ≤ 200 then 0 else 19 := by
  unfold checkN
  have ht : wordB (bstr (manyT n m).top) = true := by show wordB (bstr [116]) = true; decide
  have hv : (manyT n m).vars = manyVars n := rfl
  have hr : (manyT n m).rows.length = m := by simp [manyT]
  rw [ht, hv, many_words n hn, many_dup, many_wide, hr, manyVars_len, many_rows]
  simp only [Bool.not_true, Bool.or_self, Bool.false_eq_true, if_false, if_true]
  by_cases h1 : n ≤ 300
  · by_cases h2 : m ≤ 200
    · have hr1 : n ≤ 300 ∧ m ≤ 200 := ⟨h1, h2⟩
      rw [decide_eq_false (show ¬ 300 < n by omega), decide_eq_false (show ¬ 200 < m by omega), if_pos hr1]; rfl
    · have hr2 : ¬ (n ≤ 300 ∧ m ≤ 200) := fun h => h2 h.2
      rw [decide_eq_true (show 200 < m by omega), Bool.or_true, if_neg hr2]; rfl
  · have hr2 : ¬ (n ≤ 300 ∧ m ≤ 200) := fun h => h1 h.1
    rw [decide_eq_true (show 300 < n by omega), Bool.true_or, if_neg hr2]; rfl
theorem many_vals (n m : Nat) : ∀ r ∈ (manyT n m).rows, ∀ p ∈ r, p.2 < 2 ^ p.1 := by
  intro r hr p hp
  have : r = manyRow n := List.eq_of_mem_replicate hr
  subst this
  obtain ⟨i, _, rfl⟩ := List.mem_map.1 hp
  exact Nat.mod_lt _ (Nat.two_pow_pos _)
theorem lineW_len : ∀ ws : List Bs, (lineW ws).length ≤ (ws.map List.length).sum + ws.length
  | [] => by simp [lineW]
  | [w] => by simp [lineW]
  | w :: v :: r => by
    have ih := lineW_len (v :: r)
    simp only [lineW, List.length_append, List.length_cons, List.map_cons, List.sum_cons] at ih ⊢
    omega
theorem linesW_len (B : Nat) : ∀ ls : List (List Bs), (∀ l ∈ ls, (lineW l).length ≤ B) → (linesW ls).length ≤ B * ls.length
  | [], _ => by simp [linesW]
  | l :: ls, h => by
    have ih := linesW_len B ls fun x hx => h x (by simp [hx])
    have h1 := h l (by simp)
    have e : linesW (l :: ls) = lineW l ++ linesW ls := by simp [linesW]
    rw [e, List.length_append, List.length_cons, Nat.mul_succ]; omega
theorem varLines_n : ∀ (l : List (Bs × Nat)) (i : Nat), (varLines i l).length = l.length
  | [], _ => rfl
  | a :: l, i => by simp [varLines, varLines_n l (i + 1)]
theorem chLines_n : ∀ (r : List (Nat × Nat)) (i : Nat) (a : Option (List (Nat × Nat))), (chLines i a r).length ≤ r.length := by
  intro r i a
  rw [chLines_eq, List.length_map]
  induction r generalizing i a with
  | nil => simp [chL]
  | cons v r ih =>
    cases a with
    | none => simp only [chL, List.length_cons]; have := ih (i + 1) none; omega
    | some old =>
      cases old with
      | nil => simp only [chL, List.length_cons]; have := ih (i + 1) (some []); omega
      | cons u q =>
        simp only [chL, List.length_append, List.length_cons]
        have := ih (i + 1) (some q)
        split <;> simp <;> omega
theorem chLines_same : ∀ (r : List (Nat × Nat)) (i : Nat), chLines i (some r) r = []
  | [], _ => by simp [chLines]
  | v :: r, i => by simp [chLines, chLines_same r (i + 1)]
/-- a bound on the lines of a trace: B bytes each, N of them -/
theorem text_len {T : Trc} {B N : Nat} (h : ∀ l ∈ trcLines T, (lineW l).length ≤ B) (hn : (trcLines T).length ≤ N) : (trcText T).length ≤ B * N := by
  have := linesW_len B (trcLines T) h
  exact Nat.le_trans this (Nat.mul_le_mul_left B hn)
theorem itoa_len3 {n : Nat} (h : n < 1000) : (Lib.itoa (n : Int)).length ≤ 3 := by
  rw [itoa_ds, List.length_map]
  exact decDs_len n 2 h
/-- each line of a trace that may be is short -/
theorem line_bound {T : Trc} (hT : TOk T) : ∀ l ∈ trcLines T, (lineW l).length ≤ 450 := by
  have hname : ∀ s : Bs, wordB (bstr s) = true → s.length ≤ 200 := fun s h => by
    unfold wordB printedB at h
    rw [bstr_size] at h
    simp only [Bool.and_eq_true, decide_eq_true_eq] at h
    exact h.1.1.2
  have hcl : ∀ (r : List (Nat × Nat)) (i : Nat) (a : Option (List (Nat × Nat))), (∀ p ∈ r, p.1 ≤ 128) → i + r.length ≤ 300 → ∀ l ∈ chLines i a r, (lineW l).length ≤ 450 := by
    intro r i a hr hi l hl
    rw [chLines_eq] at hl
    obtain ⟨c, hc, rfl⟩ := List.mem_map.1 hl
    obtain ⟨h1, h2⟩ := chL_mem r i a c hc
    have hlt := (List.getElem?_eq_some_iff.1 h2).1
    have hw := hr _ (List.mem_of_getElem? h2)
    have hid := idL_len c.1 (by omega)
    refine Nat.le_trans (lineW_len _) ?_
    simp only [chWords, List.map_cons, List.map_nil, List.sum_cons, List.sum_nil, List.length_cons, List.length_nil, bitL_len]
    omega
  intro l hl
  simp only [trcLines, headLines, List.mem_append, List.mem_cons, List.not_mem_nil, or_false] at hl
  rcases hl with (((rfl | rfl) | hl) | rfl | rfl) | hl
  · exact of_decide_eq_true (by decide)
  · have := hname _ hT.top
    refine Nat.le_trans (lineW_len _) ?_
    simp only [List.map_cons, List.map_nil, List.sum_cons, List.sum_nil, List.length_cons, List.length_nil]
    have e1 : kScope.length = 6 := rfl
    have e2 : kModule.length = 6 := rfl
    have e3 : kEnd.length = 4 := rfl
    omega
  · obtain ⟨i, hi, rfl⟩ := List.mem_iff_getElem.1 hl
    rw [varLines_n] at hi
    have hg : ∀ (l : List (Bs × Nat)) (i0 i : Nat) (v : Bs × Nat), l[i]? = some v → (varLines i0 l)[i]? = some (varLine (i0 + i) v) := by
      intro l
      induction l with
      | nil => intro i0 i v h; simp at h
      | cons a l ih =>
        intro i0 i v h
        cases i with
        | zero => simp at h; subst h; rfl
        | succ i =>
          simp only [varLines, List.getElem?_cons_succ]
          rw [ih (i0 + 1) i v (by simpa using h), show i0 + 1 + i = i0 + (i + 1) by omega]
    have hv : T.vars[i]? = some T.vars[i] := List.getElem?_eq_getElem hi
    have he := hg T.vars 0 i _ hv
    rw [Nat.zero_add] at he
    have he2 := (List.getElem?_eq_getElem (show i < (varLines 0 T.vars).length by rw [varLines_n]; exact hi)).symm.trans he
    rw [Option.some.inj he2]
    have hn := hT.nms i _ hv
    have h1 := hname _ hn.1
    have h2 := itoa_len3 (n := T.vars[i].2) (by omega)
    have h3 := idL_len i (by have := hT.nv; omega)
    refine Nat.le_trans (lineW_len _) ?_
    simp only [varLine, List.map_cons, List.map_nil, List.sum_cons, List.sum_nil, List.length_cons, List.length_nil]
    have e1 : kVar.length = 4 := rfl
    have e2 : kWire.length = 4 := rfl
    have e3 : kEnd.length = 4 := rfl
    omega
  · exact of_decide_eq_true (by decide)
  · exact of_decide_eq_true (by decide)
  · have hrt : ∀ n, n ≤ T.rows.length → ∀ l ∈ rowsTo T.rows n, (lineW l).length ≤ 450 := by
      intro n
      induction n with
      | zero => intro _ l hl; simp [rowsTo] at hl
      | succ n ih =>
        intro hn l hl
        simp only [rowsTo, rowLines, List.mem_append, List.mem_cons] at hl
        rcases hl with hl | rfl | hl
        · exact ih (by omega) l hl
        · have h2 := itoa_len3 (n := n) (by have := hT.nr; omega)
          refine Nat.le_trans (lineW_len _) ?_
          simp only [List.map_cons, List.map_nil, List.sum_cons, List.sum_nil, List.length_cons, List.length_nil]
          omega
        · have hgr : T.rows[n]? = some (T.rows.getD n []) := by rw [List.getD_eq_getElem?_getD, List.getElem?_eq_getElem (show n < T.rows.length by omega)]; rfl
          have hrow := hT.row n _ hgr
          refine hcl _ 0 _ (fun p hp => ?_) (by rw [hrow.1]; have := hT.nv; omega) l hl
          obtain ⟨j, hj, rfl⟩ := List.mem_iff_getElem.1 hp
          have hjv : j < T.vars.length := by rw [← hrow.1]; exact hj
          have := hrow.2 j _ _ (List.getElem?_eq_getElem hj) (List.getElem?_eq_getElem hjv)
          rw [this.1]
          exact (hT.nms j _ (List.getElem?_eq_getElem hjv)).2.2
    exact hrt _ (Nat.le_refl _) l hl
theorem many_rowsTo (n : Nat) (m : Nat) : ∀ k, k ≤ m → (rowsTo (List.replicate m (manyRow n)) k).length ≤ k + n := by
  intro k
  induction k with
  | zero => intro _; simp [rowsTo]
  | succ k ih =>
    intro hk
    have hgd : ∀ j, j < m → (List.replicate m (manyRow n)).getD j [] = manyRow n := fun j hj => by simp [List.getD, hj]
    cases k with
    | zero =>
      have hc := chLines_n (manyRow n) 0 none
      have hl : (manyRow n).length = n := by simp [manyRow]
      simp only [rowsTo, rowLines, prev, List.nil_append, hgd 0 (by omega), List.length_cons]
      omega
    | succ k =>
      have ih' := ih (by omega)
      rw [rowsTo, List.length_append]
      have e : rowLines (k + 1) (prev (List.replicate m (manyRow n)) (k + 1)) ((List.replicate m (manyRow n)).getD (k + 1) []) = [[35 :: Lib.itoa ((k + 1 : Nat) : Int)]] := by
        unfold rowLines prev
        simp only [hgd (k + 1) (by omega), hgd k (by omega), chLines_same]
      rw [e]
      simp only [List.length_cons, List.length_nil]
      omega
theorem many_len (n m : Nat) (hn : n ≤ 300) (hm : m ≤ 200) : (trcText (manyT n m)).length ≤ 1000000 := by
  have hT : TOk (manyT n m) := tok_of_check (by rw [many_check n m (by omega), if_pos ⟨hn, hm⟩]) (many_vals n m)
  have hl : (trcLines (manyT n m)).length ≤ 1000 := by
    unfold trcLines headLines
    simp only [List.length_append, List.length_cons, List.length_nil, varLines_n]
    have h1 : (manyT n m).vars.length = n := manyVars_len n
    have h2 : (manyT n m).rows.length = m := by simp [manyT]
    have h3 := many_rowsTo n m m (Nat.le_refl _)
    have h4 : (rowsTo (manyT n m).rows (manyT n m).rows.length).length ≤ m + n := by rw [h2]; exact h3
    omega
  exact Nat.le_trans (text_len (line_bound hT) hl) (by decide)
end Go.Proofs.YtcdjkbgedmehjaaDoor
