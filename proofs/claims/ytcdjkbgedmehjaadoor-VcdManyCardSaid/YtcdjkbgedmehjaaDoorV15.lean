import Derived.Test.YtcdjkbgedmehjaaDoorV14
import Derived.Test.YtcdjkbgedmehjaaDoorV13
import Derived.Test.YtcdjkbgedmehjaaDoorP4
namespace Go.Proofs.YtcdjkbgedmehjaaDoor
set_option linter.unusedVariables false
open Go.RowKit Go.Sort

/-! # Read, of a text that Write wrote -/
def csOf (T : Trc) (n : Nat) : List (Nat × Nat) := (rowCh T n).map fun c => (c.1, c.2.2)
theorem apTo_apT (r : List Nat) (l : List (Nat × (Nat × Nat))) : apTo r (l.map fun c => (c.1, c.2.2)) = apT r l := by
  unfold apTo apT
  rw [List.foldl_map]
def rowS (S : RdS) (T : Trc) (n : Nat) (rows' : List (List VecE)) : RdS := { S with pos := 12 + 6 * T.vars.length + rowPos T n, top := T.top, vars := T.vars, ids := (List.range T.vars.length).map idL, rows := rows' }
theorem numsT (rows : List (List VecE)) : (nums rows).length = rows.length := by simp [nums]
theorem timeAt_of {S : RdS} {T : Trc} (hW : S.toks.map Prod.fst = (headLines T).flatten ++ rowsW T T.rows.length) (hT : TOk T) (hN : (S.toks.length : Int) ≤ 3000000) {n : Nat} (hn : n < T.rows.length) {rows' : List (List VecE)} (hr : rows'.length = n) :
    TimeAt (rowS S T n rows') T.vars.length n (csOf T n) := by
  have hwd : ∀ k x, k < (rowW T n).length → (rowW T n)[k]? = some x → ∃ y, S.toks[12 + 6 * T.vars.length + rowPos T n + k]? = some (x, y) := fun k x hk hx => tok_of hW (by
    rw [Nat.add_assoc, hw_r, rowsW_at T _ n hn k hk]; exact hx)
  have hgr : T.rows[n]? = some (T.rows.getD n []) := by rw [List.getD_eq_getElem?_getD, List.getElem?_eq_getElem hn]; rfl
  have hrow := hT.row n _ hgr
  refine ⟨rfl, rfl, hT.nv, fun i v hv => (hT.nms i v hv).2, hr, by have := hT.nr; omega, hN, ?_, fun j c hc => ?_, fun t ht => ?_⟩
  · have := hwd 0 _ (by rw [rowW_len]; omega) rfl
    rw [itoa_ds] at this
    exact this
  · unfold csOf at hc
    rw [List.getElem?_map] at hc
    obtain ⟨q, hq, rfl⟩ := Option.map_eq_some_iff.1 hc
    have hm := chL_mem _ _ _ q (List.mem_of_getElem? hq)
    rw [Nat.sub_zero] at hm
    have hjl : j < (rowCh T n).length := (List.getElem?_eq_some_iff.1 hq).1
    have hql : q.1 < T.vars.length := by rw [← hrow.1]; exact (List.getElem?_eq_some_iff.1 hm.2).1
    obtain ⟨v, hv⟩ : ∃ v, T.vars[q.1]? = some v := ⟨_, List.getElem?_eq_getElem hql⟩
    have hqv := hrow.2 q.1 q.2 v hm.2 hv
    have ha := flat2_at (rowCh T n) j q hq
    refine ⟨v, hv, by rw [← hqv.1]; exact hqv.2, ?_, ?_⟩
    · have := hwd (1 + 2 * j) (98 :: bitL q.2.1 q.2.2) (by rw [rowW_len]; omega) (by unfold rowW; rw [Nat.add_comm 1, List.getElem?_cons_succ]; exact ha.1)
      rw [← hqv.1]
      rw [← Nat.add_assoc] at this
      exact this
    · have := hwd (1 + 2 * j + 1) (idL q.1) (by rw [rowW_len]; omega) (by unfold rowW; rw [show 1 + 2 * j + 1 = 2 * j + 1 + 1 by omega, List.getElem?_cons_succ]; exact ha.2)
      rw [← Nat.add_assoc, ← Nat.add_assoc] at this
      exact this
  · have hl : (csOf T n).length = (rowCh T n).length := by simp [csOf]
    have ht' : S.toks[12 + 6 * T.vars.length + rowPos T n + 1 + 2 * (rowCh T n).length]? = some t := by rw [← hl]; exact ht
    rw [show 12 + 6 * T.vars.length + rowPos T n + 1 + 2 * (rowCh T n).length = 12 + 6 * T.vars.length + rowPos T (n + 1) by rw [rowPos_succ]; omega] at ht'
    have he : (S.toks.map Prod.fst)[12 + 6 * T.vars.length + rowPos T (n + 1)]? = some t.1 := by rw [List.getElem?_map, ht']; rfl
    rw [hW, hw_r, rowsW_end T _ (n + 1) (by omega)] at he
    by_cases h1 : n + 1 < T.rows.length
    · rw [if_pos h1] at he; exact ⟨_, (Option.some.inj he).symm⟩
    · rw [if_neg h1] at he; cases he
theorem apTo_row {T : Trc} (hT : TOk T) {n : Nat} (hn : n < T.rows.length) (h0 : n = 0) : apTo (List.replicate T.vars.length 0) (csOf T n) = (T.rows.getD n []).map Prod.snd := by
  have hgr : T.rows[n]? = some (T.rows.getD n []) := by rw [List.getD_eq_getElem?_getD, List.getElem?_eq_getElem hn]; rfl
  have hrow := (hT.row n _ hgr).1
  unfold csOf rowCh
  rw [apTo_apT]
  subst h0
  have h := apT_none (T.rows.getD 0 []) [] (List.replicate T.vars.length 0) (by rw [List.length_replicate, hrow])
  exact h
theorem apTo_row2 {T : Trc} (hT : TOk T) {k : Nat} (hn : k + 1 < T.rows.length) : apTo ((T.rows.getD k []).map Prod.snd) (csOf T (k + 1)) = (T.rows.getD (k + 1) []).map Prod.snd := by
  have hgr : ∀ j, j < T.rows.length → T.rows[j]? = some (T.rows.getD j []) := fun j hj => by rw [List.getD_eq_getElem?_getD, List.getElem?_eq_getElem hj]; rfl
  have h1 := (hT.row _ _ (hgr (k + 1) hn)).1
  have h2 := (hT.row _ _ (hgr k (by omega))).1
  unfold csOf rowCh
  rw [apTo_apT]
  have h := apT_some (T.rows.getD (k + 1) []) [] (T.rows.getD k []) (by rw [h1, h2])
  exact h
/-- the numbers of the first n rows -/
def numT (T : Trc) (n : Nat) : List (List Nat) := (T.rows.take n).map fun r => r.map Prod.snd
theorem numT_succ (T : Trc) {n : Nat} (hn : n < T.rows.length) : numT T (n + 1) = numT T n ++ [(T.rows.getD n []).map Prod.snd] := by
  unfold numT
  rw [List.take_add_one, List.map_append, List.getD_eq_getElem?_getD, List.getElem?_eq_getElem hn]
  rfl
theorem time_any {base b : Nat} {w : World} {S : RdS} {V : Key → Value} {T : Trc} {n : Nat} {rows' : List (List VecE)} (h : Rdr base b w (rowS S T n rows') V) (hW : S.toks.map Prod.fst = (headLines T).flatten ++ rowsW T T.rows.length) (hT : TOk T) (hN : (S.toks.length : Int) ≤ 3000000) (hn : n < T.rows.length) (hnu : nums rows' = numT T n) :
    Calls Tryd.prog 24 #[.pointer (some ⟨b, 0, none⟩)] w fun e w' => e = .returned (.tuple #[]) ∧ (∃ rows'' V', nums rows'' = numT T (n + 1) ∧ Rdr base b w' (rowS S T (n + 1) rows'') V') ∧ Below base w w' := by
  have hr : rows'.length = n := by
    have := congrArg List.length hnu
    rw [numsT] at this
    rw [this]; unfold numT; simp; omega
  have hta := timeAt_of hW hT hN hn hr
  have hpos : ∀ rows'', ({ rowS S T n rows' with pos := (rowS S T n rows').pos + 1 + 2 * (csOf T n).length, rows := rows'' } : RdS) = rowS S T (n + 1) rows'' := fun rows'' => by
    have hl : (csOf T n).length = (rowCh T n).length := by simp [csOf]
    unfold rowS
    simp only [RdS.mk.injEq, true_and, and_true]
    rw [hl, rowPos_succ]; omega
  cases hn0 : n with
  | zero =>
    subst hn0
    refine (time_zero h hta rfl).mono ?_
    rintro e w' ⟨rfl, ⟨rows'', V', hnu', hr'⟩, hb⟩
    rw [hpos] at hr'
    refine ⟨rfl, ⟨rows'', V', ?_, hr'⟩, hb⟩
    rw [hnu', numT_succ T hn, ← hnu, apTo_row hT hn rfl]
    rfl
  | succ k =>
    subst hn0
    refine (time_next h hta rfl).mono ?_
    rintro e w' ⟨rfl, ⟨rows'', V', hnu', hr'⟩, hb⟩
    rw [hpos] at hr'
    refine ⟨rfl, ⟨rows'', V', ?_, hr'⟩, hb⟩
    have e1 : (nums (rowS S T (k + 1) rows').rows).getD k [] = (T.rows.getD k []).map Prod.snd := by
      show (nums rows').getD k [] = _
      rw [hnu]
      unfold numT
      rw [List.getD_eq_getElem?_getD, List.getElem?_map, List.getElem?_take, if_pos (Nat.lt_succ_self k), List.getD_eq_getElem?_getD, List.getElem?_eq_getElem (show k < T.rows.length by omega)]
      rfl
    rw [hnu', numT_succ T hn, ← hnu, e1, apTo_row2 hT hn]
    rfl
end Go.Proofs.YtcdjkbgedmehjaaDoor
