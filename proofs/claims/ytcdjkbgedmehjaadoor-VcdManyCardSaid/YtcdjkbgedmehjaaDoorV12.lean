import Derived.Test.YtcdjkbgedmehjaaDoorV11
namespace Go.Proofs.YtcdjkbgedmehjaaDoor
set_option linter.unusedVariables false
open Go.RowKit Go.Sort

/-! # the reader: a row that comes new -/
theorem rowCells_one (l : List VecE) : ∀ u ∈ rowCells l, u.oneCell' = true := by
  intro u hu
  obtain ⟨x, hx, hu⟩ := List.mem_flatten.1 hu
  obtain ⟨e, _, rfl⟩ := List.mem_map.1 hx
  simp only [List.mem_cons, List.not_mem_nil, or_false] at hu
  rcases hu with rfl | rfl <;> rfl
set_option maxRecDepth 100000 in
theorem clone_row {w : World} {v : Value} {m : Nat} {xs : List Value} (h : RO w v 2 m xs) (h1 : ∀ u ∈ xs, u.oneCell' = true) (hm : m ≤ 1000000) : Calls Tryd.prog 50 #[v] w fun e w' => ∃ v', e = .returned v' ∧ w'.ownsRow w.heap.size 33 2 v' m xs ∧ Below w.heap.size w w' := by
  have H := Lib.hid h
  have H1 := Lib.hid h1
  obtain ⟨hl, p, c, rfl, hcell⟩ := h
  cases p with
  | none =>
    have hx : xs = [] := by
      cases xs with
      | nil => rfl
      | cons u r => obtain ⟨b, o', hb, _⟩ := hcell 0 u rfl; cases hb
    subst hx
    obtain rfl : m = 0 := by simp at hl; omega
    have hnil := fun w' => Lib.run_eql_slice_nil (P := Tryd.prog) w' 27 33 none 0 c 0 0 Tryd.underlying27
    clear H H1 h1 hcell hl
    go_enter Tryd.func50, Tryd.ntmps50
    go_wp2_with fail
    go_ret
    exact ⟨_, rfl, ⟨rfl, .inl ⟨rfl, rfl⟩⟩, Below.refl _ _⟩
  | some ad =>
    have hnil := fun w' => Lib.run_eql_slice_nil (P := Tryd.prog) w' 27 33 (some ad) m c 0 0 Tryd.underlying27
    have hs0 := (Blk.new (w := w) 33 []).own (n := 0) (size := 2) (by simp) (Nat.zero_le _) w.heap.size (Nat.le_refl _)
    have HS := Lib.hid (And.intro hs0 (And.intro (H.out.below (Below.new w (.cells #[] 33))) (Below.new w (.cells #[] 33))))
    clear hcell hl h1 hs0
    go_enter Tryd.func50, Tryd.ntmps50
    go_wp2_with (at_builtin; go_must (refine wpList_appR rfl  _ _ 27 rfl TVecs w.heap.size (.slice (some ⟨w.heap.size, 0, none⟩) 0 0) 0 [] rfl HS.out.1 _ m xs rfl HS.out.2.1 H1.out (by omega) (by omega) (by simp) ?_); intro v4 w4 happ; have HP := Lib.hid happ; clear happ)
    have hf := ownsRow_le HP.out.own
    go_ret
    refine ⟨_, rfl, by have := HP.out.own; rwa [Nat.zero_add, List.nil_append] at this, HP.out.below HS.out.2.2 (by simp) ?_⟩
    intro k hk
    have : k = w.heap.size := by simpa [Value.ownBlock] using hk.symm
    omega
section
variable {base b : Nat} {w w1 w2 : World} {S : RdS} {V : Key → Value}
def addV (V : Key → Value) (n : Nat) (zv v' : Value) : Key → Value := updV (updV V .vals v') (.row n) zv
theorem Rof_add (es : List VecE) (zv v' : Value) : upd (upd (Rof S V) (.row S.rows.length) (zv, es.length, rowCells es)) .vals (v', S.rows.length + 1, ((List.range S.rows.length).map fun i => V (.row i)) ++ [zv]) = Rof { S with rows := S.rows ++ [es] } (addV V S.rows.length zv v') := by
  funext k
  cases k with
  | vals =>
    rw [upd_same]
    simp only [Rof, addV, updV, List.length_append, List.length_cons, List.length_nil, Nat.zero_add, List.range_succ, List.map_append, List.map_cons, List.map_nil]
    simp only [if_true]
    have e1 : (if (Key.vals : Key) = .row S.rows.length then zv else v') = v' := if_neg (by intro e; cases e)
    rw [e1]
    have e2 : ∀ i ∈ List.range S.rows.length, (if Key.row i = .row S.rows.length then zv else if Key.row i = .vals then v' else V (.row i)) = V (.row i) := fun i hi => by
      rw [if_neg (by intro e; cases e; exact absurd (List.mem_range.1 hi) (Nat.lt_irrefl _)), if_neg (by intro e; cases e)]
    rw [List.map_congr_left e2]
  | row j =>
    rw [upd_other _ _ (by intro e; cases e)]
    by_cases hj : j = S.rows.length
    · subst hj
      rw [upd_same]
      simp [Rof, addV, updV]
    · rw [upd_other _ _ (by intro e; cases e; exact hj rfl)]
      have e1 : addV V S.rows.length zv v' (.row j) = V (.row j) := by
        unfold addV updV
        rw [if_neg (by intro e; cases e; exact hj rfl), if_neg (by intro e; cases e)]
      simp only [Rof, e1, List.length_append, List.length_cons, List.length_nil, Nat.zero_add]
      by_cases h1 : j < S.rows.length
      · rw [if_pos h1, if_pos (by omega), List.getD_eq_getElem?_getD, List.getD_eq_getElem?_getD, List.getElem?_append_left h1]
      · rw [if_neg h1, if_neg (by omega)]
  | tok => simp [upd, Rof, addV, updV]
  | ids => simp [upd, Rof, addV, updV]
  | vars => simp [upd, Rof, addV, updV]
/-- a new row is appended to the rows -/
theorem Rdr.addRow (h : Rdr base b w S V) (es : List VecE) {zv v' : Value} {N : Nat} (hN : w.heap.size ≤ N) (hb : Below w.heap.size w w1) (hz : w1.ownsRow N 33 2 zv es.length (rowCells es)) (hl : es.length = S.vars.length)
    (hvec : ∀ (j : Nat) (e : VecE) (v : Bs × Nat), es[j]? = some e → S.vars[j]? = some v → e.w = v.2 ∧ VR w1 (vecV e) e.w e.x ∧ Sep w1.heap.size (upd (Rof S V) (.row S.rows.length) (zv, es.length, rowCells es)) b (vecV e))
    (ha : AppR base 27 1 w1 (V .vals) (S.rows.length + 1) (((List.range S.rows.length).map fun i => V (.row i)) ++ [zv]) v' w2) :
    Rdr base b (w2.setCell ⟨b, 5, none⟩ v') { S with rows := S.rows ++ [es] } (addV V S.rows.length zv v') := by
  have hz' : w1.ownsRow base 33 2 zv es.length (rowCells es) := by
    refine ⟨hz.1, ?_⟩
    rcases hz.2 with h0 | ⟨g, cap, cur, h1, h2, h3⟩
    · exact .inl h0
    · exact .inr ⟨g, cap, cur, h1, Nat.le_trans (Nat.le_trans h.base_le hN) h2, h3⟩
  have hzb : ∀ g, zv.ownBlock = some g → w.heap.size ≤ g := fun g hg => Nat.le_trans hN (own_lt hz g hg).1
  have hm1 := h.mem.put (.row S.rows.length) hz' hb.size (fun g hg => .inr (hzb g hg)) (fun g hg _ => hb.block g hg)
  have hq1 : (upd (Rof S V) (.row S.rows.length) (zv, es.length, rowCells es) .vals).1 = V .vals := by rw [upd_other _ _ (by intro e; cases e)]; rfl
  have hm2 := hm1.app .vals (by rw [hq1]; exact ha)
  rw [Rof_add] at hm2
  have hm3 : Mem kt ks base b (w2.setCell ⟨b, 5, none⟩ v') (Rof { S with rows := S.rows ++ [es] } (addV V S.rows.length zv v')) := hm2.keep (by simp) fun k g hg => Below.heap_setCell _ _ _ _ (fun e => hm2.nb k (by rw [hg, e]))
  have hnbv : (V .vals).ownBlock ≠ some b := h.mem.nb .vals
  have hbb : w2.heap[b]? = w.heap[b]? := by
    rw [ha.grown.block b (Nat.lt_of_lt_of_le h.mem.lt hb.size) (Ne.symm hnbv)]; exact hb.block b h.mem.lt
  have hown : ∀ q g, (Rof { S with rows := S.rows ++ [es] } (addV V S.rows.length zv v') q).1.ownBlock = some g → (∃ q', (upd (Rof S V) (.row S.rows.length) (zv, es.length, rowCells es) q').1.ownBlock = some g) ∨ w1.heap.size ≤ g := fun q g hg => by
    rw [← Rof_add] at hg
    by_cases hk : q = .vals
    · subst hk
      rw [upd_same] at hg
      rcases ha.at_ with e | e
      · exact .inl ⟨.vals, by rw [hq1, ← e]; exact hg⟩
      · rw [e] at hg; cases hg; exact .inr (Nat.le_refl _)
    · rw [upd_other _ _ hk] at hg; exact .inl ⟨q, hg⟩
  have hown0 : ∀ q g, (upd (Rof S V) (.row S.rows.length) (zv, es.length, rowCells es) q).1.ownBlock = some g → (∃ q', (Rof S V q').1.ownBlock = some g) ∨ w.heap.size ≤ g := fun q g hg => by
    by_cases hk : q = .row S.rows.length
    · subst hk; rw [upd_same] at hg; exact .inr (hzb g hg)
    · rw [upd_other _ _ hk] at hg; exact .inl ⟨q, hg⟩
  have hold1 : ∀ g, g < w1.heap.size → g ≠ b → (∀ q, (upd (Rof S V) (.row S.rows.length) (zv, es.length, rowCells es) q).1.ownBlock ≠ some g) → (w2.setCell ⟨b, 5, none⟩ v').heap[g]? = w1.heap[g]? := fun g hg hgb hq => by
    rw [Below.heap_setCell _ _ _ _ hgb]
    exact ha.grown.block g hg (Ne.symm (by rw [← hq1]; exact hq .vals))
  have hsz : w1.heap.size ≤ (w2.setCell ⟨b, 5, none⟩ v').heap.size := by simpa using ha.grown.size
  refine ⟨hm3, ?_, fun i r hi => ?_, fun i r hi j p v hp hv => ?_⟩
  · have h1 : Blk w2 b 63 (rdCells S V) := by have := h.blk; unfold Blk at this ⊢; rw [hbb]; exact this
    have h2 := h1.set 5 v'
    have e : (rdCells S V).set 5 v' = rdCells { S with rows := S.rows ++ [es] } (addV V S.rows.length zv v') := by simp [rdCells, addV, updV]
    rw [← e]; exact h2
  · simp only at hi
    rcases Nat.lt_or_ge i S.rows.length with h1 | h1
    · rw [List.getElem?_append_left h1] at hi; exact h.len i r hi
    · rw [List.getElem?_append_right h1] at hi
      obtain ⟨h2, rfl⟩ : i - S.rows.length = 0 ∧ es = r := by
        cases hh : i - S.rows.length with
        | zero => rw [hh] at hi; simp at hi; exact ⟨rfl, hi⟩
        | succ k => rw [hh] at hi; simp at hi
      exact hl
  · simp only at hi hv
    rcases Nat.lt_or_ge i S.rows.length with h1 | h1
    · rw [List.getElem?_append_left h1] at hi
      have hh := h.vec i r hi j p v hp hv
      have hs1 := hh.2.2.turn hb.size hown0
      exact ⟨hh.1, hs1.vr (hh.2.1.below hb) hold1, hs1.turn hsz hown⟩
    · rw [List.getElem?_append_right h1] at hi
      obtain ⟨h2, rfl⟩ : i - S.rows.length = 0 ∧ es = r := by
        cases hh : i - S.rows.length with
        | zero => rw [hh] at hi; simp at hi; exact ⟨rfl, hi⟩
        | succ k => rw [hh] at hi; simp at hi
      have hh := hvec j p v hp hv
      exact ⟨hh.1, hh.2.2.vr hh.2.1 hold1, hh.2.2.turn hsz hown⟩
end
end Go.Proofs.YtcdjkbgedmehjaaDoor
