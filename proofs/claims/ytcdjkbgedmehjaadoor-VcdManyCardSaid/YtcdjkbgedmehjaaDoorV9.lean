import Derived.Test.YtcdjkbgedmehjaaDoorV8
import Derived.Shelf.Strings.SlTrimAscii
import Derived.Deep.RegionHeld3
namespace Go.Proofs.YtcdjkbgedmehjaaDoor
set_option linter.unusedVariables false
open Go.RowKit Go.Sort

/-! # the reader: a change -/
theorem info_set : (Tryd.prog.info? 111).map (fun i => (i.zero, i.size)) = some (some (.agg (Array.replicate 256 (.bool false))), 256) := by kernel_rfl
theorem drop_all {p : UInt8 → Bool} : ∀ (l : Bs), (∀ c ∈ l, p c = true) → l.dropWhile p = []
  | [], _ => rfl
  | a :: l, h => by
    rw [List.dropWhile_cons, if_pos (h a (by simp))]
    exact drop_all l fun c hc => h c (by simp [hc])
theorem trim_bits (l : Bs) (h : ∀ c ∈ l, c = 48 ∨ c = 49) : Lib.trimS l [48, 49] = [] := by
  have h1 : ∀ c ∈ l, ([48, 49] : List UInt8).contains c = true := fun c hc => by rcases h c hc with e | e <;> subst e <;> decide
  have h2 : Lib.trimRightS l [48, 49] = [] := by
    unfold Lib.trimRightS
    rw [drop_all _ (fun c hc => h1 c (List.mem_reverse.1 hc))]
    rfl
  unfold Lib.trimS
  rw [h2]; rfl
set_option maxRecDepth 100000 in
theorem binary_yes {w : World} (l : Bs) (h0 : l ≠ []) (hl : l.length ≤ 1000) (h : ∀ c ∈ l, c = 48 ∨ c = 49) :
    Calls Tryd.prog 61 #[.string (bstr l)] w fun e w' => e = .returned (.bool true) ∧ Below w.heap.size w w' := by
  have hs : (bstr l).size ≠ 0 := by rw [bstr_size]; have := List.length_pos_iff.2 h0; omega
  obtain ⟨hnl, hie⟩ := str_some hs
  have HT : Hid (Calls Tryd.prog 71 #[.string (bstr l), .string ⟨#[48, 49]⟩] w fun e w' => e = .returned (.string ⟨#[]⟩) ∧ Below w.heap.size w w') := Lib.hid (by
    have hh := Any.strings_Trim_laid Tryd.lays160 info_set (bstr l) ⟨#[48, 49]⟩ w (by rw [bstr_size]; omega) (by decide) (ascii_of_all (by decide))
    rw [show (bstr l).data.toList = l by simp [bstr], show (⟨#[48, 49]⟩ : ByteArray).data.toList = [48, 49] from rfl, trim_bits l h] at hh
    exact hh)
  generalize bstr l = X at *
  clear hs h0 hl h
  go_enter Tryd.func61, Tryd.ntmps61
  go_wp2_with fail
  refine HT.out.mono ?_; rintro e w1 ⟨rfl, hb1⟩
  have H1 := Lib.hid hb1
  clear hb1
  go_wp2_with fail
  go_ret
  exact ⟨rfl, H1.out⟩
theorem idx_hit (m i : Nat) (hi : i < m) : Lib.idxOfS (((List.range m).map idL).map bstr) (bstr (idL i)) = (i : Int) := by
  have hg : ∀ j, j < m → ((((List.range m).map idL).map bstr).getD j ByteArray.empty) = bstr (idL j) := fun j hj => by
    rw [List.getD_eq_getElem?_getD, List.getElem?_map, List.getElem?_map, List.getElem?_range hj]; rfl
  have h := Lib.idxFromS_hit (bstr (idL i)) (((List.range m).map idL).map bstr) i 0 (by simpa using hi) (hg i hi) (fun j hj e => by
    rw [hg j (by omega)] at e
    have e2 := congrArg ByteArray.toList e
    rw [bstr_toList, bstr_toList] at e2
    have := idL_inj _ _ e2
    omega)
  unfold Lib.idxOfS
  rw [h]; simp
/-- another vector at a place -/
def RdS.put (S : RdS) (n i : Nat) (e : VecE) : RdS := { S with rows := S.rows.set n ((S.rows.getD n []).set i e) }
theorem rowCells_len (l : List VecE) : (rowCells l).length = l.length * 2 := by
  induction l with
  | nil => rfl
  | cons a l ih => 
    show (_ :: _ :: rowCells l).length = _
    simp only [List.length_cons, ih]; omega
theorem rowCells_set : ∀ (l : List VecE) (i : Nat) (e : VecE), i < l.length → ((rowCells l).set (i * 2) (.int .i64 e.w)).set (i * 2 + 1) (.slice e.p (wcount e.w) e.c) = rowCells (l.set i e)
  | [], _, _, h => absurd h (Nat.not_lt_zero _)
  | a :: l, 0, e, _ => rfl
  | a :: l, i + 1, e, h => by
    have ih := rowCells_set l i e (by simpa using h)
    have e1 : rowCells (a :: l) = .int .i64 a.w :: .slice a.p (wcount a.w) a.c :: rowCells l := rfl
    rw [e1, show (i + 1) * 2 = i * 2 + 1 + 1 by omega, List.set_cons_succ, List.set_cons_succ, List.set_cons_succ, List.set_cons_succ, ih]
    rfl
theorem rowCells_at : ∀ (l : List VecE) (i : Nat) (e : VecE), l[i]? = some e → (rowCells l)[i * 2]? = some (.int .i64 e.w) ∧ (rowCells l)[i * 2 + 1]? = some (.slice e.p (wcount e.w) e.c)
  | [], _, _, h => by simp at h
  | a :: l, 0, e, h => by
    simp at h; subst h
    exact ⟨rfl, rfl⟩
  | a :: l, i + 1, e, h => by
    have ih := rowCells_at l i e (by simpa using h)
    have e1 : rowCells (a :: l) = .int .i64 a.w :: .slice a.p (wcount a.w) a.c :: rowCells l := rfl
    rw [e1, show (i + 1) * 2 = i * 2 + 1 + 1 by omega, List.getElem?_cons_succ, List.getElem?_cons_succ, List.getElem?_cons_succ]
    exact ih
section
variable {base b : Nat} {w w1 : World} {S S' : RdS} {V V' : Key → Value}
theorem Rof_row (n : Nat) (l : List VecE) (hn : n < S.rows.length) (hl : l.length = (S.rows.getD n []).length) : upd (Rof S V) (.row n) (V (.row n), l.length, rowCells l) = Rof { S with rows := S.rows.set n l } V := by
  funext k
  cases k with
  | row j =>
    by_cases h : j = n
    · subst h
      rw [upd_same]
      simp only [Rof, List.length_set, if_pos hn, List.getD_eq_getElem?_getD, List.getElem?_set_self hn, Option.getD_some]
    · rw [upd_other _ _ (by intro e; cases e; exact h rfl)]
      simp only [Rof, List.length_set, List.getD_eq_getElem?_getD, List.getElem?_set_ne (Ne.symm h)]
  | vals => rw [upd_other _ _ (by intro e; cases e)]; simp [Rof]
  | tok => rfl
  | ids => rfl
  | vars => rfl
/-- a vector is written into a row -/
theorem Rdr.put (h : Rdr base b w S V) {n i : Nat} (hn : n < S.rows.length) (hi : i < (S.rows.getD n []).length) (e : VecE) (hv : VR w (vecV e) e.w e.x) (hs : Sep w.heap.size (Rof S V) b (vecV e)) {v : Bs × Nat} (hvar : S.vars[i]? = some v) (hw : e.w = v.2) {br m' cr : Nat} (hV : V (.row n) = .slice (some ⟨br, 0, none⟩) m' cr) :
    Rdr base b ((w.setCell ⟨br, i * 2, none⟩ (.int .i64 e.w)).setCell ⟨br, i * 2 + 1, none⟩ (.slice e.p (wcount e.w) e.c)) (S.put n i e) V := by
  have hR : Rof S V (.row n) = (V (.row n), (S.rows.getD n []).length, rowCells (S.rows.getD n [])) := by simp only [Rof, if_pos hn]
  have h1 : (Rof S V (.row n)).1 = .slice (some ⟨br, 0, none⟩) m' cr := by rw [hR]; exact hV
  have hm1 := h.mem.set (.row n) (i := i * 2) (.int .i64 e.w) (by rw [hR]; simp only [rowCells_len]; omega) h1
  have hm2 := hm1.set (.row n) (i := i * 2 + 1) (.slice e.p (wcount e.w) e.c) (by rw [upd_same, hR]; simp only [List.length_set, rowCells_len]; omega) (by rw [upd_same]; exact h1)
  rw [upd_same] at hm2
  have hu : upd (upd (Rof S V) (.row n) ((Rof S V (.row n)).1, (Rof S V (.row n)).2.1, (Rof S V (.row n)).2.2.set (i * 2) (.int .i64 e.w))) (.row n) ((Rof S V (.row n)).1, (Rof S V (.row n)).2.1, ((Rof S V (.row n)).2.2.set (i * 2) (.int .i64 e.w)).set (i * 2 + 1) (.slice e.p (wcount e.w) e.c)) = Rof (S.put n i e) V := by
    have e1 := Rof_row (V := V) n ((S.rows.getD n []).set i e) hn (by simp)
    unfold RdS.put
    rw [← e1]
    funext k
    by_cases hk : k = .row n
    · subst hk
      rw [upd_same, upd_same, hR]
      simp only [rowCells_set _ _ _ hi, List.length_set]
    · rw [upd_other _ _ hk, upd_other _ _ hk, upd_other _ _ hk]
  rw [hu] at hm2
  have hbr : br ≠ b := fun e' => h.mem.nb (.row n) (by rw [h1, e']; rfl)
  have hall : ∀ (j : Nat) (r : List VecE), (S.put n i e).rows[j]? = some r → ∃ r0, S.rows[j]? = some r0 ∧ r.length = r0.length ∧ ∀ (k : Nat) (q : VecE), r[k]? = some q → r0[k]? = some q ∨ (q = e ∧ k = i) := by
    intro j r hj
    unfold RdS.put at hj
    simp only at hj
    by_cases hjn : n = j
    · subst hjn
      rw [List.getElem?_set_self hn] at hj
      cases hj
      have e0 : S.rows[n]? = some (S.rows.getD n []) := by rw [List.getD_eq_getElem?_getD, List.getElem?_eq_getElem hn]; rfl
      refine ⟨S.rows.getD n [], e0, by rw [List.length_set], fun k q hq => ?_⟩
      by_cases hk : i = k
      · subst hk
        rw [List.getElem?_set_self hi] at hq
        cases hq
        exact .inr ⟨rfl, rfl⟩
      · rw [List.getElem?_set_ne hk] at hq
        exact .inl hq
    · rw [List.getElem?_set_ne hjn] at hj
      exact ⟨r, hj, rfl, fun k q hq => .inl hq⟩
  have hown : ∀ q g, (Rof (S.put n i e) V q).1.ownBlock = some g → (∃ q', (Rof S V q').1.ownBlock = some g) ∨ w.heap.size ≤ g := fun q g hg => .inl ⟨q, by
    rw [← hg]
    cases q with
    | row j => simp only [Rof, RdS.put, List.length_set]; split <;> rfl
    | _ => rfl⟩
  have hold : ∀ g, g < w.heap.size → g ≠ b → (∀ q, (Rof S V q).1.ownBlock ≠ some g) → ((w.setCell ⟨br, i * 2, none⟩ (.int .i64 e.w)).setCell ⟨br, i * 2 + 1, none⟩ (.slice e.p (wcount e.w) e.c)).heap[g]? = w.heap[g]? := fun g _ _ hq => by
    have hne : g ≠ br := fun e' => hq (.row n) (by rw [h1, e']; rfl)
    rw [Below.heap_setCell _ _ _ _ hne, Below.heap_setCell _ _ _ _ hne]
  refine ⟨hm2, ?_, fun j r hj => ?_, fun j r hj k q v' hq hv' => ?_⟩
  · have e1 : rdCells (S.put n i e) V = rdCells S V := rfl
    rw [e1]
    exact (h.blk.other (a := ⟨br, i * 2, none⟩) _ (Ne.symm hbr)).other (a := ⟨br, i * 2 + 1, none⟩) _ (Ne.symm hbr)
  · obtain ⟨r0, hr0, hl, _⟩ := hall j r hj
    rw [hl]; exact h.len j r0 hr0
  · obtain ⟨r0, hr0, hl, hk⟩ := hall j r hj
    have hv'' : S.vars[k]? = some v' := hv'
    rcases hk k q hq with hq0 | ⟨rfl, rfl⟩
    · have hh := h.vec j r0 hr0 k q v' hq0 hv''
      exact ⟨hh.1, hh.2.2.vr hh.2.1 hold, hh.2.2.turn (by simp) hown⟩
    · rw [hvar] at hv''
      cases hv''
      exact ⟨hw, hs.vr hv hold, hs.turn (by simp) hown⟩
theorem Rdr.putB (h : Rdr base b w S V) {n : Nat} (hn : n < S.rows.length) {br m' cr : Nat} (hV : V (.row n) = .slice (some ⟨br, 0, none⟩) m' cr) (j k : Nat) (x y : Value) : Below base w ((w.setCell ⟨br, j, none⟩ x).setCell ⟨br, k, none⟩ y) := by
  have h1 : (Rof S V (.row n)).1 = .slice (some ⟨br, 0, none⟩) m' cr := by simp only [Rof, if_pos hn]; exact hV
  have hb := (h.mem.lts (.row n) br (by rw [h1]; rfl)).1
  exact ((Below.refl base w).setCell (show base ≤ (⟨br, j, none⟩ : Addr).block from hb) x).setCell (show base ≤ (⟨br, k, none⟩ : Addr).block from hb) y
end
end Go.Proofs.YtcdjkbgedmehjaaDoor
