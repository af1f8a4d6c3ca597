/- Texts of this claim, one behind another: V5, V6, V7. They state lemmas; each names its own conditions. -/
import Derived.Test.YtcdjkbgedmehjaaGreatDoorZC
import Derived.Test.YtcdjkbgedmehjaaGreatDoorS2
namespace Go.Proofs.YtcdjkbgedmehjaaGreatDoor
set_option linter.unusedVariables false
open Go.RowKit Go.Sort

/-! # the reader: a name -/
set_option maxRecDepth 100000 in
set_option maxHeartbeats 4000000 in
theorem name_printed {base b : Nat} {w : World} {S : RdS} {V : Key → Value} (h : Rdr base b w S V) {t : Bs × Nat} (ht : S.toks[S.pos]? = some t) (hN : (S.toks.length : Int) ≤ 3000000) (hw : printedB (bstr t.1) = true) :
    Calls Tryz.prog 60 #[.pointer (some ⟨b, 0, none⟩), .func (Fn.func 53) #[] #[]] w fun e w' => e = .returned (.string (bstr t.1)) ∧ Rdr base b w' { S with pos := S.pos + 1 } V ∧ Only (fun k => k = b) w w' := by
  have HC := Lib.hid (next_any h ht hN)
  have HW : Hid (∀ w, Calls Tryz.prog 53 #[.string (bstr t.1)] w fun e w' => e = .returned (.bool true) ∧ w = w') := Lib.hid fun w => by rw [← hw]; exact printed_any _ w
  generalize bstr t.1 = X at *
  generalize t.2 = y at *
  clear h ht hN hw
  go_enter Tryz.func60, Tryz.ntmps60
  go_wp2_with fail
  refine HC.out.mono ?_; rintro e w1 ⟨rfl, hr1, ho1⟩
  have hb1 := Below.new w1 (.cells #[.string X, .int .i64 y] 97)
  have H1 := Lib.hid (And.intro (hr1.below hb1) (ho1.below hb1 ho1.size))
  clear hr1 ho1 HC hb1
  go_wp2_with fail
  refine (HW.out _).mono ?_; rintro e w2 ⟨rfl, rfl⟩
  go_wp2_with fail
  go_ret
  exact ⟨rfl, H1.out.1, H1.out.2⟩
set_option maxRecDepth 100000 in
set_option maxHeartbeats 4000000 in
theorem name_word {base b : Nat} {w : World} {S : RdS} {V : Key → Value} (h : Rdr base b w S V) {t : Bs × Nat} (ht : S.toks[S.pos]? = some t) (hN : (S.toks.length : Int) ≤ 3000000) (hw : wordB (bstr t.1) = true) :
    Calls Tryz.prog 60 #[.pointer (some ⟨b, 0, none⟩), .func (Fn.func 25) #[] #[]] w fun e w' => e = .returned (.string (bstr t.1)) ∧ Rdr base b w' { S with pos := S.pos + 1 } V ∧ Only (fun k => k = b) w w' := by
  have HC := Lib.hid (next_any h ht hN)
  have HW : Hid (∀ w, Calls Tryz.prog 25 #[.string (bstr t.1)] w fun e w' => e = .returned (.bool true) ∧ w = w') := Lib.hid fun w => by rw [← hw]; exact word_any _ w
  generalize bstr t.1 = X at *
  generalize t.2 = y at *
  clear h ht hN hw
  go_enter Tryz.func60, Tryz.ntmps60
  go_wp2_with fail
  refine HC.out.mono ?_; rintro e w1 ⟨rfl, hr1, ho1⟩
  have hb1 := Below.new w1 (.cells #[.string X, .int .i64 y] 97)
  have H1 := Lib.hid (And.intro (hr1.below hb1) (ho1.below hb1 ho1.size))
  clear hr1 ho1 HC hb1
  go_wp2_with fail
  refine (HW.out _).mono ?_; rintro e w2 ⟨rfl, rfl⟩
  go_wp2_with fail
  go_ret
  exact ⟨rfl, H1.out.1, H1.out.2⟩
end Go.Proofs.YtcdjkbgedmehjaaGreatDoor
namespace Go.Proofs.YtcdjkbgedmehjaaGreatDoor
set_option linter.unusedVariables false
open Go.RowKit Go.Sort

/-! # is there a Var that ..? -/
def varV (x : Bs × Nat) : Value := .agg #[.string (bstr x.1), .int .i64 x.2]
/-- a function value that answers P and changes nothing old -/
def Asks (f : Value) (P : Bs × Nat → Bool) (w : World) : Prop := ∃ k bs, f = .func (Fn.func k) #[] bs ∧ (∀ args w, Sem.run Tryz.prog (callFunc k args) w = .ok (.enter k args) w) ∧ ∀ x w', Below w.heap.size w w' → Calls Tryz.prog k (#[varV x] ++ bs) w' fun e w'' => e = .returned (.bool (P x)) ∧ Below w'.heap.size w' w''
set_option maxRecDepth 100000 in
set_option maxHeartbeats 2000000 in
theorem idxf_any {w : World} {f : Value} {P : Bs × Nat → Bool} (hf : Asks f P w) (l : List (Bs × Nat)) {v : Value} (hr : RO w v 2 l.length (tokCells l)) (hn : (l.length : Int) ≤ 3000000) :
    Calls Tryz.prog 54 #[v, f] w fun e w' => ∃ r : Int, e = .returned (.int .i64 r) ∧ (0 ≤ r ↔ l.any P = true) ∧ Below w.heap.size w w' := by
  obtain ⟨p, c, rfl⟩ := hr.form
  obtain ⟨fk, bs, rfl, hE, hC⟩ := hf
  obtain ⟨n, hnn⟩ : ∃ n, l.length = n := ⟨_, rfl⟩
  have H := Lib.hid (And.intro hr (And.intro hC hE))
  have HN := Lib.hid hnn
  rw [hnn] at H hn ⊢
  clear hr hC hE hnn
  go_enter Tryz.func54, Tryz.ntmps54
  go_wp2_with fail
  go_loopw [8] (fun i wr => ∃ k : Nat, k ≤ n ∧ i = .int .i64 k ∧ (l.take k).any P = false ∧ Below w.heap.size w wr) (fun i _ => n - (intOf i).toNat)
  case atStart => exact ⟨0, Nat.zero_le _, rfl, by simp, Below.refl _ _⟩
  case round =>
    obtain ⟨k, hk, rfl, hno, hbel⟩ := hrel
    have HR := Lib.hid (And.intro hno hbel)
    clear hno hbel
    by_cases hlt : k < n
    · obtain ⟨x, hx⟩ : ∃ x, l[k]? = some x := ⟨_, List.getElem?_eq_getElem (by rw [HN.out]; exact hlt)⟩
      have hro := H.out.1.below HR.out.2
      obtain ⟨bb, o, rfl⟩ := hro.sl (tokCells_at _ _ _ hx).1
      have h0 := hro.cell (tokCells_at _ _ _ hx).1
      have h1 := hro.cell (tokCells_at _ _ _ hx).2
      rw [← Nat.add_assoc] at h1
      have HC := Lib.hid (H.out.2.1 x wr HR.out.2)
      have hsn : (l.take (k + 1)).any P = P x := by
        rw [List.take_add_one, hx]; simp [HR.out.1]
      have hmem : P x = true → l.any P = true := fun hp => List.any_eq_true.2 ⟨x, List.mem_of_getElem? hx, hp⟩
      obtain ⟨q, hq⟩ : ∃ q, P x = q := ⟨_, rfl⟩
      rw [hq] at HC hsn hmem
      have HS := Lib.hid (And.intro hsn hmem)
      have hwr : IntKind.i64.wrap ((k : Int) + 1) = (k : Int) + 1 := i64_of (by omega)
      obtain ⟨X, Y⟩ := x
      unfold varV at HC
      simp only at h0 h1 HC
      generalize bstr X = X' at *
      clear hro hx hsn hmem hq
      go_wp2_with fail
      rw [H.out.2.2, Oper.upon_enter]
      refine HC.out.mono ?_; rintro e w2 ⟨rfl, hb2⟩
      have HB := Lib.hid (HR.out.2.trans (hb2.mono HR.out.2.size))
      clear hb2 h0 h1
      cases q
      · go_wp2_with fail
        go_roundw
        case rel => exact ⟨k + 1, by omega, by go_num, HS.out.1, HB.out⟩
        case measure => simp [intOf]; omega
      · go_wp2_with fail
        go_ret
        exact ⟨k, rfl, ⟨fun _ => HS.out.2 (by simp), fun _ => by omega⟩, HB.out⟩
    · obtain rfl : k = n := by omega
      clear hlt
      go_wp2_with fail
      go_ret
      have e := HR.out.1
      rw [← HN.out, List.take_length] at e
      exact ⟨-1, rfl, ⟨fun h => by omega, fun h => by rw [e] at h; cases h⟩, HR.out.2⟩
theorem hasf_any {w : World} {f : Value} {P : Bs × Nat → Bool} (hf : Asks f P w) (l : List (Bs × Nat)) {v : Value} (hr : RO w v 2 l.length (tokCells l)) (hn : (l.length : Int) ≤ 3000000) :
    Calls Tryz.prog 26 #[v, f] w fun e w' => e = .returned (.bool (l.any P)) ∧ Below w.heap.size w w' := by
  have HI := Lib.hid (idxf_any hf l hr hn)
  clear hf hr hn
  obtain ⟨q, hq⟩ : ∃ q, l.any P = q := ⟨_, rfl⟩
  rw [hq] at HI ⊢
  clear hq
  go_enter Tryz.func26, Tryz.ntmps26
  go_wp2_with fail
  refine HI.out.mono ?_; rintro e w2 ⟨r, rfl, hf, hb2⟩
  have HF := Lib.hid (And.intro hf hb2)
  clear hf hb2
  go_wp2_with fail
  go_ret
  exact ⟨congrArg (fun b => Ending.returned (Value.bool b)) (by rw [Bool.eq_iff_iff, ← HF.out.1]; simp), HF.out.2⟩
theorem bstr_toList (l : Bs) : (bstr l).toList = l := by rw [ByteArray.toList_eq]; simp [bstr]
theorem str_eq (a b : Bs) : ((bstr a).toList == (bstr b).toList) = decide (a = b) := by
  rw [bstr_toList, bstr_toList]
  by_cases h : a = b
  · subst h; simp
  · rw [decide_eq_false h, beq_eq_false_iff_ne]; exact h
set_option maxRecDepth 100000 in
theorem named1_any {w : World} {g : Nat} {nm : Bs} (hb : Blk w g 9 [.string (bstr nm)]) (x : Bs × Nat) :
    Calls Tryz.prog 55 #[varV x, .pointer (some ⟨g, 0, none⟩)] w fun e w' => e = .returned (.bool (decide (x.1 = nm))) ∧ Below w.heap.size w w' := by
  have hB := Below.new w (.cells #[.string (bstr x.1), .int .i64 x.2] 51)
  have k0 := (hb.next hB).cell (i := 0) rfl
  have HB := Lib.hid hB
  have HE := Lib.hid (str_eq x.1 nm)
  clear hb hB
  unfold varV
  generalize bstr x.1 = X at *
  generalize bstr nm = Y at *
  go_enter Tryz.func55, Tryz.ntmps55
  go_wp2_with fail
  go_ret
  exact ⟨congrArg (fun b => Ending.returned (Value.bool b)) HE.out, HB.out⟩
theorem named_any {w : World} {v : Value} (l : List (Bs × Nat)) (nm : Bs) (hr : RO w v 2 l.length (tokCells l)) (hn : (l.length : Int) ≤ 3000000) :
    Calls Tryz.prog 28 #[v, .string (bstr nm)] w fun e w' => e = .returned (.bool (l.any fun x => decide (x.1 = nm))) ∧ Below w.heap.size w w' := by
  have hB := Below.new w (.cells #[.string (bstr nm)] 9)
  have hk : Blk (w.alloc (.cells #[.string (bstr nm)] 9)) w.heap.size 9 [.string (bstr nm)] := Blk.new _ _
  have hA : Asks (.func (Fn.func 55) #[] #[.pointer (some ⟨w.heap.size, 0, none⟩)]) (fun x => decide (x.1 = nm)) (w.alloc (.cells #[.string (bstr nm)] 9)) :=
    ⟨_, _, rfl, fun _ _ => by kernel_rfl, fun x w' hb => named1_any (hk.next hb) x⟩
  have HC := Lib.hid (hasf_any hA l (hr.below hB) hn)
  have HB := Lib.hid hB
  obtain ⟨p, c, rfl⟩ := hr.form
  clear hB hk hA hr hn
  generalize (l.any fun x => decide (x.1 = nm)) = q at *
  generalize l.length = n at *
  generalize bstr nm = Y at *
  go_enter Tryz.func28, Tryz.ntmps28
  go_wp2_with fail
  refine HC.out.mono ?_; rintro e w2 ⟨rfl, hb2⟩
  have HF := Lib.hid (HB.out.trans (hb2.mono HB.out.size))
  clear hb2
  go_wp2_with fail
  go_ret
  exact ⟨rfl, HF.out⟩
end Go.Proofs.YtcdjkbgedmehjaaGreatDoor
namespace Go.Proofs.YtcdjkbgedmehjaaGreatDoor
set_option linter.unusedVariables false
open Go.RowKit Go.Sort

/-! # the reader: rows that are appended to -/
theorem TStr : SlTy Tryz.prog 62 9 1 16 (.string ⟨#[]⟩) := SlTy.of Tryz.underlying62 (by kernel_rfl) rfl (by decide)
theorem TVars : SlTy Tryz.prog 28 51 2 24 (.agg #[.string ⟨#[]⟩, .int .i64 0]) := SlTy.of Tryz.underlying28 (by kernel_rfl) rfl (by decide)
theorem TRows : SlTy Tryz.prog 29 52 1 24 (.slice none 0 0) := SlTy.of Tryz.underlying29 (by kernel_rfl) rfl (by decide)
theorem TVecs : SlTy Tryz.prog 52 46 2 32 (.agg #[.int .i64 0, .slice none 0 0]) := SlTy.of Tryz.underlying52 (by kernel_rfl) rfl (by decide)
theorem TToks : SlTy Tryz.prog 80 97 2 24 (.agg #[.string ⟨#[]⟩, .int .i64 0]) := SlTy.of Tryz.underlying80 (by kernel_rfl) rfl (by decide)
section
variable {base b : Nat} {w w1 : World} {S S' : RdS} {V V' : Key → Value}
/-- a row was appended to; its field is still to be written -/
theorem Rdr.app (h : Rdr base b w S V) (q : Key) (fld : Nat) (hq : (Rof S V q).1 = V q) {v' : Value} {n : Nat} {xs : List Value} (ha : AppR base (kt q) (ks q) w (V q) n xs v' w1)
    (hR : upd (Rof S V) q (v', n, xs) = Rof S' V') (hc : (rdCells S V).set fld v' = rdCells S' V') (hr : S'.rows = S.rows) (hv : S'.vars = S.vars ∨ S.rows = []) : Rdr base b (w1.setCell ⟨b, fld, none⟩ v') S' V' := by
  have ha' : AppR base (kt q) (ks q) w (Rof S V q).1 n xs v' w1 := by rw [hq]; exact ha
  have hm := h.mem.app q ha'
  have hbb : w1.heap[b]? = w.heap[b]? := ha.grown.block b h.mem.lt (by rw [← hq]; exact Ne.symm (h.mem.nb q))
  have hm2 : Mem kt ks base b (w1.setCell ⟨b, fld, none⟩ v') (upd (Rof S V) q (v', n, xs)) := hm.keep (by simp) fun k g hg => Below.heap_setCell _ _ _ _ (fun e => hm.nb k (by rw [hg, e]))
  refine h.turn (by rw [← hR]; exact hm2) ?_ (by simpa using ha.grown.size) hr hv ?_ ?_
  · rw [← hc]
    have h1 : Blk w1 b 82 (rdCells S V) := by have := h.blk; unfold Blk at this ⊢; rw [hbb]; exact this
    exact h1.set fld v'
  · intro k g hg
    rw [← hR] at hg
    by_cases hk : k = q
    · subst hk
      rw [upd_same] at hg
      rcases ha.at_ with e | e
      · exact .inl ⟨k, by rw [hq, ← e]; exact hg⟩
      · rw [e] at hg; cases hg; exact .inr (Nat.le_refl _)
    · rw [upd_other _ _ hk] at hg; exact .inl ⟨k, hg⟩
  · intro g hg hgb hn
    rw [Below.heap_setCell _ _ _ _ hgb]
    exact ha.grown.block g hg (Ne.symm (by rw [← hq]; exact hn q))
theorem Rdr.appB (h : Rdr base b w S V) (q : Key) (fld : Nat) (hq : (Rof S V q).1 = V q) {v' : Value} {n : Nat} {xs : List Value} {e size : Nat} (ha : AppR base e size w (V q) n xs v' w1) : Below base w (w1.setCell ⟨b, fld, none⟩ v') :=
  (ha.below (Below.refl _ _) h.base_le (fun g hg => (h.mem.lts q g (by rw [hq]; exact hg)).1)).setCell (show base ≤ (⟨b, fld, none⟩ : Addr).block from h.mem.hb) v'
theorem Rof_ids (v' : Value) (l : List Bs) : upd (Rof S V) .ids (v', l.length, strCells l) = Rof { S with ids := l } (updV V .ids v') := by funext k; cases k <;> simp [upd, Rof, updV]
theorem Rof_vars (v' : Value) (l : List (Bs × Nat)) : upd (Rof S V) .vars (v', l.length, tokCells l) = Rof { S with vars := l } (updV V .vars v') := by funext k; cases k <;> simp [upd, Rof, updV]
end
theorem strCells_snoc (l : List Bs) (x : Bs) : strCells l ++ [.string (bstr x)] = strCells (l ++ [x]) := by simp [strCells]
theorem tokCells_snoc (l : List (Bs × Nat)) (x : Bs × Nat) : tokCells l ++ [.string (bstr x.1), .int .i64 x.2] = tokCells (l ++ [x]) := by simp [tokCells]
theorem strCells_len (l : List Bs) : (strCells l).length = l.length := by simp [strCells]
theorem scontains_any {w : World} {v : Value} (l : List Bs) (x : Bs) (hr : RO w v 1 l.length (strCells l)) (hn : (l.length : Int) ≤ 3000000) :
    Calls Tryz.prog 74 #[v, .string (bstr x)] w fun e w' => e = .returned (.bool (decide (x ∈ l))) ∧ w = w' := by
  obtain ⟨p, c, rfl⟩ := hr.form
  cases l with
  | nil =>
    refine (Tryz.slices_Contains_string_empty p c (bstr x) w).mono fun e w' h => ⟨by rw [h.1]; simp, h.2.symm⟩
  | cons a l =>
    obtain ⟨bb, o, rfl⟩ := hr.sl (strCells_at (a :: l) 0 (by simp))
    have hl : ((a :: l).map bstr).length = (a :: l).length := by simp
    refine (Tryz.slices_Contains_string bb o (a :: l).length c ((a :: l).map bstr) (bstr x) w (by rw [hl]; exact Nat.le_refl _) (by omega) (fun j hj => ?_)).mono fun e w' h => ⟨?_, h.2.symm⟩
    · rw [hl] at hj
      rw [hr.cell (strCells_at (a :: l) j hj)]
      rw [List.getD_eq_getElem?_getD, List.getD_eq_getElem?_getD, List.getElem?_map, List.getElem?_eq_getElem hj]
      rfl
    · rw [h.1, List.take_of_length_le (by rw [hl]; exact Nat.le_refl _)]
      congr 2
      rw [Bool.eq_iff_iff, Lib.containsS_iff, decide_eq_true_iff]
      constructor
      · intro hm
        obtain ⟨y, hy, e⟩ := List.mem_map.1 hm
        have e2 : y = x := by
          have := congrArg ByteArray.toList e
          rwa [bstr_toList, bstr_toList] at this
        rw [← e2]; exact hy
      · exact fun hm => List.mem_map.2 ⟨x, hm, rfl⟩
/-- the five words of a Var behind the first -/
structure VarAt (S : RdS) (ds : List Nat) (key nm : Bs) : Prop where
  t0 : ∃ y, S.toks[S.pos]? = some ([119, 105, 114, 101], y)
  t1 : ∃ y, S.toks[S.pos + 1]? = some (digS ds, y)
  t2 : ∃ y, S.toks[S.pos + 2]? = some (key, y)
  t3 : ∃ y, S.toks[S.pos + 3]? = some (nm, y)
  t4 : ∃ y, S.toks[S.pos + 4]? = some ([36, 101, 110, 100], y)
  d : ds ≠ [] ∧ ds.length ≤ 3 ∧ (∀ d ∈ ds, d < 10)
  wd : 1 ≤ decV ds ∧ decV ds ≤ 128
  key : printedB (bstr key) = true ∧ key ∉ S.ids
  nm : wordB (bstr nm) = true ∧ (S.vars.any fun x => decide (x.1 = nm)) = false
  few : (S.ids.length : Int) < 300 ∧ (S.vars.length : Int) < 300
  rows : S.rows = []
  N : (S.toks.length : Int) ≤ 3000000
theorem want1 {base b : Nat} {w : World} {S : RdS} {V : Key → Value} (h : Rdr base b w S V) (x : Bs) (ht : ∃ y, S.toks[S.pos]? = some (x, y)) (hN : (S.toks.length : Int) ≤ 3000000) :
    Calls Tryz.prog 58 #[.pointer (some ⟨b, 0, none⟩), .slice (some ⟨w.heap.size, 0, none⟩) 1 1] (w.alloc (.cells #[.string (bstr x)] 9)) fun e w' => e = .returned (.tuple #[]) ∧ Rdr base b w' { S with pos := S.pos + 1 } V ∧ Below base w w' := by
  have hb0 := Below.new w (.cells #[.string (bstr x)] 9)
  have hlt := h.mem.lt
  have hr : RO (w.alloc (.cells #[.string (bstr x)] 9)) (.slice (some ⟨w.heap.size, 0, none⟩) 1 1) 1 [x].length (strCells [x]) :=
    RO.own ((Blk.new (w := w) 9 (strCells [x])).own (n := 1) rfl (by decide) 0 (Nat.zero_le _))
  refine (want_any (h.below hb0) [x] hr (fun g hg e => by cases hg; simp only at e; omega) (fun j hj => by
    obtain rfl : j = 0 := by simpa using hj
    exact ht) hN (by simp)).mono ?_
  rintro e w' ⟨rfl, hr', ho⟩
  exact ⟨rfl, hr', (hb0.mono h.base_le).trans (ho.to (fun k hk => by rw [hk]; exact h.mem.hb) (by have := h.base_le; simp; omega))⟩
theorem want2 {base b : Nat} {w : World} {S : RdS} {V : Key → Value} (h : Rdr base b w S V) (x x' : Bs) (ht : ∃ y, S.toks[S.pos]? = some (x, y)) (ht' : ∃ y, S.toks[S.pos + 1]? = some (x', y)) (hN : (S.toks.length : Int) ≤ 3000000) :
    Calls Tryz.prog 58 #[.pointer (some ⟨b, 0, none⟩), .slice (some ⟨w.heap.size, 0, none⟩) 2 2] (w.alloc (.cells #[.string (bstr x), .string (bstr x')] 9)) fun e w' => e = .returned (.tuple #[]) ∧ Rdr base b w' { S with pos := S.pos + 2 } V ∧ Below base w w' := by
  have hb0 := Below.new w (.cells #[.string (bstr x), .string (bstr x')] 9)
  have hlt := h.mem.lt
  have hr : RO (w.alloc (.cells #[.string (bstr x), .string (bstr x')] 9)) (.slice (some ⟨w.heap.size, 0, none⟩) 2 2) 1 [x, x'].length (strCells [x, x']) :=
    RO.own ((Blk.new (w := w) 9 (strCells [x, x'])).own (n := 2) rfl (by decide) 0 (Nat.zero_le _))
  refine (want_any (h.below hb0) [x, x'] hr (fun g hg e => by cases hg; simp only at e; omega) (fun j hj => by
    have hj' : j < 2 := hj
    rcases Nat.lt_or_ge j 1 with h1 | h1
    · obtain rfl : j = 0 := by omega
      exact ht
    · obtain rfl : j = 1 := by omega
      exact ht') hN (by simp)).mono ?_
  rintro e w' ⟨rfl, hr', ho⟩
  exact ⟨rfl, hr', (hb0.mono h.base_le).trans (ho.to (fun k hk => by rw [hk]; exact h.mem.hb) (by have := h.base_le; simp; omega))⟩
theorem Only.toB {base b : Nat} {w w' : World} {S : RdS} {V : Key → Value} (h : Rdr base b w S V) (ho : Only (fun k => k = b) w w') : Below base w w' := ho.to (fun k hk => by rw [hk]; exact h.mem.hb) h.base_le
theorem Rdr.idsRO {base b : Nat} {w : World} {S : RdS} {V : Key → Value} (h : Rdr base b w S V) : ∃ p c, V .ids = .slice p S.ids.length c ∧ w.ownsRow base 9 1 (.slice p S.ids.length c) S.ids.length (strCells S.ids) := by
  have ho := h.mem.own .ids
  obtain ⟨p, c, e⟩ := ownsRow_form ho
  have e' : V .ids = .slice p S.ids.length c := e
  exact ⟨p, c, e', by rw [← e']; exact ho⟩
theorem Rdr.varsRO {base b : Nat} {w : World} {S : RdS} {V : Key → Value} (h : Rdr base b w S V) : ∃ p c, V .vars = .slice p S.vars.length c ∧ w.ownsRow base 51 2 (.slice p S.vars.length c) S.vars.length (tokCells S.vars) := by
  have ho := h.mem.own .vars
  obtain ⟨p, c, e⟩ := ownsRow_form ho
  have e' : V .vars = .slice p S.vars.length c := e
  exact ⟨p, c, e', by rw [← e']; exact ho⟩
set_option maxRecDepth 100000 in
set_option maxHeartbeats 8000000 in
theorem variable_any {base b : Nat} {w : World} {S : RdS} {V : Key → Value} (h : Rdr base b w S V) {ds : List Nat} {key nm : Bs} (ha : VarAt S ds key nm) :
    Calls Tryz.prog 61 #[.pointer (some ⟨b, 0, none⟩)] w fun e w' => e = .returned (.tuple #[]) ∧ (∃ V', Rdr base b w' { S with pos := S.pos + 5, vars := S.vars ++ [(nm, decV ds)], ids := S.ids ++ [key] } V') ∧ Below base w w' := by
  have HW0 := Lib.hid (want1 h [119, 105, 114, 101] ha.t0 ha.N)
  have HA := Lib.hid ha
  have hN := ha.N
  obtain ⟨WD, hWD⟩ : ∃ WD, decV ds = WD := ⟨_, rfl⟩
  have HNum := Lib.hid (fun w => number_any ds 3 ha.d.1 ha.d.2.1 (by decide) ha.d.2.2 _ rfl w)
  have HWi := Lib.hid (fun w => wide_any (decV ds : Int) w)
  rw [hWD] at HNum HWi
  have e1 : (decide (1 ≤ (WD : Int)) && decide ((WD : Int) ≤ 128)) = true := by rw [decide_eq_true (show 1 ≤ (WD : Int) by have := ha.wd; omega), decide_eq_true (show (WD : Int) ≤ 128 by have := ha.wd; omega)]; rfl
  rw [e1] at HWi
  have HWD := Lib.hid hWD
  obtain ⟨y1, ht1⟩ := ha.t1
  obtain ⟨y2, ht2⟩ := ha.t2
  obtain ⟨y3, ht3⟩ := ha.t3
  have HT := Lib.hid (And.intro ht1 (And.intro ht2 ht3))
  clear h ha e1 hWD ht1 ht2 ht3 hN
  go_enter Tryz.func61, Tryz.ntmps61
  go_wp2_with fail
  refine HW0.out.mono ?_; rintro e w1 ⟨rfl, hr1, ho1⟩
  have H1 := Lib.hid (And.intro hr1 ho1)
  clear hr1 ho1 HW0
  go_wp2_with fail
  refine (next_any H1.out.1 HT.out.1 HA.out.N).mono ?_; rintro e w2 ⟨rfl, hr2, ho2⟩
  have hbx := Below.new w2 (.cells #[.string (bstr (digS ds)), .int .i64 y1] 97)
  have H2 := Lib.hid (And.intro (hr2.below hbx) (H1.out.2.trans ((Only.toB H1.out.1 ho2).trans (hbx.mono hr2.base_le))))
  clear hr2 ho2 hbx H1
  simp only
  go_wp2_with fail
  refine (HNum.out _).mono ?_; rintro e w3 ⟨rfl, rfl⟩
  go_wp2_with fail
  refine (HWi.out _).mono ?_; rintro e w3 ⟨rfl, rfl⟩
  clear HNum HWi
  have c1 := H2.out.1.cell (i := 1) rfl
  go_wp2_with fail
  clear c1
  refine (name_printed H2.out.1 HT.out.2.1 HA.out.N HA.out.key.1).mono ?_; rintro e w3 ⟨rfl, hr3, ho3⟩
  have H3 := Lib.hid (And.intro hr3 (H2.out.2.trans (Only.toB H2.out.1 ho3)))
  clear hr3 ho3 H2
  obtain ⟨pi, ci, hVi, hoi⟩ := H3.out.1.idsRO
  have c1 := H3.out.1.cell (i := 1) rfl
  have c6 := H3.out.1.cell (i := 6) rfl
  have c8 := H3.out.1.cell (i := 8) rfl
  rw [hVi] at c6
  have HCn := Lib.hid (scontains_any S.ids key (RO.own hoi) (by have := HA.out.few.1; omega))
  rw [decide_eq_false HA.out.key.2] at HCn
  simp only at c6 c1
  generalize hnI : S.ids.length = nI at c6 HCn
  have HVi := Lib.hid (And.intro hVi (And.intro hoi hnI))
  clear hVi hoi hnI
  simp only
  go_wp2_with fail
  refine HCn.out.mono ?_; rintro e w4 ⟨rfl, rfl⟩
  clear HCn
  go_wp2_with fail
  clear c1 c6 c8
  refine (name_word H3.out.1 HT.out.2.2 HA.out.N HA.out.nm.1).mono ?_; rintro e w4 ⟨rfl, hr4, ho4⟩
  have H4 := Lib.hid (And.intro hr4 (H3.out.2.trans (Only.toB H3.out.1 ho4)))
  clear hr4 ho4 H3 HVi
  obtain ⟨pv, cv, hVv, hov⟩ := H4.out.1.varsRO
  have c4 := H4.out.1.cell (i := 4) rfl
  have c8 := H4.out.1.cell (i := 8) rfl
  rw [hVv] at c4
  have HNm := Lib.hid (named_any S.vars nm (RO.own hov) (by have := HA.out.few.2; omega))
  rw [HA.out.nm.2] at HNm
  simp only at c4
  generalize hnV : S.vars.length = nV at c4 HNm
  clear hVv hov hnV
  simp only
  go_wp2_with fail
  clear c4 c8
  refine HNm.out.mono ?_; rintro e w5 ⟨rfl, hb5⟩
  clear HNm
  have H5 := Lib.hid (And.intro (H4.out.1.below hb5) (H4.out.2.trans (hb5.mono H4.out.1.base_le)))
  clear hb5 H4
  obtain ⟨pi, ci, hVi, hoi⟩ := H5.out.1.idsRO
  have c6 := H5.out.1.cell (i := 6) rfl
  have c8 := H5.out.1.cell (i := 8) rfl
  rw [hVi] at c6
  simp only at c6
  have hidl := HA.out.few.1
  generalize hnI : S.ids.length = nI at c6 hidl
  have HVi := Lib.hid (And.intro hVi (And.intro hoi hnI))
  clear hVi hoi hnI
  go_upto_region 17 with fail
  have hbx := Below.new w5 (.cells #[.string (bstr key)] 9)
  have hkx := Blk.new (w := w5) 9 [.string (bstr key)]
  have hox := ownsRow_below HVi.out.2.1 hbx
  rw [HVi.out.2.2] at hox
  have f6 := H5.out.1.blk.frz 6
  have H6 := Lib.hid (And.intro (H5.out.1.below hbx) (And.intro (RO.own (hkx.own (n := 1) (size := 1) rfl (by decide) 0 (Nat.zero_le _))) (And.intro (H5.out.2.trans (hbx.mono H5.out.1.base_le)) hox)))
  have hkeep : ∀ v' w', AppR base 9 1 (w5.alloc (.cells #[.string (bstr key)] 9)) (.slice pi nI ci) (nI + 1) (strCells S.ids ++ [.string (bstr key)]) v' w' → w'.heap[b]? = w5.heap[b]? := fun v' w' happ => by
    have h1 := happ.grown.block b (by have := H5.out.1.mem.lt; simp; omega) (by
      have := H5.out.1.mem.nb .ids
      rw [← HVi.out.2.2, ← HVi.out.1]
      exact Ne.symm this)
    rw [h1]
    exact hbx.block b H5.out.1.mem.lt
  have HK := Lib.hid hkeep
  clear hbx hkx hox hkeep
  go_upto_region 18 with (at_builtin; refine wpList_appR rfl _ _ 62 rfl TStr base (.slice pi nI ci) nI _ rfl H6.out.2.2.2 _ 1 _ rfl H6.out.2.1 (by simp [Value.oneCell']) (by omega) (by omega) (by have := H6.out.1.base_le; exact this) ?_; intro v4 w6 happ; obtain ⟨p4, c4', ev4⟩ := ownsRow_form happ.own; subst ev4; have e6 := HK.out _ _ happ; have c6' := (World.cell?_of_block (a := ⟨b, 6, none⟩) e6).trans c6; have f6' := (World.frozen?_of_block (a := ⟨b, 6, none⟩) e6).trans f6; have HP := Lib.hid happ; clear happ e6)
  have hlen : (S.ids ++ [key]).length = nI + 1 := by simp [HVi.out.2.2]
  have hq : AppR base 9 1 (w5.alloc (.cells #[.string (bstr key)] 9)) (V .ids) (nI + 1) (strCells (S.ids ++ [key])) (.slice p4 (nI + 1) c4') w6 := by
    rw [HVi.out.1, HVi.out.2.2, ← strCells_snoc]; exact HP.out
  have hR := Rof_ids (S := { S with pos := S.pos + 1 + 1 + 1 + 1 }) (V := V) (.slice p4 (nI + 1) c4') (S.ids ++ [key])
  rw [hlen] at hR
  have h7 := H6.out.1.app .ids 6 rfl hq hR (by simp [rdCells, updV]) rfl (.inl rfl)
  have hb7 := H6.out.2.2.1.trans (H6.out.1.appB .ids 6 rfl hq)
  have H7 := Lib.hid (And.intro h7 hb7)
  clear h7 hb7 hq hR c6' f6' c6 f6 c8 HK hlen HP H6 H5 HVi hidl
  generalize hw7 : w6.setCell ⟨b, 6, none⟩ (.slice p4 (nI + 1) c4') = w7 at *
  clear hw7
  generalize updV V .ids (.slice p4 (nI + 1) c4') = V7 at *
  obtain ⟨pv, cv, hVv, hov⟩ := H7.out.1.varsRO
  have c4 := H7.out.1.cell (i := 4) rfl
  rw [hVv] at c4
  have hidl := HA.out.few.2
  simp only at c4
  generalize hnV : S.vars.length = nV at c4 hidl
  have HVv := Lib.hid (And.intro hVv (And.intro hov hnV))
  clear hVv hov hnV
  have hbx := Below.new w7 (.cells #[.string (bstr nm), .int .i64 WD] 51)
  have hkx := Blk.new (w := w7) 51 [.string (bstr nm), .int .i64 WD]
  have hox := ownsRow_below HVv.out.2.1 hbx
  simp only at hox
  rw [HVv.out.2.2] at hox
  have f4 := H7.out.1.blk.frz 4
  have H8 := Lib.hid (And.intro (H7.out.1.below hbx) (And.intro (RO.own (hkx.own (n := 1) (size := 2) rfl (by decide) 0 (Nat.zero_le _))) (And.intro (H7.out.2.trans (hbx.mono H7.out.1.base_le)) hox)))
  have hkeep : ∀ v' w', AppR base 51 2 (w7.alloc (.cells #[.string (bstr nm), .int .i64 WD] 51)) (.slice pv nV cv) (nV + 1) (tokCells S.vars ++ [.string (bstr nm), .int .i64 WD]) v' w' → w'.heap[b]? = w7.heap[b]? := fun v' w' happ => by
    have h1 := happ.grown.block b (by have := H7.out.1.mem.lt; simp; omega) (by
      have := H7.out.1.mem.nb .vars
      have e := HVv.out.1
      simp only at e
      rw [HVv.out.2.2] at e
      rw [← e]
      exact Ne.symm this)
    rw [h1]
    exact hbx.block b H7.out.1.mem.lt
  have HK := Lib.hid hkeep
  clear hbx hkx hox hkeep
  go_upto_region 19 with (at_builtin; refine wpList_appR rfl _ _ 28 rfl TVars base (.slice pv nV cv) nV _ rfl H8.out.2.2.2 _ 1 _ rfl H8.out.2.1 (by simp [Value.oneCell']) (by omega) (by omega) (by have := H8.out.1.base_le; exact this) ?_; intro v4 w8 happ; obtain ⟨p5, c5, ev4⟩ := ownsRow_form happ.own; subst ev4; have e6 := HK.out _ _ happ; have c4' := (World.cell?_of_block (a := ⟨b, 4, none⟩) e6).trans c4; have f4' := (World.frozen?_of_block (a := ⟨b, 4, none⟩) e6).trans f4; have HP := Lib.hid happ; clear happ e6)
  have hlen : (S.vars ++ [(nm, decV ds)]).length = nV + 1 := by have := HVv.out.2.2; simp at this ⊢; exact this
  have hV1 : V7 .vars = .slice pv nV cv := by have e := HVv.out.1; simp only at e; rw [HVv.out.2.2] at e; exact e
  have hq : AppR base 51 2 (w7.alloc (.cells #[.string (bstr nm), .int .i64 WD] 51)) (V7 .vars) (nV + 1) (tokCells (S.vars ++ [(nm, decV ds)])) (.slice p5 (nV + 1) c5) w8 := by
    rw [hV1, ← tokCells_snoc, HWD.out]; exact HP.out
  have hR := Rof_vars (S := { S with pos := S.pos + 1 + 1 + 1 + 1, ids := S.ids ++ [key] }) (V := V7) (.slice p5 (nV + 1) c5) (S.vars ++ [(nm, decV ds)])
  rw [hlen] at hR
  have h9 := H8.out.1.app .vars 4 rfl hq hR (by simp [rdCells, updV]) rfl (.inr HA.out.rows)
  have hb9 := H8.out.2.2.1.trans (H8.out.1.appB .vars 4 rfl hq)
  have H9 := Lib.hid (And.intro h9 hb9)
  clear h9 hb9 hq hR hV1 c4' f4' c4 f4 HK hlen HP H8 H7 HVv hidl
  generalize hw9 : w8.setCell ⟨b, 4, none⟩ (.slice p5 (nV + 1) c5) = w9 at *
  clear hw9
  generalize updV V7 .vars (.slice p5 (nV + 1) c5) = V9 at *
  have HW9 := Lib.hid (want1 H9.out.1 [36, 101, 110, 100] HA.out.t4 HA.out.N)
  go_wp2_with fail
  refine HW9.out.mono ?_; rintro e w10 ⟨rfl, hr10, ho10⟩
  have H10 := Lib.hid (And.intro hr10 (H9.out.2.trans ho10))
  clear hr10 ho10 HW9 H9
  go_wp2_with fail
  go_end0
  exact ⟨rfl, ⟨_, H10.out.1⟩, H10.out.2⟩
end Go.Proofs.YtcdjkbgedmehjaaGreatDoor
