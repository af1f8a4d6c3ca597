/- Texts of this claim, one behind another: V8, V9. They state lemmas; each names its own conditions. -/
import Derived.Test.YtcdjkbgedmehjaaGreatDoorZD
import Derived.Test.YtcdjkbgedmehjaaGreatDoorZA
import Derived.Shelf.Strings.SlTrimAscii
import Derived.Deep.RegionHeld3
namespace Go.Proofs.YtcdjkbgedmehjaaGreatDoor
set_option linter.unusedVariables false
open Go.RowKit Go.Sort

/-! # the reader: all up to the times -/
structure TOk (T : Trc) : Prop where
  top : wordB (bstr T.top) = true
  nms : ∀ (i : Nat) (v : Bs × Nat), T.vars[i]? = some v → wordB (bstr v.1) = true ∧ 1 ≤ v.2 ∧ v.2 ≤ 128
  dist : ∀ (i j : Nat) (u v : Bs × Nat), T.vars[i]? = some u → T.vars[j]? = some v → i ≠ j → u.1 ≠ v.1
  nv : T.vars.length ≤ 300
  nr : T.rows.length ≤ 200
  row : ∀ (n : Nat) (r : List (Nat × Nat)), T.rows[n]? = some r → r.length = T.vars.length ∧ ∀ (j : Nat) (p : Nat × Nat) (v : Bs × Nat), r[j]? = some p → T.vars[j]? = some v → p.1 = v.2 ∧ p.2 < 2 ^ p.1
theorem tok_of {S : RdS} {l : List Bs} (hW : S.toks.map Prod.fst = l) {j : Nat} {x : Bs} (hx : l[j]? = some x) : ∃ y, S.toks[j]? = some (x, y) := by
  rw [← hW, List.getElem?_map] at hx
  obtain ⟨t, ht, e⟩ := Option.map_eq_some_iff.1 hx
  exact ⟨t.2, by rw [ht, ← e]⟩
theorem nocom_of {S : RdS} {l : List Bs} (hW : S.toks.map Prod.fst = l) (h : l[S.pos]? ≠ some kCom) : NoCom S := fun t ht e => h (by rw [← hW, List.getElem?_map, ht]; exact congrArg some e)
theorem seens_idL (n : Nat) : seens (idL n) = true := by
  unfold seens
  rw [List.all_eq_true]
  intro c hc
  have := idL_seen n c hc
  unfold seen
  rw [decide_eq_true this.1, decide_eq_true this.2]; rfl
theorem bstr_size (l : Bs) : (bstr l).size = l.length := by show l.toArray.size = _; simp
theorem idL_printed (n : Nat) (h : n < 8836) : printedB (bstr (idL n)) = true := by
  have hl := idL_len n h
  unfold printedB
  rw [bstr_size, decide_eq_true (show (idL n).length ≠ 0 by omega), decide_eq_true (show (idL n).length ≤ 200 by omega)]
  exact seens_idL n
def headS (S : RdS) (T : Trc) (i : Nat) : RdS := { S with pos := 8 + 6 * i, top := T.top, vars := T.vars.take i, ids := (List.range i).map idL }
theorem varAt_of {S : RdS} {T : Trc} {R : List Bs} (hW : S.toks.map Prod.fst = (headLines T).flatten ++ R) (hT : TOk T) (hr : S.rows = []) (hN : (S.toks.length : Int) ≤ 3000000) {i : Nat} {v : Bs × Nat} (hi : T.vars[i]? = some v) :
    VarAt { headS S T i with pos := 8 + 6 * i + 1 } (decDs v.2) (idL i) v.1 := by
  have hil : i < T.vars.length := (List.getElem?_eq_some_iff.1 hi).1
  have hat : ∀ k x, k < 6 → (varLine i v)[k]? = some x → ∃ y, S.toks[8 + 6 * i + k]? = some (x, y) := fun k x hk hx => tok_of hW (by rw [hw_v i v hi k hk]; exact hx)
  have hv := hT.nms i v hi
  have hd3 : (decDs v.2).length ≤ 2 + 1 := decDs_len v.2 2 (by have := hv.2.2; omega)
  have hval : decV (decDs v.2) = v.2 := decDs_val v.2
  refine ⟨hat 1 _ (by decide) rfl, ?_, hat 3 _ (by decide) rfl, hat 4 _ (by decide) rfl, hat 5 _ (by decide) rfl, ⟨decDs_ne _, hd3, decDs_lt _⟩, by rw [hval]; exact hv.2, ⟨idL_printed i (by have := hT.nv; omega), ?_⟩, ⟨hv.1, ?_⟩, ?_, hr, hN⟩
  · have := hat 2 _ (by decide) rfl
    rw [itoa_ds] at this
    exact this
  · show idL i ∉ (List.range i).map idL
    intro hm
    obtain ⟨j, hj, e⟩ := List.mem_map.1 hm
    have := idL_inj _ _ e
    have := List.mem_range.1 hj
    omega
  · show ((T.vars.take i).any fun x => decide (x.1 = v.1)) = false
    rw [List.any_eq_false]
    intro x hx
    obtain ⟨j, hj, e⟩ := List.mem_iff_getElem.1 hx
    have hji : j < i := by simp at hj; omega
    have hxj : T.vars[j]? = some x := by
      rw [List.getElem_take] at e
      rw [← e]; exact List.getElem?_eq_getElem _
    simpa using hT.dist j i x v hxj hi (by omega)
  · show (((List.range i).map idL).length : Int) < 300 ∧ ((T.vars.take i).length : Int) < 300
    have := hT.nv
    simp only [List.length_map, List.length_range, List.length_take]
    omega
theorem nocom_head {S : RdS} {T : Trc} {R : List Bs} (hW : S.toks.map Prod.fst = (headLines T).flatten ++ R) {i : Nat} (hi : i ≤ T.vars.length) : NoCom (headS S T i) := by
  refine nocom_of (S := headS S T i) hW ?_
  show ((headLines T).flatten ++ R)[8 + 6 * i]? ≠ some kCom
  by_cases hv : i < T.vars.length
  · have := hw_v (T := T) (R := R) i (T.vars[i]) (List.getElem?_eq_getElem hv) 0 (by decide)
    rw [Nat.add_zero] at this
    rw [this]
    show some kVar ≠ some kCom
    decide
  · obtain rfl : i = T.vars.length := by omega
    have := hw_b (T := T) (R := R) 0 (by decide)
    rw [Nat.add_zero] at this
    rw [this]
    show some kUp ≠ some kCom
    decide
theorem headS_succ {S : RdS} {T : Trc} {i : Nat} {v : Bs × Nat} (hv : T.vars[i]? = some v) (hr : S.rows = []) :
    { ({ headS S T i with pos := 8 + 6 * i + 1 } : RdS) with pos := 8 + 6 * i + 1 + 5, vars := T.vars.take i ++ [(v.1, decV (decDs v.2))], ids := (List.range i).map idL ++ [idL i] } = headS S T (i + 1) := by
  have hval : decV (decDs v.2) = v.2 := decDs_val v.2
  unfold headS
  rw [hval, List.take_add_one, hv, List.range_succ, List.map_append]
  simp only [RdS.mk.injEq, true_and, and_true]
  exact ⟨by omega, rfl, rfl⟩
set_option maxRecDepth 100000 in
set_option maxHeartbeats 8000000 in
theorem head_any {base b : Nat} {w : World} {S : RdS} {V : Key → Value} (h : Rdr base b w S V) {T : Trc} {R : List Bs} (hW : S.toks.map Prod.fst = (headLines T).flatten ++ R) (hT : TOk T) (h0 : S.pos = 0 ∧ S.vars = [] ∧ S.ids = [] ∧ S.rows = [])
    (hN : (S.toks.length : Int) ≤ 3000000) (hR : R[0]? ≠ some kCom) :
    Calls Tryz.prog 35 #[.pointer (some ⟨b, 0, none⟩)] w fun e w' => e = .returned (.tuple #[]) ∧ (∃ V', Rdr base b w' { S with pos := 12 + 6 * T.vars.length, top := T.top, vars := T.vars, ids := (List.range T.vars.length).map idL } V') ∧ Below base w w' := by
  have hA : ∀ j x, j < 8 → (headA T)[j]? = some x → ∃ y, S.toks[j]? = some (x, y) := fun j x hj hx => tok_of hW (by rw [hw_a j hj]; exact hx)
  have hB : ∀ k x, k < 4 → headB[k]? = some x → ∃ y, S.toks[8 + 6 * T.vars.length + k]? = some (x, y) := fun k x hk hx => tok_of hW (by rw [hw_b k hk]; exact hx)
  have HH := Lib.hid (And.intro hW (And.intro hT (And.intro h0 (And.intro hN (And.intro hR (And.intro hA hB))))))
  have H0 := Lib.hid h
  clear h hW hT h0 hN hR hA hB
  have NC0 := Lib.hid (comments_none H0.out (nocom_of HH.out.1 (by rw [HH.out.2.2.1.1, hw_a 0 (by decide)]; show some kTs ≠ some kCom; decide)))
  go_enter Tryz.func35, Tryz.ntmps35
  go_wp2_with fail
  refine NC0.out.mono ?_; rintro e w1 ⟨rfl, hr1, hb1⟩
  have H1 := Lib.hid (And.intro hr1 (hb1.mono H0.out.base_le))
  clear hr1 hb1 NC0
  go_wp2_with fail
  refine (want1 H1.out.1 kTs (by rw [HH.out.2.2.1.1]; exact HH.out.2.2.2.2.2.1 0 _ (by decide) rfl) HH.out.2.2.2.1).mono ?_; rintro e w2 ⟨rfl, hr2, hb2⟩
  have H2 := Lib.hid (And.intro hr2 (H1.out.2.trans hb2))
  clear hr2 hb2 H1
  have t1 := HH.out.2.2.2.2.2.1 1 _ (by decide) rfl
  have t2 := HH.out.2.2.2.2.2.1 2 _ (by decide) rfl
  obtain ⟨y3, t3⟩ := HH.out.2.2.2.2.2.1 3 _ (by decide) rfl
  have HS := Lib.hid (skip_any H2.out.1 2 (te := (kEnd, y3)) (fun j hj => by
    show ∃ t, S.toks[S.pos + 1 + j]? = some t ∧ t.1 ≠ kEndW
    rw [HH.out.2.2.1.1]
    rcases Nat.lt_or_ge j 1 with hj1 | hj1
    · obtain rfl : j = 0 := by omega
      obtain ⟨y, t1⟩ := t1
      exact ⟨_, t1, by show kOne ≠ kEndW; decide⟩
    · obtain rfl : j = 1 := by omega
      obtain ⟨y, t2⟩ := t2
      exact ⟨_, t2, by show kNs ≠ kEndW; decide⟩) (by show S.toks[S.pos + 1 + 2]? = _; rw [HH.out.2.2.1.1]; exact t3) rfl HH.out.2.2.2.1)
  clear t1 t2 t3
  go_wp2_with fail
  refine HS.out.mono ?_; rintro e w3 ⟨rfl, hr3, ho3⟩
  have H3 := Lib.hid (And.intro (show Rdr base b w3 { S with pos := 4 } V by simp only [HH.out.2.2.1.1] at hr3; exact hr3) (H2.out.2.trans (Only.toB H2.out.1 ho3)))
  clear hr3 ho3 HS H2
  have NC := Lib.hid (comments_none H3.out.1 (nocom_of HH.out.1 (by show ((headLines T).flatten ++ R)[4]? ≠ _; rw [hw_a 4 (by decide)]; show some kScope ≠ some kCom; decide)))
  go_wp2_with fail
  refine NC.out.mono ?_; rintro e w4 ⟨rfl, hr4, hb4⟩
  have H4 := Lib.hid (And.intro hr4 (H3.out.2.trans (hb4.mono H3.out.1.base_le)))
  clear hr4 hb4 NC H3
  go_wp2_with fail
  refine (want2 H4.out.1 kScope kModule (HH.out.2.2.2.2.2.1 4 _ (by decide) rfl) (HH.out.2.2.2.2.2.1 5 _ (by decide) rfl) HH.out.2.2.2.1).mono ?_; rintro e w5 ⟨rfl, hr5, hb5⟩
  have H5 := Lib.hid (And.intro hr5 (H4.out.2.trans hb5))
  clear hr5 hb5 H4
  obtain ⟨y6, t6⟩ := HH.out.2.2.2.2.2.1 6 _ (by decide) rfl
  have HNm := Lib.hid (name_word H5.out.1 (t := (T.top, y6)) t6 HH.out.2.2.2.1 HH.out.2.1.top)
  clear t6
  go_wp2_with fail
  refine HNm.out.mono ?_; rintro e w6 ⟨rfl, hr6, ho6⟩
  have H6 := Lib.hid (And.intro hr6 (H5.out.2.trans (Only.toB H5.out.1 ho6)))
  clear hr6 ho6 HNm H5
  have f3 := H6.out.1.blk.frz 3
  have c3 := H6.out.1.cell (i := 3) rfl
  go_upto_region 6 with fail
  have H7 := Lib.hid (And.intro (H6.out.1.setTop T.top) (H6.out.2.trans (H6.out.1.boxB 3 (.string (bstr T.top)))))
  clear f3 c3 H6
  generalize w6.setCell ⟨b, 3, none⟩ (.string (bstr T.top)) = w7 at *
  have HW7 := Lib.hid (want1 H7.out.1 kEnd (HH.out.2.2.2.2.2.1 7 _ (by decide) rfl) HH.out.2.2.2.1)
  go_wp2_with fail
  refine HW7.out.mono ?_; rintro e w8 ⟨rfl, hr8, hb8⟩
  have H8 := Lib.hid (And.intro hr8 (H7.out.2.trans hb8))
  clear hr8 hb8 HW7 H7
  have NC8 := Lib.hid (comments_none H8.out.1 (nocom_head (i := 0) HH.out.1 (Nat.zero_le _)))
  go_wp2_with fail
  refine NC8.out.mono ?_; rintro e w9 ⟨rfl, hr9, hb9⟩
  have H9 := Lib.hid (And.intro hr9 (H8.out.2.trans (hb9.mono H8.out.1.base_le)))
  clear hr9 hb9 NC8 H8
  obtain ⟨m, hm⟩ : ∃ m, T.vars.length = m := ⟨_, rfl⟩
  have HMm := Lib.hid hm
  rw [hm] at HH
  clear hm
  go_wp2_with fail
  go_loopw [] (fun wr => ∃ (i : Nat) (V' : Key → Value), i ≤ m ∧ Rdr base b wr (headS S T i) V' ∧ Below base w wr) (fun wr => 8 + 6 * m - posOf wr b)
  case atStart =>
    refine ⟨0, V, Nat.zero_le _, ?_, H9.out.2⟩
    have h9 := H9.out.1
    unfold headS
    rw [List.take_zero, List.range_zero, List.map_nil, ← HH.out.2.2.1.2.1, ← HH.out.2.2.1.2.2.1]
    exact h9
  case round =>
    obtain ⟨i, V', hi, hr, hb⟩ := hrel
    have HL := Lib.hid (And.intro hr hb)
    clear hr hb
    have hN := HH.out.2.2.2.1
    by_cases hlt : i < m
    · obtain ⟨v, hv⟩ : ∃ v, T.vars[i]? = some v := ⟨_, List.getElem?_eq_getElem (by rw [HMm.out]; exact hlt)⟩
      obtain ⟨y, ht⟩ := tok_of HH.out.1 (hw_v (R := R) i v hv 0 (by decide))
      have HVA := Lib.hid (varAt_of HH.out.1 HH.out.2.1 HH.out.2.2.1.2.2.2 HH.out.2.2.2.1 hv)
      obtain ⟨pt, ct, hVt, hrt⟩ := HL.out.1.toks
      have htl : 8 + 6 * i < S.toks.length := (List.getElem?_eq_some_iff.1 ht).1
      obtain ⟨bt, ot, rfl⟩ := hrt.sl (tokCells_at _ _ _ ht).1
      have k0 := (HL.out.1.tokAt hVt ht).1
      have c0 := HL.out.1.cell (i := 0) rfl
      have c1 := HL.out.1.cell (i := 1) rfl
      have f1 := HL.out.1.blk.frz 1
      rw [hVt] at c0
      have hX : ((bstr kVar).toList == [36, 118, 97, 114]) = true := by rw [bstr_toList]; decide
      have hk : (headS S T i).pos = 8 + 6 * i := rfl
      have hn : (headS S T i).toks.length = S.toks.length := rfl
      rw [hk] at c1
      rw [hn] at c0
      obtain ⟨n, hnn⟩ : ∃ n, S.toks.length = n := ⟨_, rfl⟩
      obtain ⟨k, hkk⟩ : ∃ k, 8 + 6 * i = k := ⟨_, rfl⟩
      rw [hnn] at c0 htl hN
      rw [hkk] at c1 k0 htl
      have k0' : wr.cell? ⟨bt, ot + k * 2, none⟩ = some (.string (bstr kVar)) := k0
      generalize bstr kVar = X at k0' hX
      have hki : (k : Int) < n := by omega
      have hk0 : (0 : Int) ≤ k := by omega
      have hw1 : IntKind.i64.wrap ((k : Int) + 1) = (k : Int) + 1 := i64_of (by omega)
      have HM : Hid (∀ j, Calls Tryz.prog 36 #[.pointer (some ⟨b, 0, none⟩)] (wr.drewN j) fun e w' => e = .returned (.bool true) ∧ ∃ k, w' = (wr.drewN j).drewN k) := Lib.hid fun j => more_any (HL.out.1.below (below_drewN j)) (decide_eq_true (by show 8 + 6 * i < S.toks.length; omega))
      have HX := Lib.hid (And.intro hlt (And.intro hkk hv))
      clear hVt hrt k0 hk hn hnn hkk htl ht hlt hv hi
      go_wp2_with fail
      go_quiet (go_must (exact (HM.out _).mono fun e w' ⟨he, n, hn⟩ => ⟨he, _, hn.trans (World.drewN_drewN _ _ _)⟩))
      go_upto_region 10 with fail
      have h1 := (HL.out.1.below (below_drewN nq)).at (k + 1)
      have hb1 := HL.out.2.trans (((below_drewN (B := wr.heap.size) nq).mono HL.out.1.base_le).trans ((HL.out.1.below (below_drewN nq)).boxB 1 (.int .i64 ((k + 1 : Nat) : Int))))
      have H1 := Lib.hid (And.intro h1 hb1)
      clear h1 hb1 c0 c1 k0' f1
      have hcast : ((k : Int) + 1) = ((k + 1 : Nat) : Int) := rfl
      rw [hcast] at hw1 ⊢
      generalize (wr.drewN nq).setCell ⟨b, 1, none⟩ (.int .i64 ((k + 1 : Nat) : Int)) = w1' at *
      have HVr := Lib.hid (variable_any (ds := decDs v.2) (key := idL i) (nm := v.1) (show Rdr base b w1' { headS S T i with pos := 8 + 6 * i + 1 } V' by have := H1.out.1; rw [← HX.out.2.1] at this; exact this) HVA.out)
      clear hw1 hcast
      go_wp2_with fail
      refine HVr.out.mono ?_; rintro e w2' ⟨rfl, ⟨V2, hr2⟩, hb2⟩
      have hr2' : Rdr base b w2' (headS S T (i + 1)) V2 := by rw [← headS_succ HX.out.2.2 HH.out.2.2.1.2.2.2]; exact hr2
      have H2 := Lib.hid (And.intro hr2' (H1.out.2.trans hb2))
      clear hr2 hr2' hb2 HVr H1
      have NC := Lib.hid (comments_none H2.out.1 (nocom_head (i := i + 1) HH.out.1 (by rw [HMm.out]; exact HX.out.1)))
      go_wp2_with fail
      refine NC.out.mono ?_; rintro e w3' ⟨rfl, hr3, hb3⟩
      have H3 := Lib.hid (And.intro hr3 (H2.out.2.trans (hb3.mono H2.out.1.base_le)))
      clear hr3 hb3 NC H2
      go_wp2_with fail
      go_roundw
      case rel => exact ⟨i + 1, V2, HX.out.1, H3.out.1, H3.out.2⟩
      case measure =>
        have e1 := H3.out.1.posOf
        have e2 := HL.out.1.posOf
        have e3 : (headS S T (i + 1)).pos = 8 + 6 * (i + 1) := rfl
        have e4 : (headS S T i).pos = 8 + 6 * i := rfl
        have := HX.out.1
        omega
    · obtain rfl : i = m := by omega
      obtain ⟨y, ht⟩ := tok_of HH.out.1 (hw_b (R := R) 0 (by decide))
      rw [HMm.out, Nat.add_zero] at ht
      obtain ⟨pt, ct, hVt, hrt⟩ := HL.out.1.toks
      have htl : 8 + 6 * i < S.toks.length := (List.getElem?_eq_some_iff.1 ht).1
      obtain ⟨bt, ot, rfl⟩ := hrt.sl (tokCells_at _ _ _ ht).1
      have k0 := (HL.out.1.tokAt hVt ht).1
      have c0 := HL.out.1.cell (i := 0) rfl
      have c1 := HL.out.1.cell (i := 1) rfl
      rw [hVt] at c0
      have hX : ((bstr kUp).toList == [36, 118, 97, 114]) = false := by rw [bstr_toList]; decide
      have hk : (headS S T i).pos = 8 + 6 * i := rfl
      have hn : (headS S T i).toks.length = S.toks.length := rfl
      rw [hk] at c1
      rw [hn] at c0
      obtain ⟨n, hnn⟩ : ∃ n, S.toks.length = n := ⟨_, rfl⟩
      obtain ⟨k, hkk⟩ : ∃ k, 8 + 6 * i = k := ⟨_, rfl⟩
      rw [hnn] at c0 htl hN
      rw [hkk] at c1 k0 htl
      have k0' : wr.cell? ⟨bt, ot + k * 2, none⟩ = some (.string (bstr kUp)) := k0
      generalize bstr kUp = X at k0' hX
      have hki : (k : Int) < n := by omega
      have hk0 : (0 : Int) ≤ k := by omega
      have HM : Hid (∀ j, Calls Tryz.prog 36 #[.pointer (some ⟨b, 0, none⟩)] (wr.drewN j) fun e w' => e = .returned (.bool true) ∧ ∃ k, w' = (wr.drewN j).drewN k) := Lib.hid fun j => more_any (HL.out.1.below (below_drewN j)) (decide_eq_true (by show 8 + 6 * i < S.toks.length; omega))
      clear hVt hrt k0 hk hn hnn hkk htl ht hlt hi
      go_wp2_with fail
      go_quiet (go_must (exact (HM.out _).mono fun e w' ⟨he, n, hn⟩ => ⟨he, _, hn.trans (World.drewN_drewN _ _ _)⟩))
      have H1 := Lib.hid (And.intro (HL.out.1.below (below_drewN nq)) (HL.out.2.trans ((below_drewN (B := wr.heap.size) nq).mono HL.out.1.base_le)))
      clear c0 c1 k0'
      generalize wr.drewN nq = w1' at *
      have hB := HH.out.2.2.2.2.2.2
      have HW2 := Lib.hid (want2 H1.out.1 kUp kEnd (hB 0 _ (by decide) rfl) (hB 1 _ (by decide) rfl) HH.out.2.2.2.1)
      go_wp2_with fail
      refine HW2.out.mono ?_; rintro e w2' ⟨rfl, hr2, hb2⟩
      have H2 := Lib.hid (And.intro hr2 (H1.out.2.trans hb2))
      clear hr2 hb2 HW2 H1
      have NC2 := Lib.hid (comments_none H2.out.1 (nocom_of HH.out.1 (by
        show ((headLines T).flatten ++ R)[8 + 6 * i + 2]? ≠ some kCom
        have := hw_b (T := T) (R := R) 2 (by decide)
        rw [HMm.out] at this
        rw [this]
        show some kEd ≠ some kCom
        decide)))
      go_wp2_with fail
      refine NC2.out.mono ?_; rintro e w3' ⟨rfl, hr3, hb3⟩
      have H3 := Lib.hid (And.intro hr3 (H2.out.2.trans (hb3.mono H2.out.1.base_le)))
      clear hr3 hb3 NC2 H2
      have HW4 := Lib.hid (want2 H3.out.1 kEd kEnd (hB 2 _ (by decide) rfl) (hB 3 _ (by decide) rfl) HH.out.2.2.2.1)
      clear hB
      go_wp2_with fail
      refine HW4.out.mono ?_; rintro e w4' ⟨rfl, hr4, hb4⟩
      have H4 := Lib.hid (And.intro hr4 (H3.out.2.trans hb4))
      clear hr4 hb4 HW4 H3
      have NC4 := Lib.hid (comments_none H4.out.1 (nocom_of HH.out.1 (by
        show ((headLines T).flatten ++ R)[8 + 6 * i + 2 + 2]? ≠ some kCom
        have := hw_r (T := T) (R := R) 0
        rw [HMm.out] at this
        rw [show 8 + 6 * i + 2 + 2 = 12 + 6 * i + 0 by omega, this]
        exact HH.out.2.2.2.2.1)))
      go_wp2_with fail
      refine NC4.out.mono ?_; rintro e w5' ⟨rfl, hr5, hb5⟩
      have H5 := Lib.hid (And.intro hr5 (H4.out.2.trans (hb5.mono H4.out.1.base_le)))
      clear hr5 hb5 NC4 H4
      go_wp2_with fail
      go_end0
      refine ⟨rfl, ⟨V', ?_⟩, H5.out.2⟩
      have h5 := H5.out.1
      unfold headS at h5
      rw [← HMm.out, List.take_length] at h5
      simp only at h5
      rw [show 8 + 6 * T.vars.length + 2 + 2 = 12 + 6 * T.vars.length by omega] at h5
      exact h5
end Go.Proofs.YtcdjkbgedmehjaaGreatDoor
namespace Go.Proofs.YtcdjkbgedmehjaaGreatDoor
set_option linter.unusedVariables false
open Go.RowKit Go.Sort

/-! # the reader: a change -/
theorem info_set : (Tryz.prog.info? 128).map (fun i => (i.zero, i.size)) = some (some (.agg (Array.replicate 256 (.bool false))), 256) := by kernel_rfl
theorem drop_all {p : UInt8 → Bool} : ∀ (l : Bs), (∀ c ∈ l, p c = true) → l.dropWhile p = []
  | [], _ => rfl
  | a :: l, h => by
    rw [List.dropWhile_cons, if_pos (h a (by simp))]
    exact drop_all l fun c hc => h c (by simp [hc])
theorem trim_bits (l : Bs) (h : ∀ c ∈ l, c = 48 ∨ c = 49) : Lib.trimS l [48, 49] = [] := by
  have h1 : ∀ c ∈ l, ([48, 49] : List UInt8).contains c = true := fun c hc => by rcases h c hc with e | e <;> subst e <;> decide
  have h2 : Lib.trimRightS l [48, 49] = [] := by
    unfold Lib.trimRightS
    rw [drop_all _ (fun c hc => h1 c (List.mem_reverse.1 hc))]
    rfl
  unfold Lib.trimS
  rw [h2]; rfl
set_option maxRecDepth 100000 in
theorem binary_yes {w : World} (l : Bs) (h0 : l ≠ []) (hl : l.length ≤ 1000) (h : ∀ c ∈ l, c = 48 ∨ c = 49) :
    Calls Tryz.prog 76 #[.string (bstr l)] w fun e w' => e = .returned (.bool true) ∧ Below w.heap.size w w' := by
  have hs : (bstr l).size ≠ 0 := by rw [bstr_size]; have := List.length_pos_iff.2 h0; omega
  obtain ⟨hnl, hie⟩ := str_some hs
  have HT : Hid (Calls Tryz.prog 86 #[.string (bstr l), .string ⟨#[48, 49]⟩] w fun e w' => e = .returned (.string ⟨#[]⟩) ∧ Below w.heap.size w w') := Lib.hid (by
    have hh := Any.strings_Trim_laid Tryz.lays160 info_set (bstr l) ⟨#[48, 49]⟩ w (by rw [bstr_size]; omega) (by decide) (ascii_of_all (by decide))
    rw [show (bstr l).data.toList = l by simp [bstr], show (⟨#[48, 49]⟩ : ByteArray).data.toList = [48, 49] from rfl, trim_bits l h] at hh
    exact hh)
  generalize bstr l = X at *
  clear hs h0 hl h
  go_enter Tryz.func76, Tryz.ntmps76
  go_wp2_with fail
  refine HT.out.mono ?_; rintro e w1 ⟨rfl, hb1⟩
  have H1 := Lib.hid hb1
  clear hb1
  go_wp2_with fail
  go_ret
  exact ⟨rfl, H1.out⟩
theorem idx_hit (m i : Nat) (hi : i < m) : Lib.idxOfS (((List.range m).map idL).map bstr) (bstr (idL i)) = (i : Int) := by
  have hg : ∀ j, j < m → ((((List.range m).map idL).map bstr).getD j ByteArray.empty) = bstr (idL j) := fun j hj => by
    rw [List.getD_eq_getElem?_getD, List.getElem?_map, List.getElem?_map, List.getElem?_range hj]; rfl
  have h := Lib.idxFromS_hit (bstr (idL i)) (((List.range m).map idL).map bstr) i 0 (by simpa using hi) (hg i hi) (fun j hj e => by
    rw [hg j (by omega)] at e
    have e2 := congrArg ByteArray.toList e
    rw [bstr_toList, bstr_toList] at e2
    have := idL_inj _ _ e2
    omega)
  unfold Lib.idxOfS
  rw [h]; simp
/-- another vector at a place -/
def RdS.put (S : RdS) (n i : Nat) (e : VecE) : RdS := { S with rows := S.rows.set n ((S.rows.getD n []).set i e) }
theorem rowCells_len (l : List VecE) : (rowCells l).length = l.length * 2 := by
  induction l with
  | nil => rfl
  | cons a l ih => 
    show (_ :: _ :: rowCells l).length = _
    simp only [List.length_cons, ih]; omega
theorem rowCells_set : ∀ (l : List VecE) (i : Nat) (e : VecE), i < l.length → ((rowCells l).set (i * 2) (.int .i64 e.w)).set (i * 2 + 1) (.slice e.p (wcount e.w) e.c) = rowCells (l.set i e)
  | [], _, _, h => absurd h (Nat.not_lt_zero _)
  | a :: l, 0, e, _ => rfl
  | a :: l, i + 1, e, h => by
    have ih := rowCells_set l i e (by simpa using h)
    have e1 : rowCells (a :: l) = .int .i64 a.w :: .slice a.p (wcount a.w) a.c :: rowCells l := rfl
    rw [e1, show (i + 1) * 2 = i * 2 + 1 + 1 by omega, List.set_cons_succ, List.set_cons_succ, List.set_cons_succ, List.set_cons_succ, ih]
    rfl
theorem rowCells_at : ∀ (l : List VecE) (i : Nat) (e : VecE), l[i]? = some e → (rowCells l)[i * 2]? = some (.int .i64 e.w) ∧ (rowCells l)[i * 2 + 1]? = some (.slice e.p (wcount e.w) e.c)
  | [], _, _, h => by simp at h
  | a :: l, 0, e, h => by
    simp at h; subst h
    exact ⟨rfl, rfl⟩
  | a :: l, i + 1, e, h => by
    have ih := rowCells_at l i e (by simpa using h)
    have e1 : rowCells (a :: l) = .int .i64 a.w :: .slice a.p (wcount a.w) a.c :: rowCells l := rfl
    rw [e1, show (i + 1) * 2 = i * 2 + 1 + 1 by omega, List.getElem?_cons_succ, List.getElem?_cons_succ, List.getElem?_cons_succ]
    exact ih
section
variable {base b : Nat} {w w1 : World} {S S' : RdS} {V V' : Key → Value}
theorem Rof_row (n : Nat) (l : List VecE) (hn : n < S.rows.length) (hl : l.length = (S.rows.getD n []).length) : upd (Rof S V) (.row n) (V (.row n), l.length, rowCells l) = Rof { S with rows := S.rows.set n l } V := by
  funext k
  cases k with
  | row j =>
    by_cases h : j = n
    · subst h
      rw [upd_same]
      simp only [Rof, List.length_set, if_pos hn, List.getD_eq_getElem?_getD, List.getElem?_set_self hn, Option.getD_some]
    · rw [upd_other _ _ (by intro e; cases e; exact h rfl)]
      simp only [Rof, List.length_set, List.getD_eq_getElem?_getD, List.getElem?_set_ne (Ne.symm h)]
  | vals => rw [upd_other _ _ (by intro e; cases e)]; simp [Rof]
  | tok => rfl
  | ids => rfl
  | vars => rfl
/-- a vector is written into a row -/
theorem Rdr.put (h : Rdr base b w S V) {n i : Nat} (hn : n < S.rows.length) (hi : i < (S.rows.getD n []).length) (e : VecE) (hv : VR w (vecV e) e.w e.x) (hs : Sep w.heap.size (Rof S V) b (vecV e)) {v : Bs × Nat} (hvar : S.vars[i]? = some v) (hw : e.w = v.2) {br m' cr : Nat} (hV : V (.row n) = .slice (some ⟨br, 0, none⟩) m' cr) :
    Rdr base b ((w.setCell ⟨br, i * 2, none⟩ (.int .i64 e.w)).setCell ⟨br, i * 2 + 1, none⟩ (.slice e.p (wcount e.w) e.c)) (S.put n i e) V := by
  have hR : Rof S V (.row n) = (V (.row n), (S.rows.getD n []).length, rowCells (S.rows.getD n [])) := by simp only [Rof, if_pos hn]
  have h1 : (Rof S V (.row n)).1 = .slice (some ⟨br, 0, none⟩) m' cr := by rw [hR]; exact hV
  have hm1 := h.mem.set (.row n) (i := i * 2) (.int .i64 e.w) (by rw [hR]; simp only [rowCells_len]; omega) h1
  have hm2 := hm1.set (.row n) (i := i * 2 + 1) (.slice e.p (wcount e.w) e.c) (by rw [upd_same, hR]; simp only [List.length_set, rowCells_len]; omega) (by rw [upd_same]; exact h1)
  rw [upd_same] at hm2
  have hu : upd (upd (Rof S V) (.row n) ((Rof S V (.row n)).1, (Rof S V (.row n)).2.1, (Rof S V (.row n)).2.2.set (i * 2) (.int .i64 e.w))) (.row n) ((Rof S V (.row n)).1, (Rof S V (.row n)).2.1, ((Rof S V (.row n)).2.2.set (i * 2) (.int .i64 e.w)).set (i * 2 + 1) (.slice e.p (wcount e.w) e.c)) = Rof (S.put n i e) V := by
    have e1 := Rof_row (V := V) n ((S.rows.getD n []).set i e) hn (by simp)
    unfold RdS.put
    rw [← e1]
    funext k
    by_cases hk : k = .row n
    · subst hk
      rw [upd_same, upd_same, hR]
      simp only [rowCells_set _ _ _ hi, List.length_set]
    · rw [upd_other _ _ hk, upd_other _ _ hk, upd_other _ _ hk]
  rw [hu] at hm2
  have hbr : br ≠ b := fun e' => h.mem.nb (.row n) (by rw [h1, e']; rfl)
  have hall : ∀ (j : Nat) (r : List VecE), (S.put n i e).rows[j]? = some r → ∃ r0, S.rows[j]? = some r0 ∧ r.length = r0.length ∧ ∀ (k : Nat) (q : VecE), r[k]? = some q → r0[k]? = some q ∨ (q = e ∧ k = i) := by
    intro j r hj
    unfold RdS.put at hj
    simp only at hj
    by_cases hjn : n = j
    · subst hjn
      rw [List.getElem?_set_self hn] at hj
      cases hj
      have e0 : S.rows[n]? = some (S.rows.getD n []) := by rw [List.getD_eq_getElem?_getD, List.getElem?_eq_getElem hn]; rfl
      refine ⟨S.rows.getD n [], e0, by rw [List.length_set], fun k q hq => ?_⟩
      by_cases hk : i = k
      · subst hk
        rw [List.getElem?_set_self hi] at hq
        cases hq
        exact .inr ⟨rfl, rfl⟩
      · rw [List.getElem?_set_ne hk] at hq
        exact .inl hq
    · rw [List.getElem?_set_ne hjn] at hj
      exact ⟨r, hj, rfl, fun k q hq => .inl hq⟩
  have hown : ∀ q g, (Rof (S.put n i e) V q).1.ownBlock = some g → (∃ q', (Rof S V q').1.ownBlock = some g) ∨ w.heap.size ≤ g := fun q g hg => .inl ⟨q, by
    rw [← hg]
    cases q with
    | row j => simp only [Rof, RdS.put, List.length_set]; split <;> rfl
    | _ => rfl⟩
  have hold : ∀ g, g < w.heap.size → g ≠ b → (∀ q, (Rof S V q).1.ownBlock ≠ some g) → ((w.setCell ⟨br, i * 2, none⟩ (.int .i64 e.w)).setCell ⟨br, i * 2 + 1, none⟩ (.slice e.p (wcount e.w) e.c)).heap[g]? = w.heap[g]? := fun g _ _ hq => by
    have hne : g ≠ br := fun e' => hq (.row n) (by rw [h1, e']; rfl)
    rw [Below.heap_setCell _ _ _ _ hne, Below.heap_setCell _ _ _ _ hne]
  refine ⟨hm2, ?_, fun j r hj => ?_, fun j r hj k q v' hq hv' => ?_⟩
  · have e1 : rdCells (S.put n i e) V = rdCells S V := rfl
    rw [e1]
    exact (h.blk.other (a := ⟨br, i * 2, none⟩) _ (Ne.symm hbr)).other (a := ⟨br, i * 2 + 1, none⟩) _ (Ne.symm hbr)
  · obtain ⟨r0, hr0, hl, _⟩ := hall j r hj
    rw [hl]; exact h.len j r0 hr0
  · obtain ⟨r0, hr0, hl, hk⟩ := hall j r hj
    have hv'' : S.vars[k]? = some v' := hv'
    rcases hk k q hq with hq0 | ⟨rfl, rfl⟩
    · have hh := h.vec j r0 hr0 k q v' hq0 hv''
      exact ⟨hh.1, hh.2.2.vr hh.2.1 hold, hh.2.2.turn (by simp) hown⟩
    · rw [hvar] at hv''
      cases hv''
      exact ⟨hw, hs.vr hv hold, hs.turn (by simp) hown⟩
theorem Rdr.putB (h : Rdr base b w S V) {n : Nat} (hn : n < S.rows.length) {br m' cr : Nat} (hV : V (.row n) = .slice (some ⟨br, 0, none⟩) m' cr) (j k : Nat) (x y : Value) : Below base w ((w.setCell ⟨br, j, none⟩ x).setCell ⟨br, k, none⟩ y) := by
  have h1 : (Rof S V (.row n)).1 = .slice (some ⟨br, 0, none⟩) m' cr := by simp only [Rof, if_pos hn]; exact hV
  have hb := (h.mem.lts (.row n) br (by rw [h1]; rfl)).1
  exact ((Below.refl base w).setCell (show base ≤ (⟨br, j, none⟩ : Addr).block from hb) x).setCell (show base ≤ (⟨br, k, none⟩ : Addr).block from hb) y
end
end Go.Proofs.YtcdjkbgedmehjaaGreatDoor
