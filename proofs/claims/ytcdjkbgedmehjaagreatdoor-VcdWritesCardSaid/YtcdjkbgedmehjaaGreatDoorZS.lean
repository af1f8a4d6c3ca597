/- Texts of this claim, one behind another: W14, V26, W15. They state lemmas; each names its own conditions. -/
import Derived.Test.YtcdjkbgedmehjaaGreatDoorZR
import Derived.Test.YtcdjkbgedmehjaaGreatDoorZK
import Derived.Lib.LaidTab
import Derived.Lib.ItoaNum
import Derived.LaidMore
import Derived.Carry
import Derived.SevenTiedAt
import Derived.Stop.Joined
import Derived.ProofKit
import Derived.OpenShut
import Derived.Lay
import Derived.Shelf.Vars
import Derived.HandedShaped
import Derived.Test.YtcdjkbgedmehjaaGreatDoorVB5
import Derived.Lib.SmallJoins
namespace Go.Proofs.YtcdjkbgedmehjaaGreatDoor
set_option linter.unusedVariables false
open Go.RowKit Go.Sort

/-! # VcdWrites: the plain part -/
theorem SzT.few {T : Trf} (h : SzT T) : SzT (fewT T) := ⟨h.top, fun x hx => h.names x (List.mem_of_mem_take hx)⟩
theorem lens_own (T : Trf) : ((ownT T).rows.map fun r => r.map Prod.fst) = lensT T := by
  unfold ownT lensT
  rw [List.map_map]
  refine List.map_congr_left fun r _ => ?_
  show (r.map _).map Prod.fst = _
  rw [List.map_map]; rfl
theorem check_own (T : Trf) : checkT (ownT T) = checkI T.top T.vars (lensT T) := by rw [checkT_I, lens_own]; rfl
theorem natT_vals (T : Trf) : ∀ r ∈ (natT T).rows, ∀ p ∈ r, p.2 < 2 ^ p.1 := by
  intro r hr p hp
  have hr' : r ∈ T.rows.map fun r => r.map fun l => (l.length, valB l) := hr
  obtain ⟨row, _, rfl⟩ := List.mem_map.1 hr'
  obtain ⟨l, _, rfl⟩ := List.mem_map.1 hp
  exact valB_lt l
theorem told_nat {T : Trf} (hw : ∀ x ∈ T.vars, 1 ≤ x.2 ∧ x.2 ≤ 128) : toldT ⟨(natT T).top, (natT T).vars.map fun x => (x.1, (x.2 : Int)), (natT T).rows⟩ = T := by
  obtain ⟨top, vars, rows⟩ := T
  unfold toldT
  congr 1
  · show ((vars.map fun x => (x.1, x.2.toNat)).map fun x => (x.1, (x.2 : Int))) = vars
    rw [List.map_map]
    conv => rhs; rw [← List.map_id vars]
    refine List.map_congr_left fun x hx => ?_
    have := hw x hx
    obtain ⟨a, b⟩ := x
    simp only [Function.comp, id] at this ⊢
    rw [Int.toNat_of_nonneg (by omega)]
  · show ((rows.map fun r => r.map fun l => (l.length, valB l)).map fun r => r.map fun p => bitsOf p.1 p.2) = rows
    rw [List.map_map]
    conv => rhs; rw [← List.map_id rows]
    refine List.map_congr_left fun r _ => ?_
    simp only [Function.comp, List.map_map, id]
    conv => rhs; rw [← List.map_id r]
    exact List.map_congr_left fun l _ => bitsOf_valB l
theorem rowsTo_n (rows : List (List (Nat × Nat))) (h : ∀ r ∈ rows, r.length ≤ 14) : ∀ k, (rowsTo rows k).length ≤ 15 * k
  | 0 => by simp [rowsTo]
  | k + 1 => by
    have ih := rowsTo_n rows h k
    have hr : (rows.getD k []).length ≤ 14 := by
      rw [List.getD_eq_getElem?_getD]
      by_cases hk : k < rows.length
      · rw [List.getElem?_eq_getElem hk]; exact h _ (List.getElem_mem hk)
      · rw [List.getElem?_eq_none (by omega)]; exact Nat.zero_le _
    have := chLines_n (rows.getD k []) 0 (prev rows k)
    simp only [rowsTo, rowLines, List.length_append, List.length_cons]
    omega
theorem text_few {T : Trf} (hf : FewT T) (hT : TOk (natT T)) : (trcText (natT T)).length ≤ 1000000 := by
  have hl : (trcLines (natT T)).length ≤ 1000 := by
    unfold trcLines headLines
    simp only [List.length_append, List.length_cons, List.length_nil, varLines_n]
    have h1 : (natT T).vars.length ≤ 12 := by rw [natT_len]; exact hf.vars
    have h2 : (natT T).rows.length ≤ 12 := by rw [natT_rlen]; exact hf.rows
    have h3 := rowsTo_n (natT T).rows (fun r hr => by
      have hr' : r ∈ T.rows.map fun r => r.map fun l => (l.length, valB l) := hr
      obtain ⟨row, hrow, rfl⟩ := List.mem_map.1 hr'
      rw [List.length_map]; exact hf.row row hrow) (natT T).rows.length
    omega
  exact Nat.le_trans (text_len (line_bound hT) hl) (by decide)
theorem few_own {T : Trf} (hf : FewT T) : FewI ⟨(natT T).top, (natT T).vars.map fun x => (x.1, (x.2 : Int)), (natT T).rows⟩ := by
  refine ⟨?_, ?_, fun r hr => ?_⟩
  · show ((natT T).vars.map _).length ≤ 12
    rw [List.length_map, natT_len]; exact hf.vars
  · show (natT T).rows.length ≤ 12
    rw [natT_rlen]; exact hf.rows
  · have hr' : r ∈ T.rows.map fun r => r.map fun l => (l.length, valB l) := hr
    obtain ⟨row, hrow, rfl⟩ := List.mem_map.1 hr'
    rw [List.length_map]; exact hf.row row hrow
theorem RefR.form {w : World} {tv : Value} {T : Trf} (h : RefR w tv T) : ∃ s pv n cv pr m cr, tv = .agg #[.string s, .slice pv n cv, .slice pr m cr] := by
  obtain ⟨vv, rv, rs, rfl, hvv, hrv, _⟩ := h.ex
  obtain ⟨pv, cv, rfl⟩ := hvv.form
  obtain ⟨pr, cr, rfl⟩ := hrv.form
  exact ⟨_, _, _, _, _, _, _, rfl⟩
theorem TrI.form {w : World} {tv : Value} {T : TrcI} (h : TrI w tv T) : ∃ s pv n cv pr m cr, tv = .agg #[.string s, .slice pv n cv, .slice pr m cr] := by
  obtain ⟨vv, rv, rvs, ess, rfl, hvv, hrv, _⟩ := h.ex
  obtain ⟨pv, cv, rfl⟩ := hvv.form
  obtain ⟨pr, cr, rfl⟩ := hrv.form
  exact ⟨_, _, _, _, _, _, _, rfl⟩
theorem set3_below {w : World} {g : Nat} {a b c : Value} {B : Nat} (hB : B ≤ g) : Below B w (((w.setCell ⟨g, 0, none⟩ a).setCell ⟨g, 1, none⟩ b).setCell ⟨g, 2, none⟩ c) :=
  (((Below.refl B w).setCell (show B ≤ (⟨g, 0, none⟩ : Addr).block from hB) a).setCell (show B ≤ (⟨g, 1, none⟩ : Addr).block from hB) b).setCell (show B ≤ (⟨g, 2, none⟩ : Addr).block from hB) c
theorem set3_other {w : World} {g k : Nat} {a b c : Value} (h : k ≠ g) : (((w.setCell ⟨g, 0, none⟩ a).setCell ⟨g, 1, none⟩ b).setCell ⟨g, 2, none⟩ c).heap[k]? = w.heap[k]? := by
  rw [Below.heap_setCell _ _ _ _ h, Below.heap_setCell _ _ _ _ h, Below.heap_setCell _ _ _ _ h]
theorem set3_blk {w : World} {g t : Nat} {x y z a b c : Value} (h : Blk w g t [x, y, z]) : Blk (((w.setCell ⟨g, 0, none⟩ a).setCell ⟨g, 1, none⟩ b).setCell ⟨g, 2, none⟩ c) g t [a, b, c] := ((h.set 0 a).set 1 b).set 2 c
theorem keep6 {W w w' : World} {p q : Nat} {a b c d e f : Value} (h : w.cell? ⟨p, 0, none⟩ = some a ∧ w.cell? ⟨p, 1, none⟩ = some b ∧ w.cell? ⟨p, 2, none⟩ = some c ∧ w.cell? ⟨q, 0, none⟩ = some d ∧ w.cell? ⟨q, 1, none⟩ = some e ∧ w.cell? ⟨q, 2, none⟩ = some f ∧ Below W.heap.size W w) (hb : Below w.heap.size w w') :
    w'.cell? ⟨p, 0, none⟩ = some a ∧ w'.cell? ⟨p, 1, none⟩ = some b ∧ w'.cell? ⟨p, 2, none⟩ = some c ∧ w'.cell? ⟨q, 0, none⟩ = some d ∧ w'.cell? ⟨q, 1, none⟩ = some e ∧ w'.cell? ⟨q, 2, none⟩ = some f ∧ Below W.heap.size W w' := by
  obtain ⟨h1, h2, h3, h4, h5, h6, h7⟩ := h
  exact ⟨(hb.cell (World.block_lt_of_cell? _ _ h1)).trans h1, (hb.cell (World.block_lt_of_cell? _ _ h2)).trans h2, (hb.cell (World.block_lt_of_cell? _ _ h3)).trans h3, (hb.cell (World.block_lt_of_cell? _ _ h4)).trans h4, (hb.cell (World.block_lt_of_cell? _ _ h5)).trans h5, (hb.cell (World.block_lt_of_cell? _ _ h6)).trans h6, h7.trans (hb.mono h7.size)⟩
set_option maxRecDepth 100000 in
set_option maxHeartbeats 16000000 in
theorem writes_law {w : World} {tv : Value} {T0 : Trf} (h : RefR w tv T0) (hz : SzT T0) (ht : Tab w) : Calls Tryz.prog 3 #[tv] w fun e w' => e = .returned (.bool true) ∧ Below w.heap.size w w' := by
  obtain ⟨x0, xp, xn, xc, yp, yn, yc, rfl⟩ := h.form
  have hb0 := Below.new w (.cells #[.string x0, .slice xp xn xc, .slice yp yn yc] 25)
  have hk0 := Blk.new (w := w) 25 [.string x0, .slice xp xn xc, .slice yp yn yc]
  have HTab : Hid (∀ w', Below w.heap.size w w' → Tab w') := Lib.hid fun w' hb => tab_below ht hb
  have HA := Lib.hid (awake_any (tab_below ht hb0))
  have HF : Hid (∀ w', Below w.heap.size w w' → Calls Tryz.prog 5 #[.agg #[.string x0, .slice xp xn xc, .slice yp yn yc]] w' fun e w'' => ∃ tv', e = .returned tv' ∧ (∀ w3, Below w.heap.size w w3 → (∀ g, w'.heap.size + 2 ≤ g → w3.heap[g]? = w''.heap[g]?) → RefR w3 tv' (fewT T0)) ∧ Below w'.heap.size w' w'') := Lib.hid fun w' hb => few_any h hb
  have H0 := Lib.hid (And.intro hb0 hk0)
  have HSz := Lib.hid hz.few
  have HFw := Lib.hid (fewT_few T0)
  obtain ⟨T, hT⟩ : ∃ T, fewT T0 = T := ⟨_, rfl⟩
  rw [hT] at HF HSz HFw
  clear h hz ht hb0 hk0 hT
  obtain ⟨CN, hCN⟩ : ∃ c, checkI T.top T.vars (lensT T) = c := ⟨_, rfl⟩
  have HCN := Lib.hid hCN
  clear hCN
  go_enter Tryz.func3, Tryz.ntmps3
  go_wp2_with fail
  refine HA.out.mono ?_; rintro e w1 ⟨rfl, hb1⟩
  generalize w.alloc (.cells #[.string x0, .slice xp xn xc, .slice yp yn yc] 25) = W at *
  have H1 := Lib.hid (And.intro (H0.out.1.trans (hb1.mono H0.out.1.size)) (H0.out.2.next hb1))
  clear hb1 HA H0
  obtain ⟨S, hS⟩ : ∃ S, w.heap.size = S := ⟨_, rfl⟩
  rw [hS] at H1 HF HTab ⊢
  have HSS := Lib.hid hS
  clear hS
  have HS1 := Lib.hid H1.out.2.lt
  have c0 := H1.out.2.cell (i := 0) rfl
  have c1 := H1.out.2.cell (i := 1) rfl
  have c2 := H1.out.2.cell (i := 2) rfl
  go_wp2_with fail
  refine (HF.out w1 H1.out.1).mono ?_; rintro e w2 ⟨tv1, rfl, hR, hb2⟩
  have hR2 := hR w2 (H1.out.1.trans (hb2.mono (Nat.le_of_lt HS1.out))) (fun g _ => rfl)
  obtain ⟨a0, ap, an, ac, bp, bn, bc, rfl⟩ := hR2.form
  have hk2 := H1.out.2.next hb2
  have f0 := hk2.frz 0
  have f1 := hk2.frz 1
  have f2 := hk2.frz 2
  have e0 := hk2.cell (i := 0) rfl
  have e1 := hk2.cell (i := 1) rfl
  have e2 := hk2.cell (i := 2) rfl
  have hb3 : Below S w (((w2.setCell ⟨S, 0, none⟩ (.string a0)).setCell ⟨S, 1, none⟩ (.slice ap an ac)).setCell ⟨S, 2, none⟩ (.slice bp bn bc)) := (H1.out.1.trans (hb2.mono (Nat.le_of_lt HS1.out))).trans (set3_below (Nat.le_refl _))
  have hR3 := hR (((w2.setCell ⟨S, 0, none⟩ (.string a0)).setCell ⟨S, 1, none⟩ (.slice ap an ac)).setCell ⟨S, 2, none⟩ (.slice bp bn bc)) hb3 (fun g hg => set3_other (by have := HS1.out; omega))
  have hk3 := set3_blk (a := .string a0) (b := .slice ap an ac) (c := .slice bp bn bc) hk2
  have H3 := Lib.hid (And.intro hb3 (And.intro hR3 hk3))
  clear hR hb2 hR2 hk2 hb3 hR3 hk3 c0 c1 c2 HF H1
  go_upto_region 4 with fail
  generalize ((w2.setCell ⟨S, 0, none⟩ (.string a0)).setCell ⟨S, 1, none⟩ (.slice ap an ac)).setCell ⟨S, 2, none⟩ (.slice bp bn bc) = w3 at *
  clear f0 f1 f2 e0 e1 e2 HS1
  have HS3 := Lib.hid H3.out.2.2.lt
  have HO := Lib.hid (own_any H3.out.2.1 HFw.out)
  have c0 := H3.out.2.2.cell (i := 0) rfl
  have c1 := H3.out.2.2.cell (i := 1) rfl
  have c2 := H3.out.2.2.cell (i := 2) rfl
  go_wp2_with fail
  refine HO.out.mono ?_; rintro e w4 ⟨tv2, rfl, hI4, hb4⟩
  obtain ⟨d0, dp, dn, dc, gp, gn, gc, rfl⟩ := hI4.form
  have hb5 := Below.new w4 (.cells #[.string d0, .slice dp dn dc, .slice gp gn gc] 31)
  have hk5 := Blk.new (w := w4) 31 [.string d0, .slice dp dn dc, .slice gp gn gc]
  obtain ⟨G, hG⟩ : ∃ G, w4.heap.size = G := ⟨_, rfl⟩
  rw [hG] at hk5
  have hI5 := hI4.below hb5
  have h45 : Below w3.heap.size w3 _ := hb4.trans (hb5.mono hb4.size)
  have hk35 := H3.out.2.2.next h45
  have hR5 := H3.out.2.1.below h45
  have hB5 := H3.out.1.trans (h45.mono (Nat.le_of_lt HS3.out))
  have H5 := Lib.hid (And.intro hB5 (And.intro hR5 (And.intro hk35 (And.intro hI5 hk5))))
  clear hI4 hb4 hb5 hk5 hI5 h45 hk35 hR5 hB5 HO c0 c1 c2 H3
  go_upto_region 5 with fail
  generalize w4.alloc (.cells #[.string d0, .slice dp dn dc, .slice gp gn gc] 31) = w5 at *
  clear hG HS3
  have HC := Lib.hid (rcheck_any H5.out.2.1 HFw.out HSz.out)
  rw [HCN.out] at HC
  have c0 := H5.out.2.2.1.cell (i := 0) rfl
  have c1 := H5.out.2.2.1.cell (i := 1) rfl
  have c2 := H5.out.2.2.1.cell (i := 2) rfl
  go_wp2_with fail
  refine HC.out.mono ?_; rintro e w6 ⟨rfl, hb6⟩
  have hS5 : S ≤ w5.heap.size := Nat.le_of_lt H5.out.2.2.1.lt
  have H6 := Lib.hid (And.intro (H5.out.1.trans (hb6.mono hS5)) (And.intro (H5.out.2.1.below hb6) (And.intro (H5.out.2.2.1.next hb6) (And.intro (H5.out.2.2.2.1.below hb6) (H5.out.2.2.2.2.next hb6)))))
  clear hb6 hS5 c0 c1 c2 HC H5
  have g0 := H6.out.2.2.2.2.cell (i := 0) rfl
  have g1 := H6.out.2.2.2.2.cell (i := 1) rfl
  have g2 := H6.out.2.2.2.2.cell (i := 2) rfl
  have hnv : (((ownT T).vars.length : Nat) : Int) ≤ 3000000 := by have := HFw.out.vars; have e : (ownT T).vars.length = T.vars.length := rfl; omega
  have hmv : (((ownT T).rows.length : Nat) : Int) ≤ 3000000 := by have := HFw.out.rows; have e : (ownT T).rows.length = T.rows.length := by simp [ownT]
                                                                  omega
  have hrv : ∀ r ∈ (ownT T).rows, (r.length : Int) ≤ 140737488355328 := fun r hr => by
    have hr' : r ∈ T.rows.map fun r => r.map fun l => (l.length, valB l) := hr
    obtain ⟨row, hrow, rfl⟩ := List.mem_map.1 hr'
    have := HFw.out.row row hrow
    rw [List.length_map]; omega
  have hS6 := H6.out.2.2.1.lt
  have hct : checkT (ownT T) = CN := (check_own T).trans HCN.out
  have HCk : Hid (∀ w', Below w6.heap.size w6 w' → Calls Tryz.prog 9 #[.agg #[.string d0, .slice dp dn dc, .slice gp gn gc]] w' fun e w'' => e = .returned (.int .i64 (CN : Nat)) ∧ Below w'.heap.size w' w'') := Lib.hid fun w' hb => by
    have := check_anyI (H6.out.2.2.2.1.below hb) hnv hmv hrv
    rw [hct] at this
    exact this
  by_cases h0 : CN = 0
  · have hnat := checkI_nat (ownT T) (by rw [← checkT_I, hct]; exact h0)
    have hwd : ∀ x ∈ T.vars, 1 ≤ x.2 ∧ x.2 ≤ 128 := hnat.2
    have hTr := H6.out.2.2.2.1.nat (fun x hx => by have := hnat.2 x hx; omega)
    have hTok := tok_of_check hnat.1 (natT_vals T)
    have htx := text_few HFw.out hTok
    have HWg := Lib.hid (write_good hTr hTok hnat.1 htx (HTab.out w6 H6.out.1))
    have HRd := Lib.hid (fun w' => read_any (w := w') hTok (Nat.le_trans htx (by decide)))
    have HRw : Hid (∀ w', Below w6.heap.size w6 w' → Calls Tryz.prog 11 #[.agg #[.string a0, .slice ap an ac, .slice bp bn bc]] w' fun e w'' => e = .returned (.string (bstr (trcText (natT T)))) ∧ Below w'.heap.size w' w'') := Lib.hid fun w' hb => rwrite_any (H6.out.2.1.below hb) HFw.out hwd hTok htx
    have HTl : Hid (∀ w' tv', TrR w' tv' (natT T) → Calls Tryz.prog 13 #[tv'] w' fun e w'' => ∃ tv2, e = .returned tv2 ∧ RefR w'' tv2 T ∧ Below w'.heap.size w' w'') := Lib.hid fun w' tv' h => by
      have := told_any h.toI (few_own HFw.out)
      rw [told_nat hwd] at this
      exact this
    have hxe : ((bstr (trcText (natT T))).toList == (bstr (trcText (natT T))).toList) = true := by simp
    have HXe := Lib.hid hxe
    have hcc : ((CN : Int) == (CN : Int)) = true := by simp
    have hc0 : ((CN : Int) == 0) = true := by simp [h0]
    have hc1 : ((0 : Int) == (CN : Int)) = true := by simp [h0]
    have HS6 := Lib.hid hS6
    obtain ⟨TX, hTX⟩ : ∃ X, bstr (trcText (natT T)) = X := ⟨_, rfl⟩
    have hwg := HWg.out
    have hrd := HRd.out
    have hrw := HRw.out
    have e1 : bstr (trcText (ownT T).nat) = TX := hTX
    rw [e1] at hwg hrd
    rw [hTX] at hrw hxe
    have HWg := Lib.hid hwg
    have HRd := Lib.hid hrd
    have HRw := Lib.hid hrw
    clear hnv hmv hrv hct h0 hS6 hnat hwd hTr hTok htx hTX e1 hwg hrd hrw HXe
    go_wp2_with fail
    refine HWg.out.mono ?_; rintro e w7 ⟨rfl, hb7⟩
    have k7 := H6.out.2.2.2.2.next hb7
    have H7 := Lib.hid (And.intro hb7 (H6.out.1.trans (hb7.mono (Nat.le_of_lt HS6.out))))
    clear hb7 g0 g1 g2 HWg
    have g0 := k7.cell (i := 0) rfl
    have g1 := k7.cell (i := 1) rfl
    have g2 := k7.cell (i := 2) rfl
    clear k7
    have hS7 := Lib.hid (Nat.le_trans (Nat.le_of_lt HS6.out) H7.out.1.size)
    go_wp2_with fail
    refine (HCk.out w7 H7.out.1).mono ?_; rintro e w8 ⟨rfl, hb8⟩
    have H8 := Lib.hid (And.intro (H7.out.1.trans (hb8.mono H7.out.1.size)) (H7.out.2.trans (hb8.mono hS7.out)))
    clear hb8 g0 g1 g2 HCk H7 hS7
    go_wp2_with fail
    refine (HRd.out w8).mono ?_; rintro e w9 ⟨tv9, rfl, hT9, hb9⟩
    obtain ⟨v0, vp, vn, vc, zp, zn, zc, rfl⟩ := hT9.toI.form
    have hb10 := Below.new w9 (.cells #[.string v0, .slice vp vn vc, .slice zp zn zc] 31)
    have hk10 := Blk.new (w := w9) 31 [.string v0, .slice vp vn vc, .slice zp zn zc]
    obtain ⟨G2, hG2⟩ : ∃ G, w9.heap.size = G := ⟨_, rfl⟩
    have h610 := H8.out.1.trans ((hb9.trans (hb10.mono hb9.size)).mono H8.out.1.size)
    have hk1 := H6.out.2.2.1.next h610
    rw [hG2] at hk10
    have H10 := Lib.hid (And.intro (H6.out.1.trans (h610.mono (Nat.le_of_lt HS6.out))) (And.intro (H6.out.2.1.below h610) (And.intro (hT9.below hb10) h610)))
    have s0 : (w9.alloc (.cells #[.string v0, .slice vp vn vc, .slice zp zn zc] 31)).drew.cell? ⟨S, 0, none⟩ = some (.string a0) ∧ (w9.alloc (.cells #[.string v0, .slice vp vn vc, .slice zp zn zc] 31)).drew.cell? ⟨S, 1, none⟩ = some (.slice ap an ac) ∧ (w9.alloc (.cells #[.string v0, .slice vp vn vc, .slice zp zn zc] 31)).drew.cell? ⟨S, 2, none⟩ = some (.slice bp bn bc) ∧ (w9.alloc (.cells #[.string v0, .slice vp vn vc, .slice zp zn zc] 31)).drew.cell? ⟨G2, 0, none⟩ = some (.string v0) ∧ (w9.alloc (.cells #[.string v0, .slice vp vn vc, .slice zp zn zc] 31)).drew.cell? ⟨G2, 1, none⟩ = some (.slice vp vn vc) ∧ (w9.alloc (.cells #[.string v0, .slice vp vn vc, .slice zp zn zc] 31)).drew.cell? ⟨G2, 2, none⟩ = some (.slice zp zn zc) ∧ Below (w9.alloc (.cells #[.string v0, .slice vp vn vc, .slice zp zn zc] 31)).heap.size (w9.alloc (.cells #[.string v0, .slice vp vn vc, .slice zp zn zc] 31)) (w9.alloc (.cells #[.string v0, .slice vp vn vc, .slice zp zn zc] 31)).drew :=
      ⟨hk1.cell (i := 0) rfl, hk1.cell (i := 1) rfl, hk1.cell (i := 2) rfl, hk10.cell (i := 0) rfl, hk10.cell (i := 1) rfl, hk10.cell (i := 2) rfl, below_drewN 1⟩
    clear hb9 hb10 hk10 hk1 hT9 h610
    go_upto_region 12 with fail
    generalize w9.alloc (.cells #[.string v0, .slice vp vn vc, .slice zp zn zc] 31) = w10 at *
    clear hG2
    go_region_held3 (fun w' => w'.cell? ⟨S, 0, none⟩ = some (.string a0) ∧ w'.cell? ⟨S, 1, none⟩ = some (.slice ap an ac) ∧ w'.cell? ⟨S, 2, none⟩ = some (.slice bp bn bc) ∧ w'.cell? ⟨G2, 0, none⟩ = some (.string v0) ∧ w'.cell? ⟨G2, 1, none⟩ = some (.slice vp vn vc) ∧ w'.cell? ⟨G2, 2, none⟩ = some (.slice zp zn zc) ∧ Below w10.heap.size w10 w')
      (first | assumption)
      (first
        | (go_at_call 11; refine (HRw.out _ (H10.out.2.2.2.trans (s0.2.2.2.2.2.2.mono H10.out.2.2.2.size))).mono ?_; rintro e w11 ⟨rfl, hb11⟩; have s1 := keep6 s0 hb11; clear hb11)
        | (go_at_call 13; refine (HTl.out _ _ (H10.out.2.2.1.below s1.2.2.2.2.2.2)).mono ?_; rintro e w12 ⟨tv12, rfl, hR12, hb12⟩; obtain ⟨m0, mp, mn, mc, np, nn, nc, rfl⟩ := hR12.form; have s2 := keep6 s1 hb12; clear hb12)
        | (go_at_call 12; refine (same_yes hR12 (H10.out.2.1.below s2.2.2.2.2.2.2) HFw.out).mono ?_; rintro e w13 ⟨rfl, hb13⟩; have s3 := keep6 s2 hb13; clear hb13))
    have HFin := Lib.hid (H10.out.1.trans (s3.2.2.2.2.2.2.mono (Nat.le_trans (Nat.le_of_lt HS6.out) H10.out.2.2.2.size)))
    clear s0 s1 s2 s3
    go_wp2_with fail
    go_ret
    exact ⟨rfl, by rw [HSS.out]; exact HFin.out⟩
  · have HWb := Lib.hid (write_badI H6.out.2.2.2.1 hnv hmv hrv (by rw [hct]; exact h0))
    rw [hct] at HWb
    have hcc : ((CN : Int) == (CN : Int)) = true := by simp
    have hc0 : ((CN : Int) == 0) = false := by simp; omega
    have HS6 := Lib.hid hS6
    clear hnv hmv hrv hct h0 hS6
    go_wp2_with fail
    refine HWb.out.mono ?_; rintro e w7 ⟨rfl, hb7⟩
    have k7 := H6.out.2.2.2.2.next hb7
    have H7 := Lib.hid (And.intro hb7 (H6.out.1.trans (hb7.mono (Nat.le_of_lt HS6.out))))
    clear hb7 g0 g1 g2 HWb
    have g0 := k7.cell (i := 0) rfl
    have g1 := k7.cell (i := 1) rfl
    have g2 := k7.cell (i := 2) rfl
    clear k7
    have hS7 := Lib.hid (Nat.le_trans (Nat.le_of_lt HS6.out) H7.out.1.size)
    go_wp2_with fail
    refine (HCk.out w7 H7.out.1).mono ?_; rintro e w8 ⟨rfl, hb8⟩
    have H8 := Lib.hid (H7.out.2.trans (hb8.mono hS7.out))
    clear hb8 g0 g1 g2
    go_wp2_with fail
    go_ret
    exact ⟨rfl, by rw [HSS.out]; exact H8.out⟩
end Go.Proofs.YtcdjkbgedmehjaaGreatDoor
namespace Go.Proofs.YtcdjkbgedmehjaaGreatDoor
set_option linter.unusedVariables false
open Go.RowKit Go.Deep Go.ChangeShapes Go.WideShapes Go.ChangeAt

theorem gPow : Tryz.prog.globalNamed "internal/strconv.uint64pow10" = some 1 := by kernel_rfl
theorem pow_data {H : Type} : (Rows.laid_internal_strconv_uint64pow10 : DataW H) = Lib.tabData .u64 Lib.pow10Tab := by
  unfold Rows.laid_internal_strconv_uint64pow10 Lib.tabData
  rw [show Lib.pow10Tab = [1, 10, 100, 1000, 10000, 100000, 1000000, 10000000, 100000000, 1000000000, 10000000000, 100000000000, 1000000000000, 10000000000000, 100000000000000, 1000000000000000, 10000000000000000, 100000000000000000, 1000000000000000000, 10000000000000000000] from by decide +kernel]
  rfl
/-- what the laid condition gives the walks: the powers of ten -/
theorem tab_of_laid {W : World} (h : laidMetH Tryz.prog [("math/bits.deBruijn32tab", Rows.laid_math_bits_deBruijn32tab), ("math/bits.deBruijn64tab", Rows.laid_math_bits_deBruijn64tab), ("internal/strconv.uint64pow10", Rows.laid_internal_strconv_uint64pow10), ("unicode/utf8.acceptRanges", Rows.laid_unicode_utf8_acceptRanges), ("unicode/utf8.first", Rows.laid_unicode_utf8_first)] W) : Lib.TabIs Tryz.prog W "internal/strconv.uint64pow10" .u64 Lib.pow10Tab := by
  rw [MakeChecks.laidMetH_plain _ _ _ (by kernel_rfl)] at h
  obtain ⟨ps, ⟨g0, t0, cs0, f0, p0, q0, hg0, ht0, hv0, hd0, ⟨g1, t1, cs1, f1, p1, q1, hg1, ht1, hv1, hd1, ⟨g2, t2, cs2, f2, p2, q2, hg2, ht2, hv2, hd2, _⟩, _⟩, _⟩, _, _⟩ := h
  obtain rfl := Option.some.inj (gPow.symm.trans hg2)
  unfold Lib.TabIs
  rw [hv2]
  obtain ⟨e, n, hty, hte, he, hce, hct⟩ : ∃ e n, (Tryz.prog.globals[1]?).map (·.type) = some t2 ∧ Tryz.prog.underlying t2 = some (.array n e) ∧ Tryz.prog.underlying e = some (.int .u64) ∧ Tryz.prog.cellsOf e = 1 ∧ Tryz.prog.cellsOf t2 = n := by
    have hq : (Tryz.prog.globals[1]?).map (·.type) = some 121 := by kernel_rfl
    obtain rfl := Option.some.inj (hq.symm.trans ht2)
    exact ⟨49, 20, hq, Tryz.underlying121, Tryz.underlying49, by kernel_rfl, by kernel_rfl⟩
  rw [← Lib.cells_of_tab hte he hce hct (by rw [← pow_data]; exact hd2)]
/-- a world in which all listed variables lie as listed -/
theorem door_met (os : Os) (args : Array Value) : laidMetH Tryz.prog [("math/bits.deBruijn32tab", Rows.laid_math_bits_deBruijn32tab), ("math/bits.deBruijn64tab", Rows.laid_math_bits_deBruijn64tab), ("internal/strconv.uint64pow10", Rows.laid_internal_strconv_uint64pow10), ("unicode/utf8.acceptRanges", Rows.laid_unicode_utf8_acceptRanges), ("unicode/utf8.first", Rows.laid_unicode_utf8_first)] ((World.laidAll Tryz.prog os [("math/bits.deBruijn32tab", Rows.laid_math_bits_deBruijn32tab), ("math/bits.deBruijn64tab", Rows.laid_math_bits_deBruijn64tab), ("internal/strconv.uint64pow10", Rows.laid_internal_strconv_uint64pow10), ("unicode/utf8.acceptRanges", Rows.laid_unicode_utf8_acceptRanges), ("unicode/utf8.first", Rows.laid_unicode_utf8_first)]).forCall (fun _ _ => 0) ⟨#[], args, []⟩).memory := by
  rw [MakeChecks.laidMetH_plain _ _ _ (by kernel_rfl)]
  exact laidMet_laidAll _ (by kernel_rfl) (by kernel_rfl)
theorem door_shape (os : Os) (args : Array Value) : ((World.laidAll Tryz.prog os [("math/bits.deBruijn32tab", Rows.laid_math_bits_deBruijn32tab), ("math/bits.deBruijn64tab", Rows.laid_math_bits_deBruijn64tab), ("internal/strconv.uint64pow10", Rows.laid_internal_strconv_uint64pow10), ("unicode/utf8.acceptRanges", Rows.laid_unicode_utf8_acceptRanges), ("unicode/utf8.first", Rows.laid_unicode_utf8_first)]).forCall (fun _ _ => 0) ⟨#[], args, []⟩).Shaped Tryz.prog := World.shaped_of_ZipB (by kernel_rfl) (by kernel_rfl)
/-- no library variable is wanted here -/
theorem max_of_shape {w : World} (_ : w.ShapedOpen Tryz.prog) : True := trivial
/-- the wrap of a row that lists variables, where the walk wants the world's shape besides -/
theorem handed_laid_shaped {H : Type} {enc : TypeId × Value → H} {C : Checked} {os : Os} {f : FuncId} {fn : Func} {s : ChangeSpec} {X : World → Array Value → Prop}
    (hX : ∀ (w w' : World) (args : Array Value), w.heap = w'.heap → X w args → X w' args)
    (own : ownKnob C.prog.godebug = none) (started : os.Started) (noInit : C.prog.inits.idxOf? f = none) (hfn : C.prog.funcs[f]? = some fn)
    (witness : ∃ (w : World) (tape : Tape) (i : Input), w.os = os ∧ (w.forCall tape i).Shaped C.prog ∧ i.vars = [] ∧ Input.okWide C.prog (w.forCall tape i) .any w.heap.size f i ∧
      ((s.pre enc C.prog fn [] false (w.forCall tape i).memory i.args ∧ X (w.forCall tape i).memory i.args) ∧ sizedMet enc C.prog fn (OpenSpec.ofChange s) false (w.forCall tape i).memory i.args) ∧ ({} : Assume).holds C.prog (lone (Frame.enter C.prog f i.args .normal) [] (w.forCall tape i)))
    (contract : ∀ (W : World) (base : Nat) (args : Array Value) (ds gs : List (DataW H)) (before : List MemPlace),
      (∀ (j : Nat) t v, fn.params[j]? = some t → args[j]? = some v → Value.okWide C.prog W .any base t v) →
      DataW.Whole enc C.prog fn.params.toList s.vars false W args.toList ds gs before →
      (DataW.weightsEach C.prog (fn.params.toList ++ s.plain.varTypes C.prog) (ds ++ gs)).all (· ≤ reachBytes) = true → X W args → W.ShapedOpen C.prog →
      Calls C.prog f args W fun e W' => ∃ v, e = .returned v ∧ s.post enc C.prog fn false true false false W args v W') :
    ReturnsInHanded {} C os f .any (fun w args => (s.pre enc C.prog fn [] false w args ∧ X w args) ∧ sizedMet enc C.prog fn (OpenSpec.ofChange s) false w args) (s.post enc C.prog fn false true false false) := by
  refine returnsInHanded_of_calls own started noInit witness fun w tape i _ hsh _ hok hpre _ => ?_
  obtain ⟨_, _, _, fn', hfn', _, _, _, _, hval⟩ := hok
  obtain rfl : fn' = fn := Option.some.inj (hfn'.symm.trans hfn)
  obtain ⟨⟨⟨ds, gs, before, hw, _⟩, hx⟩, hz⟩ := hpre
  refine (contract (w.forCall tape i) w.heap.size i.args ds gs before hval (DataW.Whole.of_heap (w' := w.forCall tape i) (by rfl) hw) (hz.weights hw) (hX _ _ _ (by rfl) hx) hsh).mono fun e W' hh => ?_
  obtain ⟨v, rfl, hp⟩ := hh
  exact ChangeSpec.post_blind hp
end Go.Proofs.YtcdjkbgedmehjaaGreatDoor
namespace Go.Proofs.YtcdjkbgedmehjaaGreatDoor
set_option linter.unusedVariables false
open Go.ChangeShapes Go.WideShapes Go.ChangeAt Go.RowKit Go.Deep

/-! # a document's trace that is an argument -/
theorem flat_len {α : Type} (f : α → List Value) (size : Nat) (hf : ∀ y, (f y).length = size) : ∀ l : List α, (l.flatMap f).length = l.length * size
  | [] => by simp
  | a :: l => by rw [List.flatMap_cons, List.length_append, hf, flat_len f size hf l, List.length_cons, Nat.succ_mul, Nat.add_comm]
theorem flat_at {α : Type} (f : α → List Value) (size : Nat) (hs : 0 < size) (hf : ∀ y, (f y).length = size) : ∀ (l : List α) (j : Nat), (l.flatMap f)[j]? = l[j / size]?.bind fun y => (f y)[j % size]?
  | [], j => by simp
  | a :: l, j => by
    rw [List.flatMap_cons]
    by_cases h : j < size
    · rw [List.getElem?_append_left (by rw [hf]; exact h), Nat.div_eq_of_lt h, Nat.mod_eq_of_lt h]; rfl
    · have e1 : j / size = (j - size) / size + 1 := Nat.div_eq_sub_div hs (by omega)
      have e2 : j % size = (j - size) % size := Nat.mod_eq_sub_mod (by omega)
      rw [List.getElem?_append_right (by rw [hf]; omega), hf, flat_at f size hs hf l, e1, e2, List.getElem?_cons_succ]
theorem open_at {α : Type} {H : Type} {enc : TypeId × Value → H} {P : Program} {w : World} {t e size fuel : Nat} {cs0 : List Value} {x : DataW H × List MemPlace} (R : α → Prop)
    (ht : P.underlying t = some (.slice e)) (hc : P.cellsOf e = size) (hs : 0 < size) (f : α → List Value) (hf : ∀ y, (f y).length = size)
    (hfu : DataW.trod enc P w 0 (fun _ => true) true fuel t cs0 = some x)
    (hg : ∀ fuel cs x, DataW.trod enc P w 0 (fun _ => true) true fuel e cs = some x → cs.length = size → ∃ y : α, cs = f y ∧ R y) :
    ∃ (p : Option Addr) (c : Nat) (l : List α), cs0 = [.slice p l.length c] ∧ RO w (.slice p l.length c) size l.length (l.flatMap f) ∧ l.length ≤ c ∧ c ≤ maxLen ∧ ∀ y ∈ l, R y := by
  rcases open_slice ht hfu with ⟨hcs, _⟩ | ⟨a, len, cap, m, n, D, Pl, hcs, _, hl, hm, hmm, _, hel⟩
  · exact ⟨none, 0, [], hcs, ⟨by simp, none, 0, rfl, by simp⟩, Nat.le_refl _, Nat.zero_le _, fun y hy => by simp at hy⟩
  · have hlm : len ≤ m := by simpa using (by simpa using hmm : m = cap) ▸ hl
    rw [hc] at hel
    have hch : ∀ i, i < len → ∃ y : α, (∀ r, r < size → w.cell? ((a.add (i * size)).add r) = (f y)[r]?) ∧ R y := by
      intro i hi
      obtain ⟨cs', h1, h2⟩ := hel i (by omega)
      obtain ⟨_, h3, h4⟩ := World.cells?_some h1
      obtain ⟨y, rfl, hR⟩ := hg _ _ _ h2 h3
      exact ⟨y, h4, hR⟩
    have hch2 : ∀ i : Fin len, ∃ y : α, (∀ r, r < size → w.cell? ((a.add (i.1 * size)).add r) = (f y)[r]?) ∧ R y := fun i => hch i.1 i.2
    obtain ⟨g, hgg⟩ := Classical.axiomOfChoice hch2
    have hlen : (List.ofFn g).length = len := by simp
    refine ⟨some a, cap, List.ofFn g, by rw [hlen]; exact hcs, ?_, by rw [hlen]; exact hl, hm, fun y hy => ?_⟩
    · rw [hlen]
      refine ⟨by rw [flat_len f size hf, hlen], some a, cap, rfl, fun j u hu => ?_⟩
      rw [flat_at f size hs hf] at hu
      simp only [Option.bind_eq_some_iff] at hu
      obtain ⟨y, hy, hu⟩ := hu
      have hjl : j / size < len := by
        rcases Nat.lt_or_ge (j / size) len with h | h
        · exact h
        · rw [List.getElem?_eq_none (by simpa using h)] at hy; cases hy
      rw [List.getElem?_eq_getElem (by simpa using hjl)] at hy
      simp only [Option.some.injEq, List.getElem_ofFn] at hy
      subst hy
      have hc0 := (hgg ⟨0, Nat.lt_of_le_of_lt (Nat.zero_le _) hjl⟩).1 0 hs
      have hsp : a.spot = none := by
        have h0 : (a.add (0 * size)).add 0 = a := by simp [Addr.add]
        simp only at hc0
        rw [h0, List.getElem?_eq_getElem (by rw [hf]; exact hs)] at hc0
        exact World.cell?_spot hc0
      obtain ⟨b, o, s⟩ := a
      simp only at hsp
      subst hsp
      refine ⟨b, o, rfl, ?_⟩
      have := (hgg ⟨j / size, hjl⟩).1 (j % size) (Nat.mod_lt _ hs)
      rw [hu, Addr.add_add] at this
      simp only at this
      rw [show j / size * size + j % size = j by rw [Nat.mul_comm]; exact Nat.div_add_mod j size] at this
      rw [← this]
      congr 1
      unfold Addr.add
      split <;> simp_all
    · obtain ⟨i, rfl⟩ := List.mem_ofFn.1 hy
      exact (hgg i).2
theorem flat_map1 {α : Type} (f : α → Value) : ∀ l : List α, l.flatMap (fun y => [f y]) = l.map f
  | [] => rfl
  | a :: l => by rw [List.flatMap_cons, flat_map1 f l]; rfl
theorem open_bits {H : Type} {enc : TypeId × Value → H} {w : World} {fuel : Nat} {cs : List Value} {x : DataW H × List MemPlace} (h : DataW.trod enc Tryz.prog w 0 (fun _ => true) true fuel 55 cs = some x) : ∃ (y : Value × List Bool), cs = [y.1] ∧ RB w y.1 y.2 := by
  obtain ⟨p, c, l, h1, h2, h3, _⟩ := open_at (fun _ : Bool => True) Tryz.underlying55 (size := 1) (by kernel_rfl) Nat.one_pos (fun b => [.bool b]) (fun _ => rfl) h (fun fuel cs x hx _ => by
    obtain ⟨b, hb, _⟩ := DataW.trod_bool Tryz.underlying4 hx
    exact ⟨b, hb, trivial⟩)
  rw [flat_map1] at h2
  exact ⟨(_, l), h1, ⟨h2, _, _, rfl, h3⟩⟩
theorem open_row {H : Type} {enc : TypeId × Value → H} {w : World} {fuel : Nat} {cs : List Value} {x : DataW H × List MemPlace} (h : DataW.trod enc Tryz.prog w 0 (fun _ => true) true fuel 54 cs = some x) : ∃ (y : RowV × List (List Bool)), cs = [y.1.1] ∧ RO w y.1.1 1 y.1.2.1 y.1.2.2 ∧ RowR w y.1 y.2 := by
  obtain ⟨p, c, l, h1, h2, h3, _, h4⟩ := open_at (fun y : Value × List Bool => RB w y.1 y.2) Tryz.underlying54 (size := 1) (by kernel_rfl) Nat.one_pos (fun y => [y.1]) (fun _ => rfl) h (fun fuel cs x hx _ => open_bits hx)
  rw [flat_map1] at h2
  refine ⟨((.slice p l.length c, l.length, l.map (·.1)), l.map (·.2)), h1, h2, ⟨by simp, by simp, fun j b bits hb hbits => ?_⟩⟩
  have hb' : (l.map (·.1))[j]? = some b := hb
  have hbits' : (l.map (·.2))[j]? = some bits := hbits
  rw [List.getElem?_map] at hb' hbits'
  obtain ⟨y, hy, rfl⟩ := Option.map_eq_some_iff.1 hb'
  rw [hy] at hbits'
  cases hbits'
  exact h4 y (List.mem_of_getElem? hy)
set_option maxRecDepth 100000 in
theorem open_vars {H : Type} {enc : TypeId × Value → H} {w : World} {fuel : Nat} {cs : List Value} {x : DataW H × List MemPlace} (h : DataW.trod enc Tryz.prog w 0 (fun _ => true) true fuel 22 cs = some x) : ∃ (v : Value) (l : List (Bs × Int)), cs = [v] ∧ RO w v 2 l.length (icells l) ∧ ∀ y ∈ l, (bstr y.1).size ≤ maxLen := by
  obtain ⟨p, c, l, h1, h2, h3, _, h4⟩ := open_at (fun y : Bs × Int => (bstr y.1).size ≤ maxLen) Tryz.underlying22 (size := 2) (by kernel_rfl) Nat.two_pos (fun y => [.string (bstr y.1), .int .i64 y.2]) (fun _ => rfl) h (fun fuel cs x hx hl => by
    obtain ⟨y0, y1, n, hxe, _, k0, k1⟩ := trod_struct2 Tryz.underlying53 hx
    match cs, hl with
    | [c0, c1], _ =>
      have hc : Tryz.prog.cellsOf 9 = 1 := by kernel_rfl
      obtain ⟨a, e0, x0, m0⟩ := DataW.trod_string Tryz.underlying9 k0
      obtain ⟨b, e1, x1, m1⟩ := DataW.trod_int Tryz.underlying3 k1
      have hc2 : Tryz.prog.cellsOf 3 = 1 := by kernel_rfl
      simp [hc, hc2] at e0 e1
      have hab : bstr a.data.toList = a := bytes_ext (by simp [bstr])
      refine ⟨(a.data.toList, b), by rw [e0, e1, hab], ?_⟩
      show (bstr a.data.toList).size ≤ maxLen
      rw [hab]; exact m0)
  exact ⟨_, l, h1, by rw [show icells l = l.flatMap (fun y => [.string (bstr y.1), .int .i64 y.2]) by unfold icells; rw [List.flatMap_def]]; exact h2, h4⟩
set_option maxRecDepth 100000 in
theorem open_ref {H : Type} {enc : TypeId × Value → H} {w : World} {r : Reach} {b0 : Nat} {v : Value} {d : DataW H} {p : List MemPlace}
    (hv : Value.okWide Tryz.prog w r b0 25 v) (h : DataW.Trod enc Tryz.prog w 0 (fun _ => true) true 25 v d p) : ∃ T : Trf, RefR w v T ∧ SzT T := by
  obtain ⟨v0, v1, v2, y0, y1, y2, n, rfl, _, _, h0, h1, h2⟩ := Joins.open_agg3 Tryz.underlying25 (by kernel_rfl) (by kernel_rfl) hv h
  obtain ⟨a, e0, x0, m0⟩ := DataW.trod_string Tryz.underlying9 h0
  obtain ⟨vv, l, e1, k1, k2⟩ := open_vars h1
  obtain ⟨pr, cr, L, e2, q1, q2, _, q3⟩ := open_at (fun y : RowV × List (List Bool) => RO w y.1.1 1 y.1.2.1 y.1.2.2 ∧ RowR w y.1 y.2) Tryz.underlying23 (size := 1) (by kernel_rfl) Nat.one_pos (fun y => [y.1.1]) (fun _ => rfl) h2 (fun fuel cs x hx _ => open_row hx)
  rw [flat_map1] at q1
  simp only [List.cons.injEq, and_true] at e0 e1 e2
  subst e0 e1 e2
  have hab : bstr a.data.toList = a := bytes_ext (by simp [bstr])
  refine ⟨⟨a.data.toList, l, L.map (·.2)⟩, ⟨⟨v1, _, L.map (·.1), by rw [hab], k1, ?_, by simp, fun i r row hr hrow => ?_⟩⟩, ?_, fun x hx => ?_⟩
  · rw [List.length_map, List.map_map]; exact q1
  · have hrow' : (L.map (·.2))[i]? = some row := hrow
    rw [List.getElem?_map] at hr hrow'
    obtain ⟨y, hy, rfl⟩ := Option.map_eq_some_iff.1 hr
    rw [hy] at hrow'
    cases hrow'
    exact q3 y (List.mem_of_getElem? hy)
  · show ((bstr a.data.toList).size : Int) ≤ _
    rw [hab]
    unfold maxLen at m0
    omega
  · have := k2 x hx
    unfold maxLen at this
    omega
end Go.Proofs.YtcdjkbgedmehjaaGreatDoor
