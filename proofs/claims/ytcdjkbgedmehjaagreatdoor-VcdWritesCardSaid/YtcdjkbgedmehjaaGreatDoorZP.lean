/- Texts of this claim, one behind another: W10. They state lemmas; each names its own conditions. -/
import Derived.Test.YtcdjkbgedmehjaaGreatDoorZO
import Derived.Test.YtcdjkbgedmehjaaGreatDoorZL
namespace Go.Proofs.YtcdjkbgedmehjaaGreatDoor
set_option linter.unusedVariables false
open Go.RowKit Go.Sort

/-! # the document's Check, walked -/
structure SzT (T : Trf) : Prop where
  top : ((bstr T.top).size : Int) ≤ 9223372036854775807
  names : ∀ x ∈ T.vars, ((bstr x.1).size : Int) ≤ 9223372036854775807
def lensT (T : Trf) : List (List Nat) := T.rows.map fun r => r.map List.length
def wordsI (vs : List (Bs × Int)) (k : Nat) : Bool := (vs.take k).all fun x => wordB (bstr x.1)
theorem wordsI_succ {vs : List (Bs × Int)} {k : Nat} {x : Bs × Int} (h : vs[k]? = some x) : wordsI vs (k + 1) = (wordsI vs k && wordB (bstr x.1)) := by
  unfold wordsI
  rw [take_snoc' vs k x h, List.all_append]
  simp
theorem wordsI_any (vs : List (Bs × Int)) : (vs.any fun x => !wordB (bstr x.1)) = !wordsI vs vs.length := by
  unfold wordsI
  rw [List.take_length, List.not_all_eq_any_not]
theorem widesI_no {vs : List (Bs × Int)} {k : Nat} {x : Bs × Int} (h : vs[k]? = some x) (hx : wideI x.2 = false) : (vs.any fun y => !wideI y.2) = true :=
  List.any_eq_true.2 ⟨x, List.mem_of_getElem? h, by show (!wideI x.2) = true; rw [hx]; rfl⟩
theorem rowI_no {vs : List (Bs × Int)} {r : List Nat} {k : Nat} {x : Bs × Int} {n : Nat} (hv : vs[k]? = some x) (hr : r[k]? = some n) (hx : (n : Int) ≠ x.2) : rowI vs r = false := by
  unfold rowI
  refine decide_eq_false fun e => hx ?_
  have := congrArg (fun l => l[k]?) e
  simp only [List.getElem?_map, hv, hr, Option.map_some, Option.some.injEq] at this
  exact this
theorem rowI_len {vs : List (Bs × Int)} {r : List Nat} (h : r.length ≠ vs.length) : rowI vs r = false := by
  unfold rowI
  refine decide_eq_false fun e => h ?_
  have := congrArg List.length e
  simpa using this
theorem rowI_yes {vs : List (Bs × Int)} {r : List Nat} (h : r.length = vs.length) (ha : ∀ (k : Nat) (x : Bs × Int) (n : Nat), vs[k]? = some x → r[k]? = some n → (n : Int) = x.2) : rowI vs r = true := by
  unfold rowI
  refine decide_eq_true (List.ext_getElem? fun k => ?_)
  rw [List.getElem?_map, List.getElem?_map]
  by_cases hk : k < vs.length
  · rw [List.getElem?_eq_getElem hk, List.getElem?_eq_getElem (show k < r.length by omega)]
    exact congrArg some (ha k _ _ (List.getElem?_eq_getElem hk) (List.getElem?_eq_getElem (by omega)))
  · rw [List.getElem?_eq_none (by omega), List.getElem?_eq_none (by omega)]; rfl
set_option maxRecDepth 100000 in
set_option maxHeartbeats 16000000 in
theorem rcheck_any {w : World} {tv : Value} {T : Trf} (h : RefR w tv T) (hf : FewT T) (hz : SzT T) : Calls Tryz.prog 7 #[tv] w fun e w' => e = .returned (.int .i64 (checkI T.top T.vars (lensT T) : Nat)) ∧ Below w.heap.size w w' := by
  obtain ⟨vv, rv, rs, rfl, hvv, hrv, hrl, hrow⟩ := h.ex
  obtain ⟨pv, cv, rfl⟩ := hvv.form
  obtain ⟨pr, cr, rfl⟩ := hrv.form
  have hb := Below.new w (.cells #[.string (bstr T.top), .slice pv T.vars.length cv, .slice pr rs.length cr] 25)
  have hk := Blk.new (w := w) 25 [.string (bstr T.top), .slice pv T.vars.length cv, .slice pr rs.length cr]
  have HH := Lib.hid (And.intro hvv (And.intro hrv (And.intro hrl hrow)))
  have H0 := Lib.hid (And.intro hb hk)
  have HW := Lib.hid (fun w => rword_any (bstr T.top) hz.top w)
  have HN : Hid (∀ (x : Bs × Int), x ∈ T.vars → ∀ w, Calls Tryz.prog 16 #[.string (bstr x.1)] w fun e w' => e = .returned (.bool (wordB (bstr x.1))) ∧ w = w') := Lib.hid fun x hx w => rword_any (bstr x.1) (hz.names x hx) w
  have hn : (T.vars.length : Int) ≤ 12 := by have := hf.vars; omega
  have hm : (rs.length : Int) ≤ 12 := by have := hf.rows; omega
  have HF := Lib.hid hf
  generalize hnv : T.vars.length = n at *
  generalize hnr : rs.length = m at *
  obtain ⟨CN, hCN⟩ : ∃ c, checkI T.top T.vars (lensT T) = c := ⟨_, rfl⟩
  rw [hCN]
  have HCN := Lib.hid hCN
  have hret : ∀ k : Nat, checkI T.top T.vars (lensT T) = k → Ending.returned (Value.int .i64 (k : Int)) = .returned (.int .i64 (CN : Int)) := fun k hk => by rw [← HCN.out, hk]
  have HRet := Lib.hid hret
  clear h hvv hrv hrl hrow hb hk hz hf hCN hret
  go_enter Tryz.func7, Tryz.ntmps7
  go_upto_region 1 with fail
  generalize hTop : bstr T.top = X at *
  generalize w.alloc (.cells #[.string X, .slice pv n cv, .slice pr m cr] 25) = W at *
  have HTop := Lib.hid hTop
  clear hTop
  have HBl : Hid (∀ w', Below W.heap.size W w' → w'.cell? ⟨w.heap.size, 0, none⟩ = some (.string X) ∧ w'.cell? ⟨w.heap.size, 1, none⟩ = some (.slice pv n cv) ∧ w'.cell? ⟨w.heap.size, 2, none⟩ = some (.slice pr m cr)) := Lib.hid fun w' hb' => by
    have hk' := H0.out.2.next hb'
    exact ⟨hk'.cell (i := 0) rfl, hk'.cell (i := 1) rfl, hk'.cell (i := 2) rfl⟩
  obtain ⟨c0, c1, c2⟩ := HBl.out W (Below.refl _ _)
  have hvars : ∀ w', Below W.heap.size W w' → RO w' (.slice pv n cv) 2 T.vars.length (icells T.vars) := fun w' hb' => by
    have := (HH.out.1.below H0.out.1).below hb'
    rw [hnv]; exact this
  have HV := Lib.hid (And.intro hvars hnv)
  have hrows : ∀ w', Below W.heap.size W w' → RO w' (.slice pr m cr) 1 m (rs.map (·.1)) := fun w' hb' => by
    have := (HH.out.2.1.below H0.out.1).below hb'
    exact this
  have HRw := Lib.hid (And.intro hrows hnr)
  clear hvars hnv hrows hnr
  generalize hq0 : wordB X = q0 at *
  have HQ0 := Lib.hid hq0
  clear hq0
  go_wp2_with fail
  refine (HW.out _).mono ?_; rintro e w1 ⟨rfl, rfl⟩
  go_wp2_with fail
  clear c0 c1 c2 HW
  go_loopw [3, 4] (fun ok i wr => ∃ k : Nat, k ≤ n ∧ i = .int .i64 k ∧ ok = .bool (q0 && wordsI T.vars k) ∧ Below W.heap.size W wr) (fun _ i _ => n - (intOf i).toNat)
  case atStart => exact ⟨0, Nat.zero_le _, rfl, by simp [wordsI], Below.refl _ _⟩
  case round =>
    obtain ⟨k, hk, rfl, rfl, hbr⟩ := hrel
    obtain ⟨c0, c1, c2⟩ := HBl.out wr hbr
    have HL := Lib.hid hbr
    clear hbr
    obtain ⟨q1, hq1⟩ : ∃ q, (q0 && wordsI T.vars k) = q := ⟨_, rfl⟩
    rw [hq1]
    have HQ1 := Lib.hid hq1
    clear hq1
    by_cases hlt : k < n
    · obtain ⟨x, hx⟩ : ∃ x, T.vars[k]? = some x := ⟨_, List.getElem?_eq_getElem (by rw [HV.out.2]; exact hlt)⟩
      have hro := HV.out.1 wr HL.out
      obtain ⟨vb, vo, rfl⟩ := hro.sl (icells_at _ _ _ hx).1
      have k0 := hro.cell (icells_at _ _ _ hx).1
      have hsn : (q0 && wordsI T.vars (k + 1)) = (q1 && wordB (bstr x.1)) := by rw [wordsI_succ hx, ← Bool.and_assoc, HQ1.out]
      have HS := Lib.hid (And.intro hsn hlt)
      have HNx := Lib.hid (HN.out x (List.mem_of_getElem? hx))
      obtain ⟨q2, hq2⟩ : ∃ q, wordB (bstr x.1) = q := ⟨_, rfl⟩
      rw [hq2] at HNx HS
      generalize bstr x.1 = Y at *
      have hii : (k : Int) < n := by omega
      have hi0 : (0 : Int) ≤ k := by omega
      have hiw : IntKind.i64.wrap ((k : Int) + 1) = (k : Int) + 1 := i64_of (by omega)
      clear hro hsn hlt hk hx hq2
      cases q1
      · go_wp2_with fail
        go_roundw
        case rel => exact ⟨k + 1, HS.out.2, by go_num, by rw [HS.out.1]; rfl, HL.out⟩
        case measure => have := HS.out.2; simp [intOf]; omega
      · go_wp2_with fail
        refine (HNx.out _).mono ?_; rintro e w2 ⟨rfl, rfl⟩
        go_wp2_with fail
        go_roundw
        case rel => exact ⟨k + 1, HS.out.2, by go_num, by rw [HS.out.1]; rfl, HL.out⟩
        case measure => have := HS.out.2; simp [intOf]; omega
    · obtain rfl : k = n := by omega
      have hlt' : ¬ (k : Int) < k := by omega
      clear hlt hk
      have hany := wordsI_any T.vars
      rw [HV.out.2] at hany
      obtain ⟨c0, c1, c2⟩ := HBl.out wr HL.out
      cases q1
      · have h9 : checkI T.top T.vars (lensT T) = 9 := by
          unfold checkI
          rw [HTop.out, HQ0.out, hany]
          have := HQ1.out
          cases q0 <;> simp_all
        have H9 := Lib.hid h9
        clear h9 hany
        go_wp2_with fail
        go_ret
        exact ⟨HRet.out 9 H9.out, H0.out.1.trans (HL.out.mono H0.out.1.size)⟩
      have hch : checkI T.top T.vars (lensT T) = if dupI T.vars then 10 else if T.vars.any (fun x => !wideI x.2) then 2 else if (decide (300 < T.vars.length) || decide (200 < (lensT T).length)) then 19 else if (lensT T).all (rowI T.vars) then 0 else 3 := by
        unfold checkI
        rw [HTop.out, HQ0.out, hany]
        have := HQ1.out
        have e1 : q0 = true := by cases q0 <;> simp_all
        have e2 : wordsI T.vars k = true := by cases q0 <;> simp_all
        rw [e1, e2]; rfl
      have HCh := Lib.hid hch
      clear hch hany
      go_wp2_with fail
      clear c0 c1 c2
      generalize k = n at *
      go_loopw [5] (fun iv wr => ∃ i : Nat, i ≤ n ∧ iv = .int .i64 i ∧ (∀ j, j < i → ((T.vars.take j).any fun x => decide (x.1 = (T.vars.getD j default).1)) = false) ∧ Below W.heap.size W wr) (fun iv _ => n - (intOf iv).toNat)
      case atStart => exact ⟨0, Nat.zero_le _, rfl, fun j hj => absurd hj (Nat.not_lt_zero _), HL.out⟩
      case round =>
        obtain ⟨i, hi, rfl, hno, hbr⟩ := hrel
        have HL := Lib.hid (And.intro hno hbr)
        clear hno hbr
        obtain ⟨c0, c1, c2⟩ := HBl.out wr HL.out.2
        by_cases hlt : i < n
        · obtain ⟨x, hx⟩ : ∃ x, T.vars[i]? = some x := ⟨_, List.getElem?_eq_getElem (by rw [HV.out.2]; exact hlt)⟩
          have HX := Lib.hid (And.intro hlt hx)
          have hii : (i : Int) < n := by omega
          have hi0 : (0 : Int) ≤ i := by omega
          have hiw : IntKind.i64.wrap ((i : Int) + 1) = (i : Int) + 1 := i64_of (by omega)
          clear hlt hx
          go_wp2_with fail
          clear c0 c1 c2
          have hxd : (T.vars.getD i default).1 = x.1 := by rw [List.getD_eq_getElem?_getD, HX.out.2]; rfl
          have HXd := Lib.hid hxd
          clear hxd
          go_loopw [6] (fun jv wr => ∃ j : Nat, j ≤ i ∧ jv = .int .i64 j ∧ ((T.vars.take j).any fun y => decide (y.1 = x.1)) = false ∧ Below W.heap.size W wr) (fun jv _ => i - (intOf jv).toNat)
          case atStart => exact ⟨0, Nat.zero_le _, rfl, by simp, HL.out.2⟩
          case round =>
            obtain ⟨j, hj, rfl, hnj, hbr⟩ := hrel
            have HJ := Lib.hid (And.intro hnj hbr)
            clear hnj hbr
            obtain ⟨c0, c1, c2⟩ := HBl.out wr HJ.out.2
            by_cases hjt : j < i
            · obtain ⟨y, hy⟩ : ∃ y, T.vars[j]? = some y := ⟨_, List.getElem?_eq_getElem (by rw [HV.out.2]; have := HX.out.1; omega)⟩
              have hro := HV.out.1 wr HJ.out.2
              obtain ⟨vb, vo, rfl⟩ := hro.sl (icells_at _ _ _ hy).1
              have k0 := hro.cell (icells_at _ _ _ hy).1
              have k1 := hro.cell (icells_at _ _ _ HX.out.2).1
              have hsn : ((T.vars.take (j + 1)).any fun z => decide (z.1 = x.1)) = decide (y.1 = x.1) := by
                rw [take_snoc' T.vars j y hy, List.any_append, HJ.out.1]; simp
              have hup : y.1 = x.1 → ((T.vars.take i).any fun z => decide (z.1 = (T.vars.getD i default).1)) = true := fun e => by
                rw [List.any_eq_true]
                refine ⟨y, List.mem_of_getElem? (i := j) (by rw [List.getElem?_take, if_pos hjt]; exact hy), ?_⟩
                rw [HXd.out]; simpa using e
              have HE := Lib.hid (str_eq y.1 x.1)
              have HY := Lib.hid (And.intro hjt (And.intro hsn hup))
              have hjj : (j : Int) < i := by omega
              have hj0 : (0 : Int) ≤ j := by omega
              have hjn : (j : Int) < n := by omega
              have hjw : IntKind.i64.wrap ((j : Int) + 1) = (j : Int) + 1 := i64_of (by omega)
              clear hro hy hsn hup hjt
              obtain ⟨Y1, hY1⟩ : ∃ Y, bstr y.1 = Y := ⟨_, rfl⟩
              obtain ⟨X1, hX1⟩ : ∃ Y, bstr x.1 = Y := ⟨_, rfl⟩
              rw [hY1] at k0 HE
              rw [hX1] at k1 HE
              clear hY1 hX1
              obtain ⟨q, hq⟩ : ∃ q, decide (y.1 = x.1) = q := ⟨_, rfl⟩
              rw [hq] at HE
              have hqe : (Y1.toList == X1.toList) = q := HE.out
              have HQ := Lib.hid hq
              clear hq HE
              cases q
              · go_upto_region 14 with fail
                go_quiet (fail)
                go_wp2_with fail
                go_roundw
                case rel =>
                  refine ⟨j + 1, HY.out.1, by go_num, by rw [HY.out.2.1]; exact HQ.out, HJ.out.2.trans ((below_drewN _).mono HJ.out.2.size)⟩
                case measure => have := HY.out.1; simp [intOf]; omega
              · go_upto_region 14 with fail
                go_quiet (fail)
                have h10 : checkI T.top T.vars (lensT T) = 10 := by
                  rw [HCh.out, show dupI T.vars = true from List.any_eq_true.2 ⟨i, List.mem_range.2 (by rw [HV.out.2]; exact HX.out.1), HY.out.2.2 (of_decide_eq_true HQ.out)⟩]; rfl
                have H10 := Lib.hid h10
                clear h10
                go_wp2_with fail
                go_ret
                exact ⟨HRet.out 10 H10.out, H0.out.1.trans ((HJ.out.2.trans ((below_drewN _).mono HJ.out.2.size)).mono H0.out.1.size)⟩
            · obtain rfl : j = i := by omega
              clear hjt
              go_wp2_with fail
              go_roundw
              case rel =>
                refine ⟨j + 1, HX.out.1, by go_num, fun l hl => ?_, HJ.out.2⟩
                by_cases e : l = j
                · subst e; rw [HXd.out]; exact HJ.out.1
                · exact HL.out.1 l (by omega)
              case measure => have := HX.out.1; simp [intOf]; omega
        · obtain rfl : i = n := by omega
          have hdup : dupI T.vars = false := by
            unfold dupI
            rw [List.any_eq_false]
            intro j hj
            have := List.mem_range.1 hj
            rw [HV.out.2] at this
            rw [HL.out.1 j this]; simp
          have hch2 := HCh.out
          rw [hdup] at hch2
          simp only [Bool.false_eq_true, if_false] at hch2
          have HCh2 := Lib.hid hch2
          clear hdup hch2 hlt hi
          go_wp2_with fail
          clear c0 c1 c2
          go_loopw [7] (fun iv wr => ∃ j : Nat, j ≤ i ∧ iv = .int .i64 j ∧ ((T.vars.take j).any fun x => !wideI x.2) = false ∧ Below W.heap.size W wr) (fun iv _ => i - (intOf iv).toNat)
          case atStart => exact ⟨0, Nat.zero_le _, rfl, by simp, HL.out.2⟩
          case round =>
            obtain ⟨j, hj, rfl, hno, hbr⟩ := hrel
            have HL7 := Lib.hid (And.intro hno hbr)
            clear hno hbr
            obtain ⟨c0, c1, c2⟩ := HBl.out wr HL7.out.2
            by_cases hlt : j < i
            · obtain ⟨x, hx⟩ : ∃ x, T.vars[j]? = some x := ⟨_, List.getElem?_eq_getElem (by rw [HV.out.2]; exact hlt)⟩
              have hro := HV.out.1 wr HL7.out.2
              obtain ⟨vb, vo, rfl⟩ := hro.sl (icells_at _ _ _ hx).1
              have k0 := hro.cell (icells_at _ _ _ hx).2
              rw [← Nat.add_assoc] at k0
              have hsn : ((T.vars.take (j + 1)).any fun z => !wideI z.2) = !wideI x.2 := by
                rw [take_snoc' T.vars j x hx, List.any_append, HL7.out.1]; simp
              have hbad : wideI x.2 = false → checkI T.top T.vars (lensT T) = 2 := fun e => by
                rw [HCh2.out, widesI_no hx e]; rfl
              have HX := Lib.hid (And.intro hlt (And.intro hsn hbad))
              have hjj : (j : Int) < i := by omega
              have hj0 : (0 : Int) ≤ j := by omega
              have hjw : IntKind.i64.wrap ((j : Int) + 1) = (j : Int) + 1 := i64_of (by omega)
              obtain ⟨y, hy⟩ : ∃ y, x.2 = y := ⟨_, rfl⟩
              rw [hy] at k0 HX
              clear hro hlt hj hx hsn hbad hy
              by_cases h1 : y < 1
              · have h1' : decide (y < 1) = true := decide_eq_true h1
                have H2 := Lib.hid (HX.out.2.2 (by unfold wideI; rw [decide_eq_false (show ¬ 1 ≤ y by omega)]; rfl))
                go_wp2_with fail
                go_ret
                exact ⟨HRet.out 2 H2.out, H0.out.1.trans (HL7.out.2.mono H0.out.1.size)⟩
              · by_cases h2 : 128 < y
                · have H2 := Lib.hid (HX.out.2.2 (by unfold wideI; rw [decide_eq_false (show ¬ y ≤ 128 by omega)]; simp))
                  go_wp2_with fail
                  go_ret
                  exact ⟨HRet.out 2 H2.out, H0.out.1.trans (HL7.out.2.mono H0.out.1.size)⟩
                · have H2 := Lib.hid (show wideI y = true by unfold wideI; rw [decide_eq_true (show 1 ≤ y by omega), decide_eq_true (show y ≤ 128 by omega)]; rfl)
                  go_wp2_with fail
                  go_roundw
                  case rel => exact ⟨j + 1, HX.out.1, by go_num, by rw [HX.out.2.1, H2.out]; rfl, HL7.out.2⟩
                  case measure => have := HX.out.1; simp [intOf]; omega
            · obtain rfl : j = i := by omega
              have hw : (T.vars.any fun x => !wideI x.2) = false := by
                have := HL7.out.1
                rw [← HV.out.2, List.take_length] at this
                exact this
              have hch3 := HCh2.out
              rw [hw] at hch3
              have hll : (lensT T).length = m := by unfold lensT; rw [List.length_map, ← HH.out.2.2.1]
              rw [HV.out.2, hll, decide_eq_false (show ¬ 300 < j by omega), decide_eq_false (show ¬ 200 < m by omega)] at hch3
              simp only [Bool.false_eq_true, if_false, Bool.or_self] at hch3
              have HCh3 := Lib.hid hch3
              clear hw hch3 hll hlt hj
              go_wp2_with fail
              clear c0 c1 c2
              go_loopw [8] (fun kv wr => ∃ k : Nat, k ≤ m ∧ kv = .int .i64 k ∧ ((lensT T).take k).all (rowI T.vars) = true ∧ Below W.heap.size W wr) (fun kv _ => m - (intOf kv).toNat)
              case atStart => exact ⟨0, Nat.zero_le _, rfl, rfl, HL7.out.2⟩
              case round =>
                obtain ⟨k, hk, rfl, hall, hbr⟩ := hrel
                have HR := Lib.hid (And.intro hall hbr)
                clear hall hbr
                obtain ⟨c0, c1, c2⟩ := HBl.out wr HR.out.2
                by_cases hlt : k < m
                · obtain ⟨r, hr⟩ : ∃ r, rs[k]? = some r := ⟨_, List.getElem?_eq_getElem (by rw [HRw.out.2]; exact hlt)⟩
                  obtain ⟨row, hrow⟩ : ∃ row, T.rows[k]? = some row := ⟨_, List.getElem?_eq_getElem (by have := HH.out.2.2.1; omega)⟩
                  obtain ⟨hr1, hr2⟩ := HH.out.2.2.2 k r row hr hrow
                  have hrv := HRw.out.1 wr HR.out.2
                  obtain ⟨rb, ro, rfl⟩ := hrv.sl (show (rs.map (·.1))[k]? = some r.1 by rw [List.getElem?_map, hr]; rfl)
                  have q2 := hrv.cell (show (rs.map (·.1))[k]? = some r.1 by rw [List.getElem?_map, hr]; rfl)
                  obtain ⟨r1, rn, rc⟩ := r
                  have hrn : rn = row.length := hr2.n
                  subst hrn
                  obtain ⟨p1, c1', e⟩ := hr1.form
                  (try simp only at e)
                  subst e
                  have hlk : (lensT T)[k]? = some (row.map List.length) := by unfold lensT; rw [List.getElem?_map, hrow]; rfl
                  have hsn : ((lensT T).take (k + 1)).all (rowI T.vars) = rowI T.vars (row.map List.length) := by
                    rw [take_snoc' _ k _ hlk, List.all_append, HR.out.1]; simp
                  have hbad : rowI T.vars (row.map List.length) = false → checkI T.top T.vars (lensT T) = 3 := fun e => by
                    have : (lensT T).all (rowI T.vars) = false := by
                      rw [List.all_eq_false]
                      exact ⟨_, List.mem_of_getElem? hlk, by rw [e]; simp⟩
                    rw [HCh3.out, this]; rfl
                  have HX := Lib.hid (And.intro hlt (And.intro hsn (And.intro hbad (And.intro hr1 hr2))))
                  have hkk : (k : Int) < m := by omega
                  have hk0 : (0 : Int) ≤ k := by omega
                  have hkw : IntKind.i64.wrap ((k : Int) + 1) = (k : Int) + 1 := i64_of (by omega)
                  have HE := Lib.hid (show (row.map List.length).length = row.length from by simp)
                  have HRk := Lib.hid hr
                  (try simp only at q2)
                  obtain ⟨N, hN⟩ : ∃ N, row.length = N := ⟨_, rfl⟩
                  rw [hN] at q2 HE
                  have HNN := Lib.hid hN
                  clear hr hrow hr1 hr2 hrv hlk hsn hbad hlt hk hN
                  by_cases hNi : N = j
                  · subst hNi
                    go_upto_region 26 with fail
                    go_quiet (fail)
                    go_wp2_with fail
                    clear c0 c1 c2 q2
                    go_loopw [9] (fun lv wr => ∃ l : Nat, l ≤ N ∧ lv = .int .i64 l ∧ (∀ (i : Nat) (x : Bs × Int) (b : List Bool), i < l → T.vars[i]? = some x → row[i]? = some b → (b.length : Int) = x.2) ∧ Below W.heap.size W wr) (fun lv _ => N - (intOf lv).toNat)
                    case atStart => exact ⟨0, Nat.zero_le _, rfl, fun i x b h => absurd h (Nat.not_lt_zero _), HR.out.2.trans ((below_drewN _).mono HR.out.2.size)⟩
                    case round =>
                      obtain ⟨l, hl, rfl, hok, hbr⟩ := hrel
                      have HL9 := Lib.hid (And.intro hok hbr)
                      clear hok hbr
                      obtain ⟨c0, c1, c2⟩ := HBl.out wr HL9.out.2
                      by_cases hlN : l < N
                      · obtain ⟨x, hx⟩ : ∃ x, T.vars[l]? = some x := ⟨_, List.getElem?_eq_getElem (by rw [HV.out.2]; exact hlN)⟩
                        obtain ⟨bt, hbt⟩ : ∃ b, row[l]? = some b := ⟨_, List.getElem?_eq_getElem (by rw [HNN.out]; exact hlN)⟩
                        have hlen := HX.out.2.2.2.2.len
                        (try simp only at hlen)
                        obtain ⟨u, hu⟩ : ∃ u, rc[l]? = some u := ⟨_, List.getElem?_eq_getElem (by rw [hlen, HNN.out]; exact hlN)⟩
                        have hrb := HX.out.2.2.2.2.at_ l u bt hu hbt
                        obtain ⟨pb, cb, rfl, hcb⟩ := hrb.cap
                        have hro := HV.out.1 wr HL9.out.2
                        obtain ⟨vb, vo, rfl⟩ := hro.sl (icells_at _ _ _ hx).1
                        have k0 := hro.cell (icells_at _ _ _ hx).2
                        rw [← Nat.add_assoc] at k0
                        have hr1' := (HX.out.2.2.2.1.below H0.out.1).below HL9.out.2
                        (try simp only at hr1')
                        obtain ⟨r1b, r1o, rfl⟩ := hr1'.sl hu
                        have k1 := hr1'.cell hu
                        have k2 := (HRw.out.1 wr HL9.out.2).cell (show (rs.map (·.1))[k]? = some _ by rw [List.getElem?_map, HRk.out]; rfl)
                        have HB := Lib.hid (And.intro hlN (And.intro hx hbt))
                        have hll : (l : Int) < N := by omega
                        have hl0 : (0 : Int) ≤ l := by omega
                        have hlw : IntKind.i64.wrap ((l : Int) + 1) = (l : Int) + 1 := i64_of (by omega)
                        obtain ⟨y, hy⟩ : ∃ y, x.2 = y := ⟨_, rfl⟩
                        obtain ⟨M, hM⟩ : ∃ M, bt.length = M := ⟨_, rfl⟩
                        rw [hy] at k0
                        rw [hM] at k1
                        (try simp only at k2)
                        try rw [HNN.out] at k2
                        have HYM := Lib.hid (And.intro hy hM)
                        clear hx hbt hlen hu hrb hcb hro hr1' hlN hl hy hM
                        by_cases hyM : (M : Int) = y
                        · have hyb : ((M : Int) != y) = false := by simp [hyM]
                          have HYe := Lib.hid hyM
                          subst hyM
                          go_upto_region 31 with fail
                          go_quiet (fail)
                          go_wp2_with fail
                          go_roundw
                          case rel =>
                            refine ⟨l + 1, HB.out.1, by go_num, fun i z b hi hz hb => ?_, HL9.out.2.trans ((below_drewN _).mono HL9.out.2.size)⟩
                            by_cases e : i = l
                            · subst e
                              rw [HB.out.2.1] at hz
                              rw [HB.out.2.2] at hb
                              cases hz; cases hb
                              rw [HYM.out.1, HYM.out.2]
                            · exact HL9.out.1 i z b (by omega) hz hb
                          case measure => have := HB.out.1; simp [intOf]; omega
                        · have hyb : ((M : Int) != y) = true := by simp [hyM]
                          have H3 := Lib.hid (HX.out.2.2.1 (rowI_no HB.out.2.1 (show (row.map List.length)[l]? = some M by rw [List.getElem?_map, HB.out.2.2, ← HYM.out.2]; rfl) (by rw [HYM.out.1]; exact hyM)))
                          go_upto_region 31 with fail
                          go_quiet (fail)
                          go_wp2_with fail
                          go_ret
                          exact ⟨HRet.out 3 H3.out, H0.out.1.trans ((HL9.out.2.trans ((below_drewN _).mono HL9.out.2.size)).mono H0.out.1.size)⟩
                      · have hlN' : ¬ (l : Int) < N := by omega
                        have hlNe : l = N := by omega
                        have hyes : rowI T.vars (row.map List.length) = true := rowI_yes (by rw [HE.out, HV.out.2]) fun i z b hz hb => by
                          rw [List.getElem?_map] at hb
                          obtain ⟨bb, hbb, rfl⟩ := Option.map_eq_some_iff.1 hb
                          exact HL9.out.1 i z bb (by have := (List.getElem?_eq_some_iff.1 hbb).1; have := HNN.out; omega) hz hbb
                        have HYe := Lib.hid hyes
                        clear hyes hlN hlNe
                        go_wp2_with fail
                        go_roundw
                        case rel => exact ⟨k + 1, HX.out.1, by go_num, by rw [HX.out.2.1]; exact HYe.out, HL9.out.2⟩
                        case measure => have := HX.out.1; simp [intOf]; omega
                  · have hne : ((N : Int) != (j : Int)) = true := by simp; omega
                    have hne2 : ¬ (N : Int) = (j : Int) := by omega
                    have H3 := Lib.hid (HX.out.2.2.1 (rowI_len (by rw [HE.out, HV.out.2]; exact hNi)))
                    go_upto_region 26 with fail
                    go_quiet (fail)
                    go_wp2_with fail
                    go_ret
                    exact ⟨HRet.out 3 H3.out, H0.out.1.trans ((HR.out.2.trans ((below_drewN _).mono HR.out.2.size)).mono H0.out.1.size)⟩
                · obtain rfl : k = m := by omega
                  have h0 : checkI T.top T.vars (lensT T) = 0 := by
                    have := HR.out.1
                    rw [List.take_of_length_le (by unfold lensT; rw [List.length_map]; have := HH.out.2.2.1; omega)] at this
                    rw [HCh3.out, this]; rfl
                  have H00 := Lib.hid h0
                  clear h0 hlt hk
                  go_wp2_with fail
                  go_ret
                  exact ⟨HRet.out 0 H00.out, H0.out.1.trans (HR.out.2.mono H0.out.1.size)⟩
end Go.Proofs.YtcdjkbgedmehjaaGreatDoor
