/- Texts of this claim, one behind another: V20, V21, V22, P5. They state lemmas; each names its own conditions. -/
import Derived.Test.YtcdjkbgedmehjaaGreatDoorZI
namespace Go.Proofs.YtcdjkbgedmehjaaGreatDoor
set_option linter.unusedVariables false
open Go.RowKit Go.Sort

set_option maxRecDepth 100000 in
theorem check1_any {w : World} (x : Bs × Nat) : Calls Tryz.prog 27 #[varV x] w fun e w' => e = .returned (.bool (!wordB (bstr x.1))) ∧ Below w.heap.size w w' := by
  have HB := Lib.hid (Below.new w (.cells #[.string (bstr x.1), .int .i64 x.2] 51))
  have HW := Lib.hid (fun w => word_any (bstr x.1) w)
  unfold varV
  generalize wordB (bstr x.1) = q at *
  generalize bstr x.1 = X at *
  go_enter Tryz.func27, Tryz.ntmps27
  go_wp2_with fail
  refine (HW.out _).mono ?_; rintro e w2 ⟨rfl, rfl⟩
  go_wp2_with fail
  go_ret
  exact ⟨rfl, HB.out⟩
def wideB (n : Nat) : Bool := decide (1 ≤ n) && decide (n ≤ 128)
set_option maxRecDepth 100000 in
theorem check2_any {w : World} (x : Bs × Nat) : Calls Tryz.prog 29 #[varV x] w fun e w' => e = .returned (.bool (!wideB x.2)) ∧ Below w.heap.size w w' := by
  have HB := Lib.hid (Below.new w (.cells #[.string (bstr x.1), .int .i64 x.2] 51))
  have HW : Hid (∀ w, Calls Tryz.prog 30 #[.int .i64 x.2] w fun e w' => e = .returned (.bool (wideB x.2)) ∧ w = w') := Lib.hid fun w => by
    have h := wide_any (x.2 : Int) w
    have e : (decide (1 ≤ (x.2 : Int)) && decide ((x.2 : Int) ≤ 128)) = wideB x.2 := by
      unfold wideB
      congr 1
      · exact decide_eq_decide.2 (by omega)
      · exact decide_eq_decide.2 (by omega)
    rw [e] at h
    exact h
  unfold varV
  generalize wideB x.2 = q at *
  generalize bstr x.1 = X at *
  generalize x.2 = y at *
  go_enter Tryz.func29, Tryz.ntmps29
  go_wp2_with fail
  refine (HW.out _).mono ?_; rintro e w2 ⟨rfl, rfl⟩
  go_wp2_with fail
  go_ret
  exact ⟨rfl, HB.out⟩
def dupB (l : List (Bs × Nat)) : Bool := (List.range l.length).any fun i => (l.take i).any fun x => decide (x.1 = (l.getD i default).1)
def rowB (l : List (Bs × Nat)) (r : List (Nat × Nat)) : Bool := decide (r.map Prod.fst = l.map Prod.snd)
def checkN (T : Trc) : Nat :=
  if (!wordB (bstr T.top) || T.vars.any fun x => !wordB (bstr x.1)) then 9
  else if dupB T.vars then 10
  else if T.vars.any (fun x => !wideB x.2) then 2
  else if (decide (300 < T.vars.length) || decide (200 < T.rows.length)) then 19
  else if T.rows.all (rowB T.vars) then 0 else 3
theorem dupB_to (l : List (Bs × Nat)) (i : Nat) (h : ((l.take i).any fun x => decide (x.1 = (l.getD i default).1)) = true) (hi : i < l.length) : dupB l = true :=
  List.any_eq_true.2 ⟨i, List.mem_range.2 hi, h⟩
theorem dupB_no (l : List (Bs × Nat)) (h : ∀ i, i < l.length → ((l.take i).any fun x => decide (x.1 = (l.getD i default).1)) = false) : dupB l = false := by
  unfold dupB
  rw [List.any_eq_false]
  intro i hi
  rw [h i (List.mem_range.1 hi)]; simp
theorem RO.take {w : World} {p : Option Addr} {n c k : Nat} {l : List (Bs × Nat)} (h : RO w (.slice p n c) 2 l.length (tokCells l)) (hn : l.length = n) (hk : k ≤ n) : RO w (.slice p k c) 2 (l.take k).length (tokCells (l.take k)) := by
  obtain ⟨h1, p', c', e, h3⟩ := h
  cases e
  have hl : (l.take k).length = k := by rw [List.length_take]; omega
  have htc : ∀ (l : List (Bs × Nat)), (tokCells l).length = l.length * 2 := fun l => by
    induction l with
    | nil => rfl
    | cons a l ih => show (_ :: _ :: tokCells l).length = _; simp only [List.length_cons, ih]; omega
  refine ⟨htc _, p, c, by rw [hl], fun j u hj => h3 j u ?_⟩
  have e : tokCells l = tokCells (l.take k) ++ tokCells (l.drop k) := by
    unfold tokCells
    rw [← List.flatten_append, ← List.map_append, List.take_append_drop]
  rw [e, List.getElem?_append_left (List.getElem?_eq_some_iff.1 hj).1]
  exact hj
set_option maxRecDepth 100000 in
set_option maxHeartbeats 16000000 in
theorem check_any {w : World} {tv : Value} {T : Trc} (h : TrR w tv T) (hn : (T.vars.length : Int) ≤ 3000000) (hm : (T.rows.length : Int) ≤ 3000000) (hw : ∀ r ∈ T.rows, (r.length : Int) ≤ 140737488355328) :
    Calls Tryz.prog 9 #[tv] w fun e w' => e = .returned (.int .i64 (checkN T : Nat)) ∧ Below w.heap.size w w' := by
  obtain ⟨vv, rv, rvs, ess, rfl, hvv, hrv, hel, hrows, hrow⟩ := h.ex
  obtain ⟨pv, cv, rfl⟩ := hvv.form
  obtain ⟨pr, cr, rfl⟩ := hrv.form
  have hb := Below.new w (.cells #[.string (bstr T.top), .slice pv T.vars.length cv, .slice pr rvs.length cr] 31)
  have hk := Blk.new (w := w) 31 [.string (bstr T.top), .slice pv T.vars.length cv, .slice pr rvs.length cr]
  have hrl : T.rows.length = rvs.length := by rw [hrows, List.length_map, hel]
  have HH := Lib.hid (And.intro hvv (And.intro hrv (And.intro hel (And.intro hrows (And.intro hrow (And.intro hw hrl))))))
  have H0 := Lib.hid (And.intro hb hk)
  rw [hrl] at hm
  have HW := Lib.hid (fun w => word_any (bstr T.top) w)
  have A1 : Hid (∀ w', Asks (.func (Fn.func 27) #[] #[]) (fun x => !wordB (bstr x.1)) w') := Lib.hid fun w' => ⟨_, _, rfl, fun _ _ => by kernel_rfl, fun x w'' _ => check1_any x⟩
  have A2 : Hid (∀ w', Asks (.func (Fn.func 29) #[] #[]) (fun x => !wideB x.2) w') := Lib.hid fun w' => ⟨_, _, rfl, fun _ _ => by kernel_rfl, fun x w'' _ => check2_any x⟩
  have hcapn := h.cap _ _ _ _ _ rfl
  have hn' := hn
  generalize hnv : T.vars.length = n at *
  generalize hnr : rvs.length = m at *
  clear h hvv hrv hel hrows hrow hw hrl hb hk hn'
  obtain ⟨CN, hCN⟩ : ∃ c, checkN T = c := ⟨_, rfl⟩
  rw [hCN]
  have HCN := Lib.hid hCN
  clear hCN
  have hret : ∀ k : Nat, checkN T = k → Ending.returned (Value.int .i64 (k : Int)) = .returned (.int .i64 (CN : Int)) := fun k hk => by rw [← HCN.out, hk]
  have HRet := Lib.hid hret
  clear hret
  go_enter Tryz.func9, Tryz.ntmps9
  go_upto_region 1 with fail
  generalize hTop : bstr T.top = X at *
  generalize w.alloc (.cells #[.string X, .slice pv n cv, .slice pr m cr] 31) = W at *
  have HTop := Lib.hid hTop
  clear hTop
  have HBl : Hid (∀ w', Below W.heap.size W w' → w'.cell? ⟨w.heap.size, 0, none⟩ = some (.string X) ∧ w'.cell? ⟨w.heap.size, 1, none⟩ = some (.slice pv n cv) ∧ w'.cell? ⟨w.heap.size, 2, none⟩ = some (.slice pr m cr)) := Lib.hid fun w' hb' => by
    have hk' := H0.out.2.next hb'
    exact ⟨hk'.cell (i := 0) rfl, hk'.cell (i := 1) rfl, hk'.cell (i := 2) rfl⟩
  obtain ⟨c0, c1, c2⟩ := HBl.out W (Below.refl _ _)
  have hvars : ∀ w', Below W.heap.size W w' → RO w' (.slice pv n cv) 2 T.vars.length (tokCells T.vars) := fun w' hb' => by
    have := (HH.out.1.below H0.out.1).below hb'
    rw [hnv]; exact this
  have HV := Lib.hid (And.intro hvars hnv)
  have HNr := Lib.hid hnr
  clear hvars hnv hnr
  have HC1 := Lib.hid (hasf_any (A1.out W) T.vars (HV.out.1 W (Below.refl _ _)) (by rw [HV.out.2]; exact hn))
  obtain ⟨q0, hq0⟩ : ∃ q, wordB X = q := ⟨_, rfl⟩
  obtain ⟨q1, hq1⟩ : ∃ q, (T.vars.any fun x => !wordB (bstr x.1)) = q := ⟨_, rfl⟩
  rw [hq0] at HW
  rw [hq1] at HC1
  have HQ := Lib.hid (And.intro hq0 hq1)
  clear hq0 hq1
  cases q0
  · have h9 : checkN T = 9 := by unfold checkN; rw [HTop.out, HQ.out.1]; rfl
    have H9 := Lib.hid h9
    clear h9
    go_wp2_with fail
    refine (HW.out _).mono ?_; rintro e w1 ⟨rfl, rfl⟩
    go_wp2_with fail
    go_ret
    exact ⟨HRet.out 9 H9.out, H0.out.1⟩
  cases q1
  rotate_left
  · have h9 : checkN T = 9 := by unfold checkN; rw [HTop.out, HQ.out.1, HQ.out.2]; rfl
    have H9 := Lib.hid h9
    clear h9
    go_wp2_with fail
    refine (HW.out _).mono ?_; rintro e w1 ⟨rfl, rfl⟩
    go_wp2_with fail
    refine HC1.out.mono ?_; rintro e w2 ⟨rfl, hb2⟩
    have H2 := Lib.hid (H0.out.1.trans (hb2.mono H0.out.1.size))
    clear hb2
    go_wp2_with fail
    go_ret
    exact ⟨HRet.out 9 H9.out, H2.out⟩
  have hch : checkN T = if dupB T.vars then 10 else if T.vars.any (fun x => !wideB x.2) then 2 else if (decide (300 < T.vars.length) || decide (200 < T.rows.length)) then 19 else if T.rows.all (rowB T.vars) then 0 else 3 := by
    unfold checkN
    rw [HTop.out, HQ.out.1, HQ.out.2]; rfl
  have HCh := Lib.hid hch
  clear hch
  go_wp2_with fail
  refine (HW.out _).mono ?_; rintro e w1 ⟨rfl, rfl⟩
  go_wp2_with fail
  refine HC1.out.mono ?_; rintro e w2 ⟨rfl, hb2⟩
  have H2 := Lib.hid hb2
  clear hb2 c0 c1 c2 HW HC1
  obtain ⟨c0, c1, c2⟩ := HBl.out w2 H2.out
  go_wp2_with fail
  clear c0 c1 c2
  go_loopw [20] (fun iv wr => ∃ i : Nat, i ≤ n ∧ iv = .int .i64 i ∧ (∀ j, j < i → ((T.vars.take j).any fun x => decide (x.1 = (T.vars.getD j default).1)) = false) ∧ Below W.heap.size W wr) (fun iv _ => n - (intOf iv).toNat)
  case atStart => exact ⟨0, Nat.zero_le _, rfl, fun j hj => absurd hj (Nat.not_lt_zero _), H2.out⟩
  case round =>
    obtain ⟨i, hi, rfl, hno, hbr⟩ := hrel
    have HL := Lib.hid (And.intro hno hbr)
    clear hno hbr
    by_cases hlt : i < n
    · obtain ⟨x, hx⟩ : ∃ x, T.vars[i]? = some x := ⟨_, List.getElem?_eq_getElem (by rw [HV.out.2]; exact hlt)⟩
      have hro := HV.out.1 wr HL.out.2
      obtain ⟨vb, vo, rfl⟩ := hro.sl (tokCells_at _ _ _ hx).1
      have k0 := hro.cell (tokCells_at _ _ _ hx).1
      have k1 := hro.cell (tokCells_at _ _ _ hx).2
      rw [← Nat.add_assoc] at k1
      have hxd : (T.vars.getD i default).1 = x.1 := by rw [List.getD_eq_getElem?_getD, hx]; rfl
      have hbx := Below.new wr (.cells #[.string (bstr x.1), .int .i64 x.2] 51)
      have hkx := Blk.new (w := wr) 51 [.string (bstr x.1), .int .i64 x.2]
      have hbW := Below.next HL.out.2 hbx
      have HNm : Hid (∀ s : After (wr.alloc (.cells #[.string (bstr x.1), .int .i64 x.2] 51)), Calls Tryz.prog 28 #[.slice (some ⟨vb, vo, none⟩) i cv, .string (bstr x.1)] s.val fun e w' => e = .returned (.bool ((T.vars.take i).any fun y => decide (y.1 = x.1))) ∧ Below s.val.heap.size s.val w') := Lib.hid fun s =>
        named_any (T.vars.take i) x.1 (((HV.out.1 wr HL.out.2).below hbx).below s.below |>.take HV.out.2 (Nat.le_of_lt hlt)) (by rw [List.length_take]; have := HV.out.2; omega)
      obtain ⟨q, hq⟩ : ∃ q, ((T.vars.take i).any fun y => decide (y.1 = x.1)) = q := ⟨_, rfl⟩
      rw [hq] at HNm
      have q1 : (wr.alloc (.cells #[.string (bstr x.1), .int .i64 x.2] 51)).cell? ⟨w.heap.size, 1, none⟩ = some (.slice (some ⟨vb, vo, none⟩) n cv) := (HBl.out _ hbW).2.1
      have q2 := hkx.cell (i := 0) rfl
      have a1 := After.cell q1
      have a2 := After.cell q2
      have HX := Lib.hid (And.intro hlt (And.intro (show ((T.vars.take i).any fun y => decide (y.1 = (T.vars.getD i default).1)) = q by rw [hxd]; exact hq) hbW))
      have hii : (i : Int) < n := by omega
      have hi0 : (0 : Int) ≤ i := by omega
      have hic : (i : Int) ≤ cv := by omega
      have hiw : IntKind.i64.wrap ((i : Int) + 1) = (i : Int) + 1 := i64_of (by omega)
      obtain ⟨c0, c1, c2⟩ := HBl.out wr HL.out.2
      clear hro hx hxd hbx hkx hbW hq q1 q2 hlt hi
      go_upto_region 6 with fail
      clear k0 k1 c0 c1 c2
      generalize wr.alloc (.cells #[.string (bstr x.1), .int .i64 x.2] 51) = W5 at *
      refine wp_region_after (by kernel_rfl) (by kernel_rfl) ?_
      repeat (go_big_quiet_step ((first | (with_reducible exact Calls.after_of (HNm.out _)))))
      refine wpQuiet_nil ?_
      rintro _ ⟨s, rfl⟩
      have HS := Lib.hid (HX.out.2.2.trans (s.below.mono HX.out.2.2.size))
      generalize s.val = w6 at *
      clear a1 a2 HNm
      cases q
      · go_wp2_with fail
        go_roundw
        case rel => exact ⟨i + 1, HX.out.1, by go_num, fun j hj => by
          by_cases e : j = i
          · subst e; exact HX.out.2.1
          · exact HL.out.1 j (by omega), HS.out⟩
        case measure => have := HX.out.1; simp [intOf]; omega
      · have h10 : checkN T = 10 := by
          rw [HCh.out, dupB_to T.vars i HX.out.2.1 (by rw [HV.out.2]; exact HX.out.1)]; rfl
        have H10 := Lib.hid h10
        clear h10
        go_wp2_with fail
        go_ret
        exact ⟨HRet.out 10 H10.out, H0.out.1.trans (HS.out.mono H0.out.1.size)⟩
    · obtain rfl : i = n := by omega
      have hdup := dupB_no T.vars (fun j hj => HL.out.1 j (by rw [HV.out.2] at hj; exact hj))
      have hch2 := HCh.out
      rw [hdup] at hch2
      simp only [Bool.false_eq_true, if_false] at hch2
      have HCh2 := Lib.hid hch2
      clear hdup hch2 hlt hi
      obtain ⟨c0, c1, c2⟩ := HBl.out wr HL.out.2
      have HC2 := Lib.hid (hasf_any (A2.out wr) T.vars (HV.out.1 wr HL.out.2) (by rw [HV.out.2]; exact hn))
      obtain ⟨q2, hq2⟩ : ∃ q, (T.vars.any fun x => !wideB x.2) = q := ⟨_, rfl⟩
      rw [hq2] at HC2 HCh2
      clear hq2
      go_wp2_with fail
      refine HC2.out.mono ?_; rintro e w7 ⟨rfl, hb7⟩
      have H7 := Lib.hid (HL.out.2.trans (hb7.mono HL.out.2.size))
      clear hb7 c0 c1 c2 HC2
      cases q2
      rotate_left
      · have h2 : checkN T = 2 := by rw [HCh2.out]; rfl
        have H2' := Lib.hid h2
        clear h2
        go_wp2_with fail
        go_ret
        exact ⟨HRet.out 2 H2'.out, H0.out.1.trans (H7.out.mono H0.out.1.size)⟩
      have hch3 := HCh2.out
      simp only [Bool.false_eq_true, if_false] at hch3
      rw [HV.out.2, HH.out.2.2.2.2.2.2] at hch3
      have HCh3 := Lib.hid hch3
      clear hch3
      obtain ⟨c0, c1, c2⟩ := HBl.out w7 H7.out
      have hch4 := HCh3.out
      obtain ⟨c1', hc1'⟩ : ∃ c, c = c1 := ⟨_, rfl⟩
      clear hc1' c1'
      by_cases h300 : (300 : Int) < i
      · have h19 : checkN T = 19 := by rw [HCh3.out, decide_eq_true (show 300 < i by omega)]; rfl
        have H19 := Lib.hid h19
        clear h19 hch4
        go_wp2_with fail
        go_ret
        exact ⟨HRet.out 19 H19.out, H0.out.1.trans (H7.out.mono H0.out.1.size)⟩
      by_cases h200 : (200 : Int) < m
      · have h19 : checkN T = 19 := by rw [HCh3.out, decide_eq_true (show 200 < m by omega), Bool.or_true]; rfl
        have H19 := Lib.hid h19
        clear h19 hch4
        go_wp2_with fail
        go_ret
        exact ⟨HRet.out 19 H19.out, H0.out.1.trans (H7.out.mono H0.out.1.size)⟩
      rw [decide_eq_false (show ¬ 300 < i by omega), decide_eq_false (show ¬ 200 < m by omega)] at hch4
      simp only [Bool.or_self, Bool.false_eq_true, if_false] at hch4
      have HCh4 := Lib.hid hch4
      clear hch4
      go_wp2_with fail
      clear c0 c1 c2
      go_loopw [51] (fun kv wr => ∃ k : Nat, k ≤ m ∧ kv = .int .i64 k ∧ (T.rows.take k).all (rowB T.vars) = true ∧ Below W.heap.size W wr) (fun kv _ => m - (intOf kv).toNat)
      case atStart => exact ⟨0, Nat.zero_le _, rfl, rfl, H7.out⟩
      case round =>
        obtain ⟨k, hk, rfl, hall, hbr⟩ := hrel
        have HR := Lib.hid (And.intro hall hbr)
        clear hall hbr
        by_cases hlt : k < m
        · obtain ⟨rvk, hrvk⟩ : ∃ v, rvs[k]? = some v := ⟨_, List.getElem?_eq_getElem (by rw [HNr.out]; exact hlt)⟩
          obtain ⟨es, hes⟩ : ∃ es, ess[k]? = some es := ⟨_, List.getElem?_eq_getElem (by rw [HH.out.2.2.1]; exact hlt)⟩
          have hrow := HH.out.2.2.2.2.1 k rvk es hrvk hes
          have hTk : T.rows[k]? = some (es.map fun e => (e.w, e.x)) := by rw [HH.out.2.2.2.1, List.getElem?_map, hes]; rfl
          obtain ⟨pk, ck, rfl⟩ := hrow.1.form
          have hrr := (HH.out.2.1.below H0.out.1).below HR.out.2
          obtain ⟨rb, ro, rfl⟩ := hrr.sl hrvk
          have k0 := hrr.cell hrvk
          have hfit : fitsB T.vars es = rowB T.vars (es.map fun e => (e.w, e.x)) := by
            unfold fitsB rowB
            rw [List.map_map]; rfl
          have hesl : (es.length : Int) ≤ 140737488355328 := by have := HH.out.2.2.2.2.2.1 _ (List.mem_of_getElem? hTk); simpa using this
          have HE := Lib.hid (eqf_any T.vars es (HV.out.1 wr HR.out.2) ((hrow.1.below H0.out.1).below HR.out.2) (fun e he => ((hrow.2 e he).below H0.out.1).below HR.out.2) (by rw [HV.out.2]; exact hn) hesl)
          rw [hfit] at HE
          obtain ⟨q, hq⟩ : ∃ q, rowB T.vars (es.map fun e => (e.w, e.x)) = q := ⟨_, rfl⟩
          rw [hq] at HE
          have hsn : (T.rows.take (k + 1)).all (rowB T.vars) = q := by
            rw [List.take_add_one, hTk]; simp [List.all_append, HR.out.1, hq]
          have hbad : q = false → T.rows.all (rowB T.vars) = false := fun h => by
            rw [List.all_eq_false]
            exact ⟨_, List.mem_of_getElem? hTk, by rw [hq, h]; simp⟩
          have HX := Lib.hid (And.intro hlt (And.intro hsn hbad))
          have hki : (k : Int) < m := by omega
          have hk0 : (0 : Int) ≤ k := by omega
          have hkw : IntKind.i64.wrap ((k : Int) + 1) = (k : Int) + 1 := i64_of (by omega)
          obtain ⟨c0, c1, c2⟩ := HBl.out wr HR.out.2
          generalize hel : es.length = el at *
          clear hrvk hes hrow hTk hrr hfit hesl hq hsn hbad hlt hk hel
          go_wp2_with fail
          refine HE.out.mono ?_; rintro e w9 ⟨rfl, hb9⟩
          have H9 := Lib.hid (HR.out.2.trans (hb9.mono HR.out.2.size))
          clear hb9 k0 c0 c1 c2 HE
          cases q
          · have h3 : checkN T = 3 := by rw [HCh4.out, HX.out.2.2 rfl]; rfl
            have H3 := Lib.hid h3
            clear h3
            go_wp2_with fail
            go_ret
            exact ⟨HRet.out 3 H3.out, H0.out.1.trans (H9.out.mono H0.out.1.size)⟩
          · go_wp2_with fail
            go_roundw
            case rel => exact ⟨k + 1, HX.out.1, by go_num, HX.out.2.1, H9.out⟩
            case measure => have := HX.out.1; simp [intOf]; omega
        · obtain rfl : k = m := by omega
          clear hlt hk
          have h0 : checkN T = 0 := by
            have h := HR.out.1
            rw [List.take_of_length_le (by rw [HH.out.2.2.2.2.2.2]; exact Nat.le_refl _)] at h
            rw [HCh4.out, h]; rfl
          have H0' := Lib.hid h0
          clear h0
          go_wp2_with fail
          go_ret
          exact ⟨HRet.out 0 H0'.out, H0.out.1.trans (HR.out.2.mono H0.out.1.size)⟩
end Go.Proofs.YtcdjkbgedmehjaaGreatDoor
namespace Go.Proofs.YtcdjkbgedmehjaaGreatDoor
set_option linter.unusedVariables false
open Go.RowKit Go.Sort

/-! # plain: the lines as Write makes them -/
theorem lineG_eq : ∀ (ws : List Bs), ws ≠ [] → lineG ws = lineW ws
  | [], h => absurd rfl h
  | [w], _ => by simp [lineG, lineW, Lib.join]
  | w :: v :: r, _ => by
    have ih := lineG_eq (v :: r) (by simp)
    unfold lineG at ih ⊢
    rw [lineW, ← ih]
    simp [Lib.join]
def PreT (T : Trc) (ls : List (List Bs)) : Prop := ∃ rest, trcLines T = ls ++ rest
theorem PreT.len {T : Trc} {ls : List (List Bs)} (h : PreT T ls) : (linesW ls).length ≤ (trcText T).length := by
  obtain ⟨rest, hr⟩ := h
  unfold trcText linesW
  rw [hr, List.map_append, List.flatten_append, List.length_append]
  exact Nat.le_add_right _ _
theorem linesW_snoc (ls : List (List Bs)) (l : List Bs) : linesW (ls ++ [l]) = linesW ls ++ lineW l := by simp [linesW]
theorem varLines_snoc : ∀ (l : List (Bs × Nat)) (i : Nat) (v : Bs × Nat), varLines i (l ++ [v]) = varLines i l ++ [varLine (i + l.length) v]
  | [], i, v => by simp [varLines]
  | a :: l, i, v => by
    simp only [List.cons_append, varLines, varLines_snoc l (i + 1) v, List.length_cons]
    rw [show i + 1 + l.length = i + (l.length + 1) by omega]
theorem varLines_pre : ∀ (l : List (Bs × Nat)) (i k : Nat), ∃ rest, varLines i l = varLines i (l.take k) ++ rest
  | l, i, 0 => ⟨varLines i l, by simp [varLines]⟩
  | [], i, k + 1 => ⟨[], by simp [varLines]⟩
  | a :: l, i, k + 1 => by
    obtain ⟨r, hr⟩ := varLines_pre l (i + 1) k
    exact ⟨r, by simp only [List.take_succ_cons, varLines, List.cons_append, hr]⟩
def chOne (i : Nat) (v : Nat × Nat) : List Bs := [98 :: bitL v.1 v.2, idL i]
def chStep (a : Option (List (Nat × Nat))) (k i : Nat) (v : Nat × Nat) : List (List Bs) :=
  match a with
  | none => [chOne i v]
  | some old => if old[k]? = some v then [] else [chOne i v]
theorem chLines_snoc : ∀ (l : List (Nat × Nat)) (i : Nat) (a : Option (List (Nat × Nat))) (v : Nat × Nat), chLines i a (l ++ [v]) = chLines i a l ++ chStep a l.length (i + l.length) v
  | [], i, none, v => rfl
  | [], i, some [], v => by simp [chLines, chStep, chOne]
  | [], i, some (u :: q), v => by
    simp only [List.nil_append, chLines, chStep, List.append_nil, List.length_nil, Nat.add_zero, List.getElem?_cons_zero, Option.some.injEq]
    rfl
  | b :: l, i, none, v => by
    simp only [List.cons_append, chLines, chLines_snoc l (i + 1) none v, chStep, List.length_cons]
    rw [show i + 1 + l.length = i + (l.length + 1) by omega]
  | b :: l, i, some [], v => by
    simp only [List.cons_append, chLines, chLines_snoc l (i + 1) (some []) v, chStep, List.length_cons, List.getElem?_nil]
    rw [show i + 1 + l.length = i + (l.length + 1) by omega]
  | b :: l, i, some (u :: q), v => by
    simp only [List.cons_append, chLines, chLines_snoc l (i + 1) (some q) v, chStep, List.length_cons, List.getElem?_cons_succ]
    rw [show i + 1 + l.length = i + (l.length + 1) by omega, List.append_assoc]
theorem chLines_pre (l : List (Nat × Nat)) (i k : Nat) (a : Option (List (Nat × Nat))) : ∃ rest, chLines i a l = chLines i a (l.take k) ++ rest := by
  induction l generalizing i k a with
  | nil => exact ⟨[], by simp [chLines]⟩
  | cons b l ih =>
    cases k with
    | zero => exact ⟨chLines i a (b :: l), by simp [chLines]⟩
    | succ k =>
      cases a with
      | none => obtain ⟨r, hr⟩ := ih (i + 1) k none; exact ⟨r, by simp only [List.take_succ_cons, chLines, hr, List.cons_append]⟩
      | some old =>
        cases old with
        | nil => obtain ⟨r, hr⟩ := ih (i + 1) k (some []); exact ⟨r, by simp only [List.take_succ_cons, chLines, hr, List.cons_append]⟩
        | cons u q => obtain ⟨r, hr⟩ := ih (i + 1) k (some q); exact ⟨r, by simp only [List.take_succ_cons, chLines, hr, List.append_assoc]⟩
theorem rowsTo_pre (rows : List (List (Nat × Nat))) : ∀ (d n : Nat), ∃ rest, rowsTo rows (n + d) = rowsTo rows n ++ rest
  | 0, n => ⟨[], by simp⟩
  | d + 1, n => by
    obtain ⟨r, hr⟩ := rowsTo_pre rows d n
    exact ⟨r ++ rowLines (n + d) (prev rows (n + d)) (rows.getD (n + d) []), by rw [← Nat.add_assoc, rowsTo, hr, List.append_assoc]⟩
def l1 : List Bs := [kTs, kOne, kNs, kEnd]
def l2 (T : Trc) : List Bs := [kScope, kModule, T.top, kEnd]
def l3 : List Bs := [kUp, kEnd]
def l4 : List Bs := [kEd, kEnd]
theorem head_eq (T : Trc) : headLines T = [l1, l2 T] ++ varLines 0 T.vars ++ [l3, l4] := rfl
theorem pre_1 (T : Trc) : PreT T [l1] := ⟨_, by unfold trcLines; rw [head_eq]; rfl⟩
theorem pre_2 (T : Trc) : PreT T [l1, l2 T] := ⟨_, by unfold trcLines; rw [head_eq]; simp only [List.append_assoc, List.cons_append, List.nil_append]; rfl⟩
theorem pre_v (T : Trc) (k : Nat) : PreT T ([l1, l2 T] ++ varLines 0 (T.vars.take k)) := by
  obtain ⟨r, hr⟩ := varLines_pre T.vars 0 k
  exact ⟨_, by unfold trcLines; rw [head_eq, hr]; simp only [List.append_assoc]; rfl⟩
theorem pre_3 (T : Trc) : PreT T ([l1, l2 T] ++ varLines 0 T.vars ++ [l3]) := ⟨_, by unfold trcLines; rw [head_eq]; simp only [List.append_assoc, List.cons_append, List.nil_append]; rfl⟩
theorem pre_r (T : Trc) (n : Nat) (hn : n ≤ T.rows.length) : PreT T (headLines T ++ rowsTo T.rows n) := by
  obtain ⟨r, hr⟩ := rowsTo_pre T.rows (T.rows.length - n) n
  rw [show n + (T.rows.length - n) = T.rows.length by omega] at hr
  exact ⟨r, by unfold trcLines; rw [hr, List.append_assoc]⟩
theorem pre_c (T : Trc) (n k : Nat) (hn : n < T.rows.length) : PreT T (headLines T ++ rowsTo T.rows n ++ [35 :: Lib.itoa (n : Int)] :: chLines 0 (prev T.rows n) ((T.rows.getD n []).take k)) := by
  obtain ⟨r1, h1⟩ := pre_r T (n + 1) hn
  obtain ⟨r2, h2⟩ := chLines_pre (T.rows.getD n []) 0 k (prev T.rows n)
  refine ⟨r2 ++ r1, ?_⟩
  rw [h1, rowsTo, rowLines, h2]
  simp only [List.append_assoc, List.cons_append]
/-- a line is written -/
theorem line_step {b g n : Nat} {T : Trc} {ls : List (List Bs)} {ws : List Bs} {wsG : List Bs} {w : World} (h : IsB b (linesW ls) w) (hB : Blk w g 9 (strCells wsG)) (hn : wsG.length = n) (hl : n ≤ 1000) (hG : lineG wsG = lineW ws) (hp : PreT T (ls ++ [ws])) (ht : (trcText T).length ≤ 1000000) (hb : b ≤ w.heap.size) :
    Calls Tryz.prog 17 #[.slice (some ⟨g, 0, none⟩) n n, .pointer (some ⟨b, 0, none⟩)] w fun e w' => e = .returned (.tuple #[]) ∧ IsB b (linesW (ls ++ [ws])) w' ∧ Below b w w' := by
  have hpl := hp.len
  rw [linesW_snoc, List.length_append] at hpl
  have hj : (Lib.join wsG [32]).length ≤ (lineW ws).length := by rw [← hG]; unfold lineG; rw [List.length_append]; omega
  rw [linesW_snoc, ← hG]
  exact line_any h hB hn hl (by omega) (by omega) hb
end Go.Proofs.YtcdjkbgedmehjaaGreatDoor
namespace Go.Proofs.YtcdjkbgedmehjaaGreatDoor
set_option linter.unusedVariables false
open Go.RowKit Go.Sort

/-! # Write -/
def Tab (w : World) : Prop := Lib.TabIs Tryz.prog w "internal/strconv.uint64pow10" .u64 Lib.pow10Tab
theorem tab_below {P : Program} {w w' : World} {name : String} {k : IntKind} {zs : List Int} (h : Lib.TabIs P w name k zs) (hb : Below w.heap.size w w') : Lib.TabIs P w' name k zs := by
  unfold Lib.TabIs World.var? at h ⊢
  cases hg : P.globalNamed name with
  | none => rw [hg] at h; simp at h
  | some g =>
    rw [hg] at h
    simp only [Option.bind_some] at h ⊢
    have hlt : g < w.heap.size := by
      rcases Nat.lt_or_ge g w.heap.size with h' | h'
      · exact h'
      · rw [Array.getElem?_eq_none h'] at h; simp at h
    rw [hb.block g hlt]
    exact h
theorem grow_below (B : Nat) (w : World) (os : Array Obj) (hB : B ≤ w.heap.size) : Below B w (grow w os) :=
  ⟨rfl, rfl, rfl, by simp [grow], fun k hk => by simp only [grow]; rw [Array.getElem?_append_left (by omega)]⟩
theorem itoa_any {w : World} (n : Nat) (hn : n ≤ 1000000) (ht : Tab w) : Calls Tryz.prog 20 #[.int .i64 n] w fun e w' => e = .returned (.string (bstr (Lib.itoa (n : Int)))) ∧ Below w.heap.size w w' :=
  (Tryz.strconv_Itoa (n : Int) (by omega) (by omega) w ht).mono fun e w' ⟨he, k, os, hw⟩ => ⟨he, by rw [hw]; exact (below_drewN k).trans (grow_below _ _ os (Nat.le_refl _))⟩
set_option maxRecDepth 100000 in
set_option maxHeartbeats 4000000 in
theorem write_bad {w : World} {tv : Value} {T : Trc} (h : TrR w tv T) (hn : (T.vars.length : Int) ≤ 3000000) (hm : (T.rows.length : Int) ≤ 3000000) (hw : ∀ r ∈ T.rows, (r.length : Int) ≤ 140737488355328) (hc : checkN T ≠ 0) :
    Calls Tryz.prog 8 #[tv] w fun e w' => e = .returned (.tuple #[.string ⟨#[]⟩, .int .i64 (checkN T : Nat)]) ∧ Below w.heap.size w w' := by
  obtain ⟨vv, rv, rvs, ess, rfl, hvv, hrv, _⟩ := h.ex
  have hb := Below.new w (.cells #[.string (bstr T.top), vv, rv] 31)
  have hk := Blk.new (w := w) 31 [.string (bstr T.top), vv, rv]
  obtain ⟨pv, cv, rfl⟩ := hvv.form
  obtain ⟨pr, cr, rfl⟩ := hrv.form
  have HC := Lib.hid (check_any (h.below hb) hn hm hw)
  obtain ⟨c, hcc⟩ : ∃ c, checkN T = c := ⟨_, rfl⟩
  rw [hcc] at HC hc ⊢
  have hc1 : ((c : Int) != 0) = true := by simpa using hc
  have hc2 : ¬ (c : Int) = 0 := by omega
  have hc3 : ¬ c = 0 := hc
  have HB := Lib.hid hb
  generalize T.vars.length = n at *
  generalize rvs.length = m at *
  generalize bstr T.top = X at *
  clear h hvv hrv hb hk hcc hw hc
  go_enter Tryz.func8, Tryz.ntmps8
  go_wp2_with fail
  refine HC.out.mono ?_; rintro e w2 ⟨rfl, hb2⟩
  have H2 := Lib.hid (HB.out.trans (hb2.mono HB.out.size))
  clear hb2
  go_wp2_with fail
  go_ret2
  exact ⟨rfl, H2.out⟩
theorem tok_of_check {T : Trc} (h : checkN T = 0) (hx : ∀ r ∈ T.rows, ∀ p ∈ r, p.2 < 2 ^ p.1) : TOk T := by
  unfold checkN at h
  split at h
  · cases h
  rename_i h1
  split at h
  · cases h
  rename_i h2
  split at h
  · cases h
  rename_i h3
  split at h
  · cases h
  rename_i h4
  split at h
  · rename_i h5
    rw [Bool.not_eq_true, Bool.or_eq_false_iff] at h1 h4
    have ht : wordB (bstr T.top) = true := by simpa using h1.1
    have hnm : ∀ x ∈ T.vars, wordB (bstr x.1) = true := fun x hx => by
      have := List.any_eq_false.1 h1.2 x hx
      simpa using this
    have hwd : ∀ x ∈ T.vars, 1 ≤ x.2 ∧ x.2 ≤ 128 := fun x hx => by
      rw [Bool.not_eq_true] at h3
      have := List.any_eq_false.1 h3 x hx
      unfold wideB at this
      simp only [Bool.not_eq_true, Bool.not_eq_false', Bool.and_eq_true, decide_eq_true_eq] at this
      exact this
    refine ⟨ht, fun i v hv => ⟨hnm v (List.mem_of_getElem? hv), hwd v (List.mem_of_getElem? hv)⟩, fun i j u v hu hv hij e => ?_, by have := of_decide_eq_false h4.1; omega, by have := of_decide_eq_false h4.2; omega, fun n r hr => ?_⟩
    · have hd : dupB T.vars = false := by simpa using h2
      have key : ∀ a b (x y : Bs × Nat), a < b → T.vars[a]? = some x → T.vars[b]? = some y → x.1 = y.1 → False := fun a b x y hab hx hy e => by
        have hbl : b < T.vars.length := (List.getElem?_eq_some_iff.1 hy).1
        have : ((T.vars.take b).any fun z => decide (z.1 = (T.vars.getD b default).1)) = true := List.any_eq_true.2 ⟨x, List.mem_of_getElem? (i := a) (by rw [List.getElem?_take, if_pos hab]; exact hx), by
          rw [List.getD_eq_getElem?_getD, hy]; simpa using e⟩
        rw [dupB_to _ b this hbl] at hd; cases hd
      rcases Nat.lt_or_gt_of_ne hij with h' | h'
      · exact key i j u v h' hu hv e
      · exact key j i v u h' hv hu e.symm
    · have hb := List.all_eq_true.1 h5 r (List.mem_of_getElem? hr)
      have hm : r.map Prod.fst = T.vars.map Prod.snd := of_decide_eq_true hb
      refine ⟨by have := congrArg List.length hm; simpa using this, fun j p v hp hv => ⟨?_, hx r (List.mem_of_getElem? hr) p (List.mem_of_getElem? hp)⟩⟩
      have := congrArg (fun l => l[j]?) hm
      simp only [List.getElem?_map, hp, hv, Option.map_some, Option.some.injEq] at this
      exact this
  · cases h
end Go.Proofs.YtcdjkbgedmehjaaGreatDoor
namespace Go.Proofs.YtcdjkbgedmehjaaGreatDoor
set_option linter.unusedVariables false
open Go.RowKit Go.Sort

/-! # plain: the trace of VcdMany -/
def manyVars (n : Nat) : List (Bs × Nat) := (List.range n).map fun i => (118 :: idL i, 1 + i % 3)
def manyRow (n : Nat) : List (Nat × Nat) := (List.range n).map fun i => (1 + i % 3, i % 2 ^ (1 + i % 3))
def manyT (n m : Nat) : Trc := ⟨[116], manyVars n, List.replicate m (manyRow n)⟩
theorem manyVars_at {n i : Nat} (h : i < n) : (manyVars n)[i]? = some (118 :: idL i, 1 + i % 3) := by unfold manyVars; rw [List.getElem?_map, List.getElem?_range h]; rfl
theorem manyVars_len (n : Nat) : (manyVars n).length = n := by simp [manyVars]
theorem many_word (i : Nat) (h : i < 8836) : wordB (bstr (118 :: idL i)) = true := by
  have hl := idL_len i h
  unfold wordB printedB
  rw [bstr_size]
  have hs : seens (bstr (118 :: idL i)).data.toList = true := by
    have e : (bstr (118 :: idL i)).data.toList = 118 :: idL i := by simp [bstr]
    rw [e]
    unfold seens
    rw [List.all_cons]
    have := seens_idL i
    unfold seens at this
    rw [this]; decide
  rw [hs]
  have h1 : (118 :: idL i).length ≠ 0 := by simp
  have h2 : (118 :: idL i).length ≤ 200 := by simp only [List.length_cons]; omega
  rw [decide_eq_true h1, decide_eq_true h2]
  simp [bstr]
theorem many_words (n : Nat) (hn : n ≤ 303) : ((manyVars n).any fun x => !wordB (bstr x.1)) = false := by
  rw [List.any_eq_false]
  intro x hx
  obtain ⟨i, hi, rfl⟩ := List.mem_map.1 hx
  have := many_word i (by have := List.mem_range.1 hi; omega)
  simp [this]
theorem many_dup (n : Nat) : dupB (manyVars n) = false := by
  refine dupB_no _ fun i hi => ?_
  rw [manyVars_len] at hi
  rw [List.any_eq_false]
  intro x hx
  obtain ⟨j, hj, rfl⟩ := List.mem_iff_getElem.1 hx
  have hji : j < i := by simp at hj; omega
  have hg : (manyVars n).getD i default = (118 :: idL i, 1 + i % 3) := by rw [List.getD_eq_getElem?_getD, manyVars_at hi]; rfl
  have hj' : ((manyVars n).take i)[j]? = some (118 :: idL j, 1 + j % 3) := by rw [List.getElem?_take, if_pos hji, manyVars_at (by omega)]
  have hje : ((manyVars n).take i)[j] = (118 :: idL j, 1 + j % 3) := Option.some.inj ((List.getElem?_eq_getElem hj).symm.trans hj')
  rw [hje, hg]
  simp only [decide_eq_true_eq]
  intro e
  have := idL_inj j i (by simpa using e)
  omega
theorem many_wide (n : Nat) : ((manyVars n).any fun x => !wideB x.2) = false := by
  rw [List.any_eq_false]
  intro x hx
  obtain ⟨i, hi, rfl⟩ := List.mem_map.1 hx
  have : wideB (1 + i % 3) = true := by unfold wideB; rw [decide_eq_true (by omega), decide_eq_true (by omega)]; rfl
  simp [this]
theorem many_rows (n m : Nat) : ((manyT n m).rows.all (rowB (manyVars n))) = true := by
  rw [List.all_eq_true]
  intro r hr
  have : r = manyRow n := List.eq_of_mem_replicate hr
  subst this
  unfold rowB manyRow manyVars
  simp
theorem many_check (n m : Nat) (hn : n ≤ 303) : checkN (manyT n m) = if n ≤ 300 ∧ m ≤ 200 then 0 else 19 := by
  unfold checkN
  have ht : wordB (bstr (manyT n m).top) = true := by show wordB (bstr [116]) = true; decide
  have hv : (manyT n m).vars = manyVars n := rfl
  have hr : (manyT n m).rows.length = m := by simp [manyT]
  rw [ht, hv, many_words n hn, many_dup, many_wide, hr, manyVars_len, many_rows]
  simp only [Bool.not_true, Bool.or_self, Bool.false_eq_true, if_false, if_true]
  by_cases h1 : n ≤ 300
  · by_cases h2 : m ≤ 200
    · have hr1 : n ≤ 300 ∧ m ≤ 200 := ⟨h1, h2⟩
      rw [decide_eq_false (show ¬ 300 < n by omega), decide_eq_false (show ¬ 200 < m by omega), if_pos hr1]; rfl
    · have hr2 : ¬ (n ≤ 300 ∧ m ≤ 200) := fun h => h2 h.2
      rw [decide_eq_true (show 200 < m by omega), Bool.or_true, if_neg hr2]; rfl
  · have hr2 : ¬ (n ≤ 300 ∧ m ≤ 200) := fun h => h1 h.1
    rw [decide_eq_true (show 300 < n by omega), Bool.true_or, if_neg hr2]; rfl
theorem many_vals (n m : Nat) : ∀ r ∈ (manyT n m).rows, ∀ p ∈ r, p.2 < 2 ^ p.1 := by
  intro r hr p hp
  have : r = manyRow n := List.eq_of_mem_replicate hr
  subst this
  obtain ⟨i, _, rfl⟩ := List.mem_map.1 hp
  exact Nat.mod_lt _ (Nat.two_pow_pos _)
theorem lineW_len : ∀ ws : List Bs, (lineW ws).length ≤ (ws.map List.length).sum + ws.length
  | [] => by simp [lineW]
  | [w] => by simp [lineW]
  | w :: v :: r => by
    have ih := lineW_len (v :: r)
    simp only [lineW, List.length_append, List.length_cons, List.map_cons, List.sum_cons] at ih ⊢
    omega
theorem linesW_len (B : Nat) : ∀ ls : List (List Bs), (∀ l ∈ ls, (lineW l).length ≤ B) → (linesW ls).length ≤ B * ls.length
  | [], _ => by simp [linesW]
  | l :: ls, h => by
    have ih := linesW_len B ls fun x hx => h x (by simp [hx])
    have h1 := h l (by simp)
    have e : linesW (l :: ls) = lineW l ++ linesW ls := by simp [linesW]
    rw [e, List.length_append, List.length_cons, Nat.mul_succ]; omega
theorem varLines_n : ∀ (l : List (Bs × Nat)) (i : Nat), (varLines i l).length = l.length
  | [], _ => rfl
  | a :: l, i => by simp [varLines, varLines_n l (i + 1)]
theorem chLines_n : ∀ (r : List (Nat × Nat)) (i : Nat) (a : Option (List (Nat × Nat))), (chLines i a r).length ≤ r.length := by
  intro r i a
  rw [chLines_eq, List.length_map]
  induction r generalizing i a with
  | nil => simp [chL]
  | cons v r ih =>
    cases a with
    | none => simp only [chL, List.length_cons]; have := ih (i + 1) none; omega
    | some old =>
      cases old with
      | nil => simp only [chL, List.length_cons]; have := ih (i + 1) (some []); omega
      | cons u q =>
        simp only [chL, List.length_append, List.length_cons]
        have := ih (i + 1) (some q)
        split <;> simp <;> omega
theorem chLines_same : ∀ (r : List (Nat × Nat)) (i : Nat), chLines i (some r) r = []
  | [], _ => by simp [chLines]
  | v :: r, i => by simp [chLines, chLines_same r (i + 1)]
/-- a bound on the lines of a trace: B bytes each, N of them -/
theorem text_len {T : Trc} {B N : Nat} (h : ∀ l ∈ trcLines T, (lineW l).length ≤ B) (hn : (trcLines T).length ≤ N) : (trcText T).length ≤ B * N := by
  have := linesW_len B (trcLines T) h
  exact Nat.le_trans this (Nat.mul_le_mul_left B hn)
theorem itoa_len3 {n : Nat} (h : n < 1000) : (Lib.itoa (n : Int)).length ≤ 3 := by
  rw [itoa_ds, List.length_map]
  exact decDs_len n 2 h
/-- each line of a trace that may be is short -/
theorem line_bound {T : Trc} (hT : TOk T) : ∀ l ∈ trcLines T, (lineW l).length ≤ 450 := by
  have hname : ∀ s : Bs, wordB (bstr s) = true → s.length ≤ 200 := fun s h => by
    unfold wordB printedB at h
    rw [bstr_size] at h
    simp only [Bool.and_eq_true, decide_eq_true_eq] at h
    exact h.1.1.2
  have hcl : ∀ (r : List (Nat × Nat)) (i : Nat) (a : Option (List (Nat × Nat))), (∀ p ∈ r, p.1 ≤ 128) → i + r.length ≤ 300 → ∀ l ∈ chLines i a r, (lineW l).length ≤ 450 := by
    intro r i a hr hi l hl
    rw [chLines_eq] at hl
    obtain ⟨c, hc, rfl⟩ := List.mem_map.1 hl
    obtain ⟨h1, h2⟩ := chL_mem r i a c hc
    have hlt := (List.getElem?_eq_some_iff.1 h2).1
    have hw := hr _ (List.mem_of_getElem? h2)
    have hid := idL_len c.1 (by omega)
    refine Nat.le_trans (lineW_len _) ?_
    simp only [chWords, List.map_cons, List.map_nil, List.sum_cons, List.sum_nil, List.length_cons, List.length_nil, bitL_len]
    omega
  intro l hl
  simp only [trcLines, headLines, List.mem_append, List.mem_cons, List.not_mem_nil, or_false] at hl
  rcases hl with (((rfl | rfl) | hl) | rfl | rfl) | hl
  · exact of_decide_eq_true (by decide)
  · have := hname _ hT.top
    refine Nat.le_trans (lineW_len _) ?_
    simp only [List.map_cons, List.map_nil, List.sum_cons, List.sum_nil, List.length_cons, List.length_nil]
    have e1 : kScope.length = 6 := rfl
    have e2 : kModule.length = 6 := rfl
    have e3 : kEnd.length = 4 := rfl
    omega
  · obtain ⟨i, hi, rfl⟩ := List.mem_iff_getElem.1 hl
    rw [varLines_n] at hi
    have hg : ∀ (l : List (Bs × Nat)) (i0 i : Nat) (v : Bs × Nat), l[i]? = some v → (varLines i0 l)[i]? = some (varLine (i0 + i) v) := by
      intro l
      induction l with
      | nil => intro i0 i v h; simp at h
      | cons a l ih =>
        intro i0 i v h
        cases i with
        | zero => simp at h; subst h; rfl
        | succ i =>
          simp only [varLines, List.getElem?_cons_succ]
          rw [ih (i0 + 1) i v (by simpa using h), show i0 + 1 + i = i0 + (i + 1) by omega]
    have hv : T.vars[i]? = some T.vars[i] := List.getElem?_eq_getElem hi
    have he := hg T.vars 0 i _ hv
    rw [Nat.zero_add] at he
    have he2 := (List.getElem?_eq_getElem (show i < (varLines 0 T.vars).length by rw [varLines_n]; exact hi)).symm.trans he
    rw [Option.some.inj he2]
    have hn := hT.nms i _ hv
    have h1 := hname _ hn.1
    have h2 := itoa_len3 (n := T.vars[i].2) (by omega)
    have h3 := idL_len i (by have := hT.nv; omega)
    refine Nat.le_trans (lineW_len _) ?_
    simp only [varLine, List.map_cons, List.map_nil, List.sum_cons, List.sum_nil, List.length_cons, List.length_nil]
    have e1 : kVar.length = 4 := rfl
    have e2 : kWire.length = 4 := rfl
    have e3 : kEnd.length = 4 := rfl
    omega
  · exact of_decide_eq_true (by decide)
  · exact of_decide_eq_true (by decide)
  · have hrt : ∀ n, n ≤ T.rows.length → ∀ l ∈ rowsTo T.rows n, (lineW l).length ≤ 450 := by
      intro n
      induction n with
      | zero => intro _ l hl; simp [rowsTo] at hl
      | succ n ih =>
        intro hn l hl
        simp only [rowsTo, rowLines, List.mem_append, List.mem_cons] at hl
        rcases hl with hl | rfl | hl
        · exact ih (by omega) l hl
        · have h2 := itoa_len3 (n := n) (by have := hT.nr; omega)
          refine Nat.le_trans (lineW_len _) ?_
          simp only [List.map_cons, List.map_nil, List.sum_cons, List.sum_nil, List.length_cons, List.length_nil]
          omega
        · have hgr : T.rows[n]? = some (T.rows.getD n []) := by rw [List.getD_eq_getElem?_getD, List.getElem?_eq_getElem (show n < T.rows.length by omega)]; rfl
          have hrow := hT.row n _ hgr
          refine hcl _ 0 _ (fun p hp => ?_) (by rw [hrow.1]; have := hT.nv; omega) l hl
          obtain ⟨j, hj, rfl⟩ := List.mem_iff_getElem.1 hp
          have hjv : j < T.vars.length := by rw [← hrow.1]; exact hj
          have := hrow.2 j _ _ (List.getElem?_eq_getElem hj) (List.getElem?_eq_getElem hjv)
          rw [this.1]
          exact (hT.nms j _ (List.getElem?_eq_getElem hjv)).2.2
    exact hrt _ (Nat.le_refl _) l hl
theorem many_rowsTo (n : Nat) (m : Nat) : ∀ k, k ≤ m → (rowsTo (List.replicate m (manyRow n)) k).length ≤ k + n := by
  intro k
  induction k with
  | zero => intro _; simp [rowsTo]
  | succ k ih =>
    intro hk
    have hgd : ∀ j, j < m → (List.replicate m (manyRow n)).getD j [] = manyRow n := fun j hj => by simp [List.getD, hj]
    cases k with
    | zero =>
      have hc := chLines_n (manyRow n) 0 none
      have hl : (manyRow n).length = n := by simp [manyRow]
      simp only [rowsTo, rowLines, prev, List.nil_append, hgd 0 (by omega), List.length_cons]
      omega
    | succ k =>
      have ih' := ih (by omega)
      rw [rowsTo, List.length_append]
      have e : rowLines (k + 1) (prev (List.replicate m (manyRow n)) (k + 1)) ((List.replicate m (manyRow n)).getD (k + 1) []) = [[35 :: Lib.itoa ((k + 1 : Nat) : Int)]] := by
        unfold rowLines prev
        simp only [hgd (k + 1) (by omega), hgd k (by omega), chLines_same]
      rw [e]
      simp only [List.length_cons, List.length_nil]
      omega
theorem many_len (n m : Nat) (hn : n ≤ 300) (hm : m ≤ 200) : (trcText (manyT n m)).length ≤ 1000000 := by
  have hT : TOk (manyT n m) := tok_of_check (by rw [many_check n m (by omega), if_pos ⟨hn, hm⟩]) (many_vals n m)
  have hl : (trcLines (manyT n m)).length ≤ 1000 := by
    unfold trcLines headLines
    simp only [List.length_append, List.length_cons, List.length_nil, varLines_n]
    have h1 : (manyT n m).vars.length = n := manyVars_len n
    have h2 : (manyT n m).rows.length = m := by simp [manyT]
    have h3 := many_rowsTo n m m (Nat.le_refl _)
    have h4 : (rowsTo (manyT n m).rows (manyT n m).rows.length).length ≤ m + n := by rw [h2]; exact h3
    omega
  exact Nat.le_trans (text_len (line_bound hT) hl) (by decide)
end Go.Proofs.YtcdjkbgedmehjaaGreatDoor
