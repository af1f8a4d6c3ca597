import Derived.Test.YtcdjkbgedmehjaaDoorV19
namespace Go.Proofs.YtcdjkbgedmehjaaDoor
set_option linter.unusedVariables false
open Go.RowKit Go.Sort

set_option maxRecDepth 100000 in
theorem check1_any {w : World} (x : Bs × Nat) : Calls Tryd.prog 29 #[varV x] w fun e w' => e = .returned (.bool (!wordB (bstr x.1))) ∧ Below w.heap.size w w' := by
  have HB := Lib.hid (Below.new w (.cells #[.string (bstr x.1), .int .i64 x.2] 30))
  have HW := Lib.hid (fun w => word_any (bstr x.1) w)
  unfold varV
  generalize wordB (bstr x.1) = q at *
  generalize bstr x.1 = X at *
  go_enter Tryd.func29, Tryd.ntmps29
  go_wp2_with fail
  refine (HW.out _).mono ?_; rintro e w2 ⟨rfl, rfl⟩
  go_wp2_with fail
  go_ret
  exact ⟨rfl, HB.out⟩
def wideB (n : Nat) : Bool := decide (1 ≤ n) && decide (n ≤ 128)
set_option maxRecDepth 100000 in
theorem check2_any {w : World} (x : Bs × Nat) : Calls Tryd.prog 31 #[varV x] w fun e w' => e = .returned (.bool (!wideB x.2)) ∧ Below w.heap.size w w' := by
  have HB := Lib.hid (Below.new w (.cells #[.string (bstr x.1), .int .i64 x.2] 30))
  have HW : Hid (∀ w, Calls Tryd.prog 32 #[.int .i64 x.2] w fun e w' => e = .returned (.bool (wideB x.2)) ∧ w = w') := Lib.hid fun w => by
    have h := wide_any (x.2 : Int) w
    have e : (decide (1 ≤ (x.2 : Int)) && decide ((x.2 : Int) ≤ 128)) = wideB x.2 := by
      unfold wideB
      congr 1
      · exact decide_eq_decide.2 (by omega)
      · exact decide_eq_decide.2 (by omega)
    rw [e] at h
    exact h
  unfold varV
  generalize wideB x.2 = q at *
  generalize bstr x.1 = X at *
  generalize x.2 = y at *
  go_enter Tryd.func31, Tryd.ntmps31
  go_wp2_with fail
  refine (HW.out _).mono ?_; rintro e w2 ⟨rfl, rfl⟩
  go_wp2_with fail
  go_ret
  exact ⟨rfl, HB.out⟩
def dupB (l : List (Bs × Nat)) : Bool := (List.range l.length).any fun i => (l.take i).any fun x => decide (x.1 = (l.getD i default).1)
def rowB (l : List (Bs × Nat)) (r : List (Nat × Nat)) : Bool := decide (r.map Prod.fst = l.map Prod.snd)
def checkN (T : Trc) : Nat :=
  if (!wordB (bstr T.top) || T.vars.any fun x => !wordB (bstr x.1)) then 9
  else if dupB T.vars then 10
  else if T.vars.any (fun x => !wideB x.2) then 2
  else if (decide (300 < T.vars.length) || decide (200 < T.rows.length)) then 19
  else if T.rows.all (rowB T.vars) then 0 else 3
theorem dupB_to (l : List (Bs × Nat)) (i : Nat) (h : ((l.take i).any fun x => decide (x.1 = (l.getD i default).1)) = true) (hi : i < l.length) : dupB l = true :=
  List.any_eq_true.2 ⟨i, List.mem_range.2 hi, h⟩
theorem dupB_no (l : List (Bs × Nat)) (h : ∀ i, i < l.length → ((l.take i).any fun x => decide (x.1 = (l.getD i default).1)) = false) : dupB l = false := by
  unfold dupB
  rw [List.any_eq_false]
  intro i hi
  rw [h i (List.mem_range.1 hi)]; simp
theorem RO.take {w : World} {p : Option Addr} {n c k : Nat} {l : List (Bs × Nat)} (h : RO w (.slice p n c) 2 l.length (tokCells l)) (hn : l.length = n) (hk : k ≤ n) : RO w (.slice p k c) 2 (l.take k).length (tokCells (l.take k)) := by
  obtain ⟨h1, p', c', e, h3⟩ := h
  cases e
  have hl : (l.take k).length = k := by rw [List.length_take]; omega
  have htc : ∀ (l : List (Bs × Nat)), (tokCells l).length = l.length * 2 := fun l => by
    induction l with
    | nil => rfl
    | cons a l ih => show (_ :: _ :: tokCells l).length = _; simp only [List.length_cons, ih]; omega
  refine ⟨htc _, p, c, by rw [hl], fun j u hj => h3 j u ?_⟩
  have e : tokCells l = tokCells (l.take k) ++ tokCells (l.drop k) := by
    unfold tokCells
    rw [← List.flatten_append, ← List.map_append, List.take_append_drop]
  rw [e, List.getElem?_append_left (List.getElem?_eq_some_iff.1 hj).1]
  exact hj
set_option maxRecDepth 100000 in
set_option maxHeartbeats 16000000 in
theorem check_any {w : World} {tv : Value} {T : Trc} (h : TrR w tv T) (hn : (T.vars.length : Int) ≤ 3000000) (hm : (T.rows.length : Int) ≤ 3000000) (hw : ∀ r ∈ T.rows, (r.length : Int) ≤ 140737488355328) :
    Calls Tryd.prog 13 #[tv] w fun e w' => e = .returned (.int .i64 (checkN T : Nat)) ∧ Below w.heap.size w w' := by
  obtain ⟨vv, rv, rvs, ess, rfl, hvv, hrv, hel, hrows, hrow⟩ := h.ex
  obtain ⟨pv, cv, rfl⟩ := hvv.form
  obtain ⟨pr, cr, rfl⟩ := hrv.form
  have hb := Below.new w (.cells #[.string (bstr T.top), .slice pv T.vars.length cv, .slice pr rvs.length cr] 26)
  have hk := Blk.new (w := w) 26 [.string (bstr T.top), .slice pv T.vars.length cv, .slice pr rvs.length cr]
  have hrl : T.rows.length = rvs.length := by rw [hrows, List.length_map, hel]
  have HH := Lib.hid (And.intro hvv (And.intro hrv (And.intro hel (And.intro hrows (And.intro hrow (And.intro hw hrl))))))
  have H0 := Lib.hid (And.intro hb hk)
  rw [hrl] at hm
  have HW := Lib.hid (fun w => word_any (bstr T.top) w)
  have A1 : Hid (∀ w', Asks (.func (Fn.func 29) #[] #[]) (fun x => !wordB (bstr x.1)) w') := Lib.hid fun w' => ⟨_, _, rfl, fun _ _ => by kernel_rfl, fun x w'' _ => check1_any x⟩
  have A2 : Hid (∀ w', Asks (.func (Fn.func 31) #[] #[]) (fun x => !wideB x.2) w') := Lib.hid fun w' => ⟨_, _, rfl, fun _ _ => by kernel_rfl, fun x w'' _ => check2_any x⟩
  have hcapn := h.cap _ _ _ _ _ rfl
  have hn' := hn
  generalize hnv : T.vars.length = n at *
  generalize hnr : rvs.length = m at *
  clear h hvv hrv hel hrows hrow hw hrl hb hk hn'
  obtain ⟨CN, hCN⟩ : ∃ c, checkN T = c := ⟨_, rfl⟩
  rw [hCN]
  have HCN := Lib.hid hCN
  clear hCN
  have hret : ∀ k : Nat, checkN T = k → Ending.returned (Value.int .i64 (k : Int)) = .returned (.int .i64 (CN : Int)) := fun k hk => by rw [← HCN.out, hk]
  have HRet := Lib.hid hret
  clear hret
  go_enter Tryd.func13, Tryd.ntmps13
  go_upto_region 1 with fail
  generalize hTop : bstr T.top = X at *
  generalize w.alloc (.cells #[.string X, .slice pv n cv, .slice pr m cr] 26) = W at *
  have HTop := Lib.hid hTop
  clear hTop
  have HBl : Hid (∀ w', Below W.heap.size W w' → w'.cell? ⟨w.heap.size, 0, none⟩ = some (.string X) ∧ w'.cell? ⟨w.heap.size, 1, none⟩ = some (.slice pv n cv) ∧ w'.cell? ⟨w.heap.size, 2, none⟩ = some (.slice pr m cr)) := Lib.hid fun w' hb' => by
    have hk' := H0.out.2.next hb'
    exact ⟨hk'.cell (i := 0) rfl, hk'.cell (i := 1) rfl, hk'.cell (i := 2) rfl⟩
  obtain ⟨c0, c1, c2⟩ := HBl.out W (Below.refl _ _)
  have hvars : ∀ w', Below W.heap.size W w' → RO w' (.slice pv n cv) 2 T.vars.length (tokCells T.vars) := fun w' hb' => by
    have := (HH.out.1.below H0.out.1).below hb'
    rw [hnv]; exact this
  have HV := Lib.hid (And.intro hvars hnv)
  have HNr := Lib.hid hnr
  clear hvars hnv hnr
  have HC1 := Lib.hid (hasf_any (A1.out W) T.vars (HV.out.1 W (Below.refl _ _)) (by rw [HV.out.2]; exact hn))
  obtain ⟨q0, hq0⟩ : ∃ q, wordB X = q := ⟨_, rfl⟩
  obtain ⟨q1, hq1⟩ : ∃ q, (T.vars.any fun x => !wordB (bstr x.1)) = q := ⟨_, rfl⟩
  rw [hq0] at HW
  rw [hq1] at HC1
  have HQ := Lib.hid (And.intro hq0 hq1)
  clear hq0 hq1
  cases q0
  · have h9 : checkN T = 9 := by unfold checkN; rw [HTop.out, HQ.out.1]; rfl
    have H9 := Lib.hid h9
    clear h9
    go_wp2_with fail
    refine (HW.out _).mono ?_; rintro e w1 ⟨rfl, rfl⟩
    go_wp2_with fail
    go_ret
    exact ⟨HRet.out 9 H9.out, H0.out.1⟩
  cases q1
  rotate_left
  · have h9 : checkN T = 9 := by unfold checkN; rw [HTop.out, HQ.out.1, HQ.out.2]; rfl
    have H9 := Lib.hid h9
    clear h9
    go_wp2_with fail
    refine (HW.out _).mono ?_; rintro e w1 ⟨rfl, rfl⟩
    go_wp2_with fail
    refine HC1.out.mono ?_; rintro e w2 ⟨rfl, hb2⟩
    have H2 := Lib.hid (H0.out.1.trans (hb2.mono H0.out.1.size))
    clear hb2
    go_wp2_with fail
    go_ret
    exact ⟨HRet.out 9 H9.out, H2.out⟩
  have hch : checkN T = if dupB T.vars then 10 else if T.vars.any (fun x => !wideB x.2) then 2 else if (decide (300 < T.vars.length) || decide (200 < T.rows.length)) then 19 else if T.rows.all (rowB T.vars) then 0 else 3 := by
    unfold checkN
    rw [HTop.out, HQ.out.1, HQ.out.2]; rfl
  have HCh := Lib.hid hch
  clear hch
  go_wp2_with fail
  refine (HW.out _).mono ?_; rintro e w1 ⟨rfl, rfl⟩
  go_wp2_with fail
  refine HC1.out.mono ?_; rintro e w2 ⟨rfl, hb2⟩
  have H2 := Lib.hid hb2
  clear hb2 c0 c1 c2 HW HC1
  obtain ⟨c0, c1, c2⟩ := HBl.out w2 H2.out
  go_wp2_with fail
  clear c0 c1 c2
  go_loopw [20] (fun iv wr => ∃ i : Nat, i ≤ n ∧ iv = .int .i64 i ∧ (∀ j, j < i → ((T.vars.take j).any fun x => decide (x.1 = (T.vars.getD j default).1)) = false) ∧ Below W.heap.size W wr) (fun iv _ => n - (intOf iv).toNat)
  case atStart => exact ⟨0, Nat.zero_le _, rfl, fun j hj => absurd hj (Nat.not_lt_zero _), H2.out⟩
  case round =>
    obtain ⟨i, hi, rfl, hno, hbr⟩ := hrel
    have HL := Lib.hid (And.intro hno hbr)
    clear hno hbr
    by_cases hlt : i < n
    · obtain ⟨x, hx⟩ : ∃ x, T.vars[i]? = some x := ⟨_, List.getElem?_eq_getElem (by rw [HV.out.2]; exact hlt)⟩
      have hro := HV.out.1 wr HL.out.2
      obtain ⟨vb, vo, rfl⟩ := hro.sl (tokCells_at _ _ _ hx).1
      have k0 := hro.cell (tokCells_at _ _ _ hx).1
      have k1 := hro.cell (tokCells_at _ _ _ hx).2
      rw [← Nat.add_assoc] at k1
      have hxd : (T.vars.getD i default).1 = x.1 := by rw [List.getD_eq_getElem?_getD, hx]; rfl
      have hbx := Below.new wr (.cells #[.string (bstr x.1), .int .i64 x.2] 30)
      have hkx := Blk.new (w := wr) 30 [.string (bstr x.1), .int .i64 x.2]
      have hbW := Below.next HL.out.2 hbx
      have HNm : Hid (∀ s : After (wr.alloc (.cells #[.string (bstr x.1), .int .i64 x.2] 30)), Calls Tryd.prog 30 #[.slice (some ⟨vb, vo, none⟩) i cv, .string (bstr x.1)] s.val fun e w' => e = .returned (.bool ((T.vars.take i).any fun y => decide (y.1 = x.1))) ∧ Below s.val.heap.size s.val w') := Lib.hid fun s =>
        named_any (T.vars.take i) x.1 (((HV.out.1 wr HL.out.2).below hbx).below s.below |>.take HV.out.2 (Nat.le_of_lt hlt)) (by rw [List.length_take]; have := HV.out.2; omega)
      obtain ⟨q, hq⟩ : ∃ q, ((T.vars.take i).any fun y => decide (y.1 = x.1)) = q := ⟨_, rfl⟩
      rw [hq] at HNm
      have q1 : (wr.alloc (.cells #[.string (bstr x.1), .int .i64 x.2] 30)).cell? ⟨w.heap.size, 1, none⟩ = some (.slice (some ⟨vb, vo, none⟩) n cv) := (HBl.out _ hbW).2.1
      have q2 := hkx.cell (i := 0) rfl
      have a1 := After.cell q1
      have a2 := After.cell q2
      have HX := Lib.hid (And.intro hlt (And.intro (show ((T.vars.take i).any fun y => decide (y.1 = (T.vars.getD i default).1)) = q by rw [hxd]; exact hq) hbW))
      have hii : (i : Int) < n := by omega
      have hi0 : (0 : Int) ≤ i := by omega
      have hic : (i : Int) ≤ cv := by omega
      have hiw : IntKind.i64.wrap ((i : Int) + 1) = (i : Int) + 1 := i64_of (by omega)
      obtain ⟨c0, c1, c2⟩ := HBl.out wr HL.out.2
      clear hro hx hxd hbx hkx hbW hq q1 q2 hlt hi
      go_upto_region 6 with fail
      clear k0 k1 c0 c1 c2
      generalize wr.alloc (.cells #[.string (bstr x.1), .int .i64 x.2] 30) = W5 at *
      refine wp_region_after (by kernel_rfl) (by kernel_rfl) ?_
      repeat (go_big_quiet_step ((first | (with_reducible exact Calls.after_of (HNm.out _)))))
      refine wpQuiet_nil ?_
      rintro _ ⟨s, rfl⟩
      have HS := Lib.hid (HX.out.2.2.trans (s.below.mono HX.out.2.2.size))
      generalize s.val = w6 at *
      clear a1 a2 HNm
      cases q
      · go_wp2_with fail
        go_roundw
        case rel => exact ⟨i + 1, HX.out.1, by go_num, fun j hj => by
          by_cases e : j = i
          · subst e; exact HX.out.2.1
          · exact HL.out.1 j (by omega), HS.out⟩
        case measure => have := HX.out.1; simp [intOf]; omega
      · have h10 : checkN T = 10 := by
          rw [HCh.out, dupB_to T.vars i HX.out.2.1 (by rw [HV.out.2]; exact HX.out.1)]; rfl
        have H10 := Lib.hid h10
        clear h10
        go_wp2_with fail
        go_ret
        exact ⟨HRet.out 10 H10.out, H0.out.1.trans (HS.out.mono H0.out.1.size)⟩
    · obtain rfl : i = n := by omega
      have hdup := dupB_no T.vars (fun j hj => HL.out.1 j (by rw [HV.out.2] at hj; exact hj))
      have hch2 := HCh.out
      rw [hdup] at hch2
      simp only [Bool.false_eq_true, if_false] at hch2
      have HCh2 := Lib.hid hch2
      clear hdup hch2 hlt hi
      obtain ⟨c0, c1, c2⟩ := HBl.out wr HL.out.2
      have HC2 := Lib.hid (hasf_any (A2.out wr) T.vars (HV.out.1 wr HL.out.2) (by rw [HV.out.2]; exact hn))
      obtain ⟨q2, hq2⟩ : ∃ q, (T.vars.any fun x => !wideB x.2) = q := ⟨_, rfl⟩
      rw [hq2] at HC2 HCh2
      clear hq2
      go_wp2_with fail
      refine HC2.out.mono ?_; rintro e w7 ⟨rfl, hb7⟩
      have H7 := Lib.hid (HL.out.2.trans (hb7.mono HL.out.2.size))
      clear hb7 c0 c1 c2 HC2
      cases q2
      rotate_left
      · have h2 : checkN T = 2 := by rw [HCh2.out]; rfl
        have H2' := Lib.hid h2
        clear h2
        go_wp2_with fail
        go_ret
        exact ⟨HRet.out 2 H2'.out, H0.out.1.trans (H7.out.mono H0.out.1.size)⟩
      have hch3 := HCh2.out
      simp only [Bool.false_eq_true, if_false] at hch3
      rw [HV.out.2, HH.out.2.2.2.2.2.2] at hch3
      have HCh3 := Lib.hid hch3
      clear hch3
      obtain ⟨c0, c1, c2⟩ := HBl.out w7 H7.out
      have hch4 := HCh3.out
      obtain ⟨c1', hc1'⟩ : ∃ c, c = c1 := ⟨_, rfl⟩
      clear hc1' c1'
      by_cases h300 : (300 : Int) < i
      · have h19 : checkN T = 19 := by rw [HCh3.out, decide_eq_true (show 300 < i by omega)]; rfl
        have H19 := Lib.hid h19
        clear h19 hch4
        go_wp2_with fail
        go_ret
        exact ⟨HRet.out 19 H19.out, H0.out.1.trans (H7.out.mono H0.out.1.size)⟩
      by_cases h200 : (200 : Int) < m
      · have h19 : checkN T = 19 := by rw [HCh3.out, decide_eq_true (show 200 < m by omega), Bool.or_true]; rfl
        have H19 := Lib.hid h19
        clear h19 hch4
        go_wp2_with fail
        go_ret
        exact ⟨HRet.out 19 H19.out, H0.out.1.trans (H7.out.mono H0.out.1.size)⟩
      rw [decide_eq_false (show ¬ 300 < i by omega), decide_eq_false (show ¬ 200 < m by omega)] at hch4
      simp only [Bool.or_self, Bool.false_eq_true, if_false] at hch4
      have HCh4 := Lib.hid hch4
      clear hch4
      go_wp2_with fail
      clear c0 c1 c2
      go_loopw [51] (fun kv wr => ∃ k : Nat, k ≤ m ∧ kv = .int .i64 k ∧ (T.rows.take k).all (rowB T.vars) = true ∧ Below W.heap.size W wr) (fun kv _ => m - (intOf kv).toNat)
      case atStart => exact ⟨0, Nat.zero_le _, rfl, rfl, H7.out⟩
      case round =>
        obtain ⟨k, hk, rfl, hall, hbr⟩ := hrel
        have HR := Lib.hid (And.intro hall hbr)
        clear hall hbr
        by_cases hlt : k < m
        · obtain ⟨rvk, hrvk⟩ : ∃ v, rvs[k]? = some v := ⟨_, List.getElem?_eq_getElem (by rw [HNr.out]; exact hlt)⟩
          obtain ⟨es, hes⟩ : ∃ es, ess[k]? = some es := ⟨_, List.getElem?_eq_getElem (by rw [HH.out.2.2.1]; exact hlt)⟩
          have hrow := HH.out.2.2.2.2.1 k rvk es hrvk hes
          have hTk : T.rows[k]? = some (es.map fun e => (e.w, e.x)) := by rw [HH.out.2.2.2.1, List.getElem?_map, hes]; rfl
          obtain ⟨pk, ck, rfl⟩ := hrow.1.form
          have hrr := (HH.out.2.1.below H0.out.1).below HR.out.2
          obtain ⟨rb, ro, rfl⟩ := hrr.sl hrvk
          have k0 := hrr.cell hrvk
          have hfit : fitsB T.vars es = rowB T.vars (es.map fun e => (e.w, e.x)) := by
            unfold fitsB rowB
            rw [List.map_map]; rfl
          have hesl : (es.length : Int) ≤ 140737488355328 := by have := HH.out.2.2.2.2.2.1 _ (List.mem_of_getElem? hTk); simpa using this
          have HE := Lib.hid (eqf_any T.vars es (HV.out.1 wr HR.out.2) ((hrow.1.below H0.out.1).below HR.out.2) (fun e he => ((hrow.2 e he).below H0.out.1).below HR.out.2) (by rw [HV.out.2]; exact hn) hesl)
          rw [hfit] at HE
          obtain ⟨q, hq⟩ : ∃ q, rowB T.vars (es.map fun e => (e.w, e.x)) = q := ⟨_, rfl⟩
          rw [hq] at HE
          have hsn : (T.rows.take (k + 1)).all (rowB T.vars) = q := by
            rw [List.take_add_one, hTk]; simp [List.all_append, HR.out.1, hq]
          have hbad : q = false → T.rows.all (rowB T.vars) = false := fun h => by
            rw [List.all_eq_false]
            exact ⟨_, List.mem_of_getElem? hTk, by rw [hq, h]; simp⟩
          have HX := Lib.hid (And.intro hlt (And.intro hsn hbad))
          have hki : (k : Int) < m := by omega
          have hk0 : (0 : Int) ≤ k := by omega
          have hkw : IntKind.i64.wrap ((k : Int) + 1) = (k : Int) + 1 := i64_of (by omega)
          obtain ⟨c0, c1, c2⟩ := HBl.out wr HR.out.2
          generalize hel : es.length = el at *
          clear hrvk hes hrow hTk hrr hfit hesl hq hsn hbad hlt hk hel
          go_wp2_with fail
          refine HE.out.mono ?_; rintro e w9 ⟨rfl, hb9⟩
          have H9 := Lib.hid (HR.out.2.trans (hb9.mono HR.out.2.size))
          clear hb9 k0 c0 c1 c2 HE
          cases q
          · have h3 : checkN T = 3 := by rw [HCh4.out, HX.out.2.2 rfl]; rfl
            have H3 := Lib.hid h3
            clear h3
            go_wp2_with fail
            go_ret
            exact ⟨HRet.out 3 H3.out, H0.out.1.trans (H9.out.mono H0.out.1.size)⟩
          · go_wp2_with fail
            go_roundw
            case rel => exact ⟨k + 1, HX.out.1, by go_num, HX.out.2.1, H9.out⟩
            case measure => have := HX.out.1; simp [intOf]; omega
        · obtain rfl : k = m := by omega
          clear hlt hk
          have h0 : checkN T = 0 := by
            have h := HR.out.1
            rw [List.take_of_length_le (by rw [HH.out.2.2.2.2.2.2]; exact Nat.le_refl _)] at h
            rw [HCh4.out, h]; rfl
          have H0' := Lib.hid h0
          clear h0
          go_wp2_with fail
          go_ret
          exact ⟨HRet.out 0 H0'.out, H0.out.1.trans (HR.out.2.mono H0.out.1.size)⟩
end Go.Proofs.YtcdjkbgedmehjaaDoor
