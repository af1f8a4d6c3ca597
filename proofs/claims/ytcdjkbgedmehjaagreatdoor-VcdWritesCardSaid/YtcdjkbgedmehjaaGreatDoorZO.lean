/- Texts of this claim, one behind another: W9. They state lemmas; each names its own conditions. -/
import Derived.Test.YtcdjkbgedmehjaaGreatDoorZN
namespace Go.Proofs.YtcdjkbgedmehjaaGreatDoor
set_option linter.unusedVariables false
open Go.RowKit Go.Sort

/-! # widths that are any integers: Check, and Write at a bad trace -/
/-! # is there a Var that ..? -/
def varI (x : Bs × Int) : Value := .agg #[.string (bstr x.1), .int .i64 x.2]
/-- a function value that answers P and changes nothing old -/
def AsksI (f : Value) (P : Bs × Int → Bool) (w : World) : Prop := ∃ k bs, f = .func (Fn.func k) #[] bs ∧ (∀ args w, Sem.run Tryz.prog (callFunc k args) w = .ok (.enter k args) w) ∧ ∀ x w', Below w.heap.size w w' → Calls Tryz.prog k (#[varI x] ++ bs) w' fun e w'' => e = .returned (.bool (P x)) ∧ Below w'.heap.size w' w''
set_option maxRecDepth 100000 in
set_option maxHeartbeats 2000000 in
theorem idxf_anyI {w : World} {f : Value} {P : Bs × Int → Bool} (hf : AsksI f P w) (l : List (Bs × Int)) {v : Value} (hr : RO w v 2 l.length (icells l)) (hn : (l.length : Int) ≤ 3000000) :
    Calls Tryz.prog 54 #[v, f] w fun e w' => ∃ r : Int, e = .returned (.int .i64 r) ∧ (0 ≤ r ↔ l.any P = true) ∧ Below w.heap.size w w' := by
  obtain ⟨p, c, rfl⟩ := hr.form
  obtain ⟨fk, bs, rfl, hE, hC⟩ := hf
  obtain ⟨n, hnn⟩ : ∃ n, l.length = n := ⟨_, rfl⟩
  have H := Lib.hid (And.intro hr (And.intro hC hE))
  have HN := Lib.hid hnn
  rw [hnn] at H hn ⊢
  clear hr hC hE hnn
  go_enter Tryz.func54, Tryz.ntmps54
  go_wp2_with fail
  go_loopw [8] (fun i wr => ∃ k : Nat, k ≤ n ∧ i = .int .i64 k ∧ (l.take k).any P = false ∧ Below w.heap.size w wr) (fun i _ => n - (intOf i).toNat)
  case atStart => exact ⟨0, Nat.zero_le _, rfl, by simp, Below.refl _ _⟩
  case round =>
    obtain ⟨k, hk, rfl, hno, hbel⟩ := hrel
    have HR := Lib.hid (And.intro hno hbel)
    clear hno hbel
    by_cases hlt : k < n
    · obtain ⟨x, hx⟩ : ∃ x, l[k]? = some x := ⟨_, List.getElem?_eq_getElem (by rw [HN.out]; exact hlt)⟩
      have hro := H.out.1.below HR.out.2
      obtain ⟨bb, o, rfl⟩ := hro.sl (icells_at _ _ _ hx).1
      have h0 := hro.cell (icells_at _ _ _ hx).1
      have h1 := hro.cell (icells_at _ _ _ hx).2
      rw [← Nat.add_assoc] at h1
      have HC := Lib.hid (H.out.2.1 x wr HR.out.2)
      have hsn : (l.take (k + 1)).any P = P x := by
        rw [List.take_add_one, hx]; simp [HR.out.1]
      have hmem : P x = true → l.any P = true := fun hp => List.any_eq_true.2 ⟨x, List.mem_of_getElem? hx, hp⟩
      obtain ⟨q, hq⟩ : ∃ q, P x = q := ⟨_, rfl⟩
      rw [hq] at HC hsn hmem
      have HS := Lib.hid (And.intro hsn hmem)
      have hwr : IntKind.i64.wrap ((k : Int) + 1) = (k : Int) + 1 := i64_of (by omega)
      obtain ⟨X, Y⟩ := x
      unfold varI at HC
      simp only at h0 h1 HC
      generalize bstr X = X' at *
      clear hro hx hsn hmem hq
      go_wp2_with fail
      rw [H.out.2.2, Oper.upon_enter]
      refine HC.out.mono ?_; rintro e w2 ⟨rfl, hb2⟩
      have HB := Lib.hid (HR.out.2.trans (hb2.mono HR.out.2.size))
      clear hb2 h0 h1
      cases q
      · go_wp2_with fail
        go_roundw
        case rel => exact ⟨k + 1, by omega, by go_num, HS.out.1, HB.out⟩
        case measure => simp [intOf]; omega
      · go_wp2_with fail
        go_ret
        exact ⟨k, rfl, ⟨fun _ => HS.out.2 (by simp), fun _ => by omega⟩, HB.out⟩
    · obtain rfl : k = n := by omega
      clear hlt
      go_wp2_with fail
      go_ret
      have e := HR.out.1
      rw [← HN.out, List.take_length] at e
      exact ⟨-1, rfl, ⟨fun h => by omega, fun h => by rw [e] at h; cases h⟩, HR.out.2⟩
theorem hasf_anyI {w : World} {f : Value} {P : Bs × Int → Bool} (hf : AsksI f P w) (l : List (Bs × Int)) {v : Value} (hr : RO w v 2 l.length (icells l)) (hn : (l.length : Int) ≤ 3000000) :
    Calls Tryz.prog 26 #[v, f] w fun e w' => e = .returned (.bool (l.any P)) ∧ Below w.heap.size w w' := by
  have HI := Lib.hid (idxf_anyI hf l hr hn)
  clear hf hr hn
  obtain ⟨q, hq⟩ : ∃ q, l.any P = q := ⟨_, rfl⟩
  rw [hq] at HI ⊢
  clear hq
  go_enter Tryz.func26, Tryz.ntmps26
  go_wp2_with fail
  refine HI.out.mono ?_; rintro e w2 ⟨r, rfl, hf, hb2⟩
  have HF := Lib.hid (And.intro hf hb2)
  clear hf hb2
  go_wp2_with fail
  go_ret
  exact ⟨congrArg (fun b => Ending.returned (Value.bool b)) (by rw [Bool.eq_iff_iff, ← HF.out.1]; simp), HF.out.2⟩
set_option maxRecDepth 100000 in
theorem named1_anyI {w : World} {g : Nat} {nm : Bs} (hb : Blk w g 9 [.string (bstr nm)]) (x : Bs × Int) :
    Calls Tryz.prog 55 #[varI x, .pointer (some ⟨g, 0, none⟩)] w fun e w' => e = .returned (.bool (decide (x.1 = nm))) ∧ Below w.heap.size w w' := by
  have hB := Below.new w (.cells #[.string (bstr x.1), .int .i64 x.2] 51)
  have k0 := (hb.next hB).cell (i := 0) rfl
  have HB := Lib.hid hB
  have HE := Lib.hid (str_eq x.1 nm)
  clear hb hB
  unfold varI
  generalize bstr x.1 = X at *
  generalize bstr nm = Y at *
  go_enter Tryz.func55, Tryz.ntmps55
  go_wp2_with fail
  go_ret
  exact ⟨congrArg (fun b => Ending.returned (Value.bool b)) HE.out, HB.out⟩
theorem named_anyI {w : World} {v : Value} (l : List (Bs × Int)) (nm : Bs) (hr : RO w v 2 l.length (icells l)) (hn : (l.length : Int) ≤ 3000000) :
    Calls Tryz.prog 28 #[v, .string (bstr nm)] w fun e w' => e = .returned (.bool (l.any fun x => decide (x.1 = nm))) ∧ Below w.heap.size w w' := by
  have hB := Below.new w (.cells #[.string (bstr nm)] 9)
  have hk : Blk (w.alloc (.cells #[.string (bstr nm)] 9)) w.heap.size 9 [.string (bstr nm)] := Blk.new _ _
  have hA : AsksI (.func (Fn.func 55) #[] #[.pointer (some ⟨w.heap.size, 0, none⟩)]) (fun x => decide (x.1 = nm)) (w.alloc (.cells #[.string (bstr nm)] 9)) :=
    ⟨_, _, rfl, fun _ _ => by kernel_rfl, fun x w' hb => named1_anyI (hk.next hb) x⟩
  have HC := Lib.hid (hasf_anyI hA l (hr.below hB) hn)
  have HB := Lib.hid hB
  obtain ⟨p, c, rfl⟩ := hr.form
  clear hB hk hA hr hn
  generalize (l.any fun x => decide (x.1 = nm)) = q at *
  generalize l.length = n at *
  generalize bstr nm = Y at *
  go_enter Tryz.func28, Tryz.ntmps28
  go_wp2_with fail
  refine HC.out.mono ?_; rintro e w2 ⟨rfl, hb2⟩
  have HF := Lib.hid (HB.out.trans (hb2.mono HB.out.size))
  clear hb2
  go_wp2_with fail
  go_ret
  exact ⟨rfl, HF.out⟩
/-! # Check -/
set_option maxRecDepth 100000 in
set_option maxHeartbeats 4000000 in
theorem fits_anyI {w : World} (x : Bs × Int) (e : VecE) (hv : VR w (vecV e) e.w e.x) : Calls Tryz.prog 31 #[varI x, vecV e] w fun r w' => r = .returned (.bool (decide (x.2 = (e.w : Int)))) ∧ Below w.heap.size w w' := by
  have HW : Hid (∀ w', Below w.heap.size w w' → Calls Tryz.prog 32 #[vecV e] w' fun r w'' => r = .returned (.int .i64 e.w) ∧ Below w'.heap.size w' w'') := Lib.hid fun w' hb => width_any (hv.below hb)
  obtain ⟨nm, wd⟩ := x
  obtain ⟨n, p, c, y⟩ := e
  unfold varI vecV at *
  simp only at HW ⊢
  generalize bstr nm = X at *
  have hq : (wd == (n : Int)) = decide (wd = (n : Int)) := by
    by_cases h : wd = (n : Int)
    · subst h; simp
    · rw [decide_eq_false h, beq_eq_false_iff_ne]; exact h
  have HQ := Lib.hid hq
  clear hq hv
  go_enter Tryz.func31, Tryz.ntmps31
  go_upto_region 1 with fail
  have k0 := (Blk.new (w := w) 51 [.string X, .int .i64 wd]).alloc (.cells #[.int .i64 n, .slice p (wcount n) c] 46)
  have k1 := Blk.new (w := w.alloc (.cells #[.string X, .int .i64 wd] 51)) 46 [.int .i64 n, .slice p (wcount n) c]
  have hb3 : Below w.heap.size w ((w.alloc (.cells #[.string X, .int .i64 wd] 51)).alloc (.cells #[.int .i64 n, .slice p (wcount n) c] 46)) := (Below.new _ _).alloc (by simp) _
  simp only [World.size_alloc] at k1
  generalize (w.alloc (.cells #[.string X, .int .i64 wd] 51)).alloc (.cells #[.int .i64 n, .slice p (wcount n) c] 46) = W at *
  have a1 := After.cell (k0.cell (i := 1) rfl)
  have b0 := After.cell (k1.cell (i := 0) rfl)
  have b1 := After.cell (k1.cell (i := 1) rfl)
  have HWs : Hid (∀ s : After W, Calls Tryz.prog 32 #[.agg #[.int .i64 n, .slice p (wcount n) c]] s.val fun r w' => r = .returned (.int .i64 n) ∧ Below s.val.heap.size s.val w') := Lib.hid fun s => HW.out _ (hb3.trans (s.below.mono hb3.size))
  have H3 := Lib.hid hb3
  clear k0 k1 hb3 HW
  refine wp_region_after (by kernel_rfl) (by kernel_rfl) ?_
  repeat (go_big_quiet_step ((first | (with_reducible exact Calls.after_of (HWs.out _)))))
  refine wpQuiet_nil ?_
  rintro _ ⟨s, rfl⟩
  have HS := Lib.hid (H3.out.trans (s.below.mono H3.out.size))
  generalize s.val = w1 at *
  clear a1 b0 b1 HWs
  go_wp2_with fail
  go_ret
  exact ⟨congrArg (fun b => Ending.returned (Value.bool b)) HQ.out, HS.out⟩
def fitsI (l : List (Bs × Int)) (es : List VecE) : Bool := decide (es.map (fun e => (e.w : Int)) = l.map Prod.snd)
set_option maxRecDepth 100000 in
set_option maxHeartbeats 8000000 in
theorem eqf_anyI {w : World} (l : List (Bs × Int)) (es : List VecE) {v u : Value} (hl : RO w v 2 l.length (icells l)) (he : RO w u 2 es.length (rowCells es)) (hv : ∀ e ∈ es, VR w (vecV e) e.w e.x) (hn : (l.length : Int) ≤ 3000000) (hm : (es.length : Int) ≤ 140737488355328) :
    Calls Tryz.prog 33 #[v, u, .func (Fn.func 31) #[] #[]] w fun r w' => r = .returned (.bool (fitsI l es)) ∧ Below w.heap.size w w' := by
  obtain ⟨p, c, rfl⟩ := hl.form
  obtain ⟨p', c', rfl⟩ := he.form
  by_cases hlen : l.length = es.length
  · obtain ⟨n, hnn⟩ : ∃ n, l.length = n := ⟨_, rfl⟩
    have hmm : es.length = n := by omega
    have HH := Lib.hid (And.intro hl (And.intro he (And.intro hv (And.intro hnn hmm))))
    rw [hnn] at hn ⊢
    rw [hmm] at hm ⊢
    clear hl he hv hlen hnn hmm
    go_enter Tryz.func33, Tryz.ntmps33
    go_wp2_with fail
    go_loopw [17] (fun iv wr => ∃ i : Nat, i ≤ n ∧ iv = .int .i64 i ∧ (es.take i).map (fun e => (e.w : Int)) = (l.take i).map Prod.snd ∧ Below w.heap.size w wr) (fun iv _ => n - (intOf iv).toNat)
    case atStart => exact ⟨0, Nat.zero_le _, rfl, rfl, Below.refl _ _⟩
    case round =>
      obtain ⟨i, hi, rfl, heq, hb⟩ := hrel
      have HL := Lib.hid (And.intro heq hb)
      clear heq hb
      by_cases hlt : i < n
      · obtain ⟨x, hx⟩ : ∃ x, l[i]? = some x := ⟨_, List.getElem?_eq_getElem (by rw [HH.out.2.2.2.1]; exact hlt)⟩
        obtain ⟨e, hee⟩ : ∃ e, es[i]? = some e := ⟨_, List.getElem?_eq_getElem (by rw [HH.out.2.2.2.2]; exact hlt)⟩
        have hl' := HH.out.1.below HL.out.2
        have he' := HH.out.2.1.below HL.out.2
        obtain ⟨vb, vo, rfl⟩ := hl'.sl (icells_at _ _ _ hx).1
        obtain ⟨eb, eo, rfl⟩ := he'.sl (rowCells_at _ _ _ hee).1
        have k0 := hl'.cell (icells_at _ _ _ hx).1
        have k1 := hl'.cell (icells_at _ _ _ hx).2
        have m0 := he'.cell (rowCells_at _ _ _ hee).1
        have m1 := he'.cell (rowCells_at _ _ _ hee).2
        rw [← Nat.add_assoc] at k1 m1
        have hve := (HH.out.2.2.1 e (List.mem_of_getElem? hee)).below HL.out.2
        have hbx := Below.next (Below.new wr (.cells #[.string (bstr x.1), .int .i64 x.2] 51)) (Below.new (wr.alloc (.cells #[.string (bstr x.1), .int .i64 x.2] 51)) (.cells #[.int .i64 e.w, .slice e.p (wcount e.w) e.c] 46))
        have HF := Lib.hid (fits_anyI x e (hve.below hbx))
        have hsn : (es.take (i + 1)).map (fun e => (e.w : Int)) = (l.take (i + 1)).map Prod.snd ↔ x.2 = (e.w : Int) := by
          rw [List.take_add_one, List.take_add_one, hx, hee, List.map_append, List.map_append, HL.out.1, List.append_cancel_left_eq]
          simp
          exact eq_comm
        have hall : ¬ x.2 = (e.w : Int) → fitsI l es = false := fun h => decide_eq_false fun h' => h (by
          have h1 : (es.map (fun e => (e.w : Int)))[i]? = (l.map Prod.snd)[i]? := by rw [h']
          rw [List.getElem?_map, List.getElem?_map, hx, hee] at h1
          simpa using h1.symm)
        have HX := Lib.hid (And.intro hlt (And.intro hsn (And.intro hall (HL.out.2.trans (hbx.mono HL.out.2.size)))))
        obtain ⟨nm, wd⟩ := x
        obtain ⟨en, ep, ec, ex⟩ := e
        unfold varI vecV at HF
        simp only at k0 k1 m0 m1 HF HX
        generalize bstr nm = X at *
        have hii : (i : Int) < n := by omega
        have hi0 : (0 : Int) ≤ i := by omega
        have hiw : IntKind.i64.wrap ((i : Int) + 1) = (i : Int) + 1 := i64_of (by omega)
        obtain ⟨q, hq⟩ : ∃ q, decide (wd = (en : Int)) = q := ⟨_, rfl⟩
        rw [hq] at HF
        have HQ := Lib.hid hq
        have m0' := ((Below.new wr (.cells #[.string X, .int .i64 wd] 51)).cell (World.block_lt_of_cell? _ _ m0)).trans m0
        have m1' := ((Below.new wr (.cells #[.string X, .int .i64 wd] 51)).cell (World.block_lt_of_cell? _ _ m1)).trans m1
        clear hl' he' hve hbx hx hee hsn hall hlt hi hq
        go_wp2_with fail
        refine HF.out.mono ?_; rintro r w2 ⟨rfl, hb2⟩
        have H2 := Lib.hid (HX.out.2.2.2.trans (hb2.mono HX.out.2.2.2.size))
        clear hb2 k0 k1 m0 m1 m0' m1'
        cases q
        · go_wp2_with fail
          go_ret
          exact ⟨by rw [HX.out.2.2.1 (of_decide_eq_false HQ.out)]; rfl, H2.out⟩
        · go_wp2_with fail
          go_roundw
          case rel => exact ⟨i + 1, HX.out.1, by go_num, HX.out.2.1.2 (of_decide_eq_true HQ.out), H2.out⟩
          case measure => have := HX.out.1; simp [intOf]; omega
      · obtain rfl : i = n := by omega
        clear hlt hi
        have hf : fitsI l es = true := decide_eq_true (by
          have h := HL.out.1
          rw [List.take_of_length_le (by rw [HH.out.2.2.2.2]; exact Nat.le_refl _), List.take_of_length_le (by rw [HH.out.2.2.2.1]; exact Nat.le_refl _)] at h
          exact h)
        have HF := Lib.hid hf
        clear hf
        go_wp2_with fail
        go_ret
        exact ⟨by rw [HF.out]; rfl, HL.out.2⟩
  · have hf : fitsI l es = false := decide_eq_false fun h => hlen (by have := congrArg List.length h; simpa using this.symm)
    rw [hf]
    have hne : ¬ (l.length : Int) = es.length := by omega
    have hneb : ((l.length : Int) != (es.length : Int)) = true := by simpa using hne
    generalize l.length = a at *
    generalize es.length = b at *
    clear hl he hv hf
    go_enter Tryz.func33, Tryz.ntmps33
    go_wp2_with fail
    go_ret
    exact ⟨rfl, Below.refl _ _⟩
set_option maxRecDepth 100000 in
theorem check1_anyI {w : World} (x : Bs × Int) : Calls Tryz.prog 27 #[varI x] w fun e w' => e = .returned (.bool (!wordB (bstr x.1))) ∧ Below w.heap.size w w' := by
  have HB := Lib.hid (Below.new w (.cells #[.string (bstr x.1), .int .i64 x.2] 51))
  have HW := Lib.hid (fun w => word_any (bstr x.1) w)
  unfold varI
  generalize wordB (bstr x.1) = q at *
  generalize bstr x.1 = X at *
  go_enter Tryz.func27, Tryz.ntmps27
  go_wp2_with fail
  refine (HW.out _).mono ?_; rintro e w2 ⟨rfl, rfl⟩
  go_wp2_with fail
  go_ret
  exact ⟨rfl, HB.out⟩
set_option maxRecDepth 100000 in
theorem check2_anyI {w : World} (x : Bs × Int) : Calls Tryz.prog 29 #[varI x] w fun e w' => e = .returned (.bool (!wideI x.2)) ∧ Below w.heap.size w w' := by
  have HB := Lib.hid (Below.new w (.cells #[.string (bstr x.1), .int .i64 x.2] 51))
  have HW := Lib.hid (fun w => wide_any x.2 w)
  unfold varI
  unfold wideI
  generalize (decide (1 ≤ x.2) && decide (x.2 ≤ 128)) = q at *
  generalize bstr x.1 = X at *
  generalize x.2 = y at *
  go_enter Tryz.func29, Tryz.ntmps29
  go_wp2_with fail
  refine (HW.out _).mono ?_; rintro e w2 ⟨rfl, rfl⟩
  go_wp2_with fail
  go_ret
  exact ⟨rfl, HB.out⟩
def rowP (l : List (Bs × Int)) (r : List (Nat × Nat)) : Bool := decide (r.map (fun p => (p.1 : Int)) = l.map Prod.snd)
def checkT (T : TrcI) : Nat :=
  if (!wordB (bstr T.top) || T.vars.any fun x => !wordB (bstr x.1)) then 9
  else if dupI T.vars then 10
  else if T.vars.any (fun x => !wideI x.2) then 2
  else if (decide (300 < T.vars.length) || decide (200 < T.rows.length)) then 19
  else if T.rows.all (rowP T.vars) then 0 else 3
theorem checkT_I (T : TrcI) : checkT T = checkI T.top T.vars (T.rows.map fun r => r.map Prod.fst) := by
  have e : (T.rows.map fun r => r.map Prod.fst).all (rowI T.vars) = T.rows.all (rowP T.vars) := by
    rw [List.all_map]
    congr 1
    funext r
    simp only [Function.comp, rowI, rowP, List.map_map]
    rfl
  unfold checkT checkI
  rw [e, List.length_map]
theorem dupB_toI (l : List (Bs × Int)) (i : Nat) (h : ((l.take i).any fun x => decide (x.1 = (l.getD i default).1)) = true) (hi : i < l.length) : dupI l = true :=
  List.any_eq_true.2 ⟨i, List.mem_range.2 hi, h⟩
theorem dupB_noI (l : List (Bs × Int)) (h : ∀ i, i < l.length → ((l.take i).any fun x => decide (x.1 = (l.getD i default).1)) = false) : dupI l = false := by
  unfold dupI
  rw [List.any_eq_false]
  intro i hi
  rw [h i (List.mem_range.1 hi)]; simp
theorem RO.takeI {w : World} {p : Option Addr} {n c k : Nat} {l : List (Bs × Int)} (h : RO w (.slice p n c) 2 l.length (icells l)) (hn : l.length = n) (hk : k ≤ n) : RO w (.slice p k c) 2 (l.take k).length (icells (l.take k)) := by
  obtain ⟨h1, p', c', e, h3⟩ := h
  cases e
  have hl : (l.take k).length = k := by rw [List.length_take]; omega
  have htc : ∀ (l : List (Bs × Int)), (icells l).length = l.length * 2 := fun l => by
    induction l with
    | nil => rfl
    | cons a l ih => show (_ :: _ :: icells l).length = _; simp only [List.length_cons, ih]; omega
  refine ⟨htc _, p, c, by rw [hl], fun j u hj => h3 j u ?_⟩
  have e : icells l = icells (l.take k) ++ icells (l.drop k) := by
    unfold icells
    rw [← List.flatten_append, ← List.map_append, List.take_append_drop]
  rw [e, List.getElem?_append_left (List.getElem?_eq_some_iff.1 hj).1]
  exact hj
set_option maxRecDepth 100000 in
set_option maxHeartbeats 16000000 in
theorem check_anyI {w : World} {tv : Value} {T : TrcI} (h : TrI w tv T) (hn : (T.vars.length : Int) ≤ 3000000) (hm : (T.rows.length : Int) ≤ 3000000) (hw : ∀ r ∈ T.rows, (r.length : Int) ≤ 140737488355328) :
    Calls Tryz.prog 9 #[tv] w fun e w' => e = .returned (.int .i64 (checkT T : Nat)) ∧ Below w.heap.size w w' := by
  obtain ⟨vv, rv, rvs, ess, rfl, hvv, hrv, hel, hrows, hrow⟩ := h.ex
  obtain ⟨pv, cv, rfl⟩ := hvv.form
  obtain ⟨pr, cr, rfl⟩ := hrv.form
  have hb := Below.new w (.cells #[.string (bstr T.top), .slice pv T.vars.length cv, .slice pr rvs.length cr] 31)
  have hk := Blk.new (w := w) 31 [.string (bstr T.top), .slice pv T.vars.length cv, .slice pr rvs.length cr]
  have hrl : T.rows.length = rvs.length := by rw [hrows, List.length_map, hel]
  have HH := Lib.hid (And.intro hvv (And.intro hrv (And.intro hel (And.intro hrows (And.intro hrow (And.intro hw hrl))))))
  have H0 := Lib.hid (And.intro hb hk)
  rw [hrl] at hm
  have HW := Lib.hid (fun w => word_any (bstr T.top) w)
  have A1 : Hid (∀ w', AsksI (.func (Fn.func 27) #[] #[]) (fun x => !wordB (bstr x.1)) w') := Lib.hid fun w' => ⟨_, _, rfl, fun _ _ => by kernel_rfl, fun x w'' _ => check1_anyI x⟩
  have A2 : Hid (∀ w', AsksI (.func (Fn.func 29) #[] #[]) (fun x => !wideI x.2) w') := Lib.hid fun w' => ⟨_, _, rfl, fun _ _ => by kernel_rfl, fun x w'' _ => check2_anyI x⟩
  have hcapn := h.cap _ _ _ _ _ rfl
  have hn' := hn
  generalize hnv : T.vars.length = n at *
  generalize hnr : rvs.length = m at *
  clear h hvv hrv hel hrows hrow hw hrl hb hk hn'
  obtain ⟨CN, hCN⟩ : ∃ c, checkT T = c := ⟨_, rfl⟩
  rw [hCN]
  have HCN := Lib.hid hCN
  clear hCN
  have hret : ∀ k : Nat, checkT T = k → Ending.returned (Value.int .i64 (k : Int)) = .returned (.int .i64 (CN : Int)) := fun k hk => by rw [← HCN.out, hk]
  have HRet := Lib.hid hret
  clear hret
  go_enter Tryz.func9, Tryz.ntmps9
  go_upto_region 1 with fail
  generalize hTop : bstr T.top = X at *
  generalize w.alloc (.cells #[.string X, .slice pv n cv, .slice pr m cr] 31) = W at *
  have HTop := Lib.hid hTop
  clear hTop
  have HBl : Hid (∀ w', Below W.heap.size W w' → w'.cell? ⟨w.heap.size, 0, none⟩ = some (.string X) ∧ w'.cell? ⟨w.heap.size, 1, none⟩ = some (.slice pv n cv) ∧ w'.cell? ⟨w.heap.size, 2, none⟩ = some (.slice pr m cr)) := Lib.hid fun w' hb' => by
    have hk' := H0.out.2.next hb'
    exact ⟨hk'.cell (i := 0) rfl, hk'.cell (i := 1) rfl, hk'.cell (i := 2) rfl⟩
  obtain ⟨c0, c1, c2⟩ := HBl.out W (Below.refl _ _)
  have hvars : ∀ w', Below W.heap.size W w' → RO w' (.slice pv n cv) 2 T.vars.length (icells T.vars) := fun w' hb' => by
    have := (HH.out.1.below H0.out.1).below hb'
    rw [hnv]; exact this
  have HV := Lib.hid (And.intro hvars hnv)
  have HNr := Lib.hid hnr
  clear hvars hnv hnr
  have HC1 := Lib.hid (hasf_anyI (A1.out W) T.vars (HV.out.1 W (Below.refl _ _)) (by rw [HV.out.2]; exact hn))
  obtain ⟨q0, hq0⟩ : ∃ q, wordB X = q := ⟨_, rfl⟩
  obtain ⟨q1, hq1⟩ : ∃ q, (T.vars.any fun x => !wordB (bstr x.1)) = q := ⟨_, rfl⟩
  rw [hq0] at HW
  rw [hq1] at HC1
  have HQ := Lib.hid (And.intro hq0 hq1)
  clear hq0 hq1
  cases q0
  · have h9 : checkT T = 9 := by unfold checkT; rw [HTop.out, HQ.out.1]; rfl
    have H9 := Lib.hid h9
    clear h9
    go_wp2_with fail
    refine (HW.out _).mono ?_; rintro e w1 ⟨rfl, rfl⟩
    go_wp2_with fail
    go_ret
    exact ⟨HRet.out 9 H9.out, H0.out.1⟩
  cases q1
  rotate_left
  · have h9 : checkT T = 9 := by unfold checkT; rw [HTop.out, HQ.out.1, HQ.out.2]; rfl
    have H9 := Lib.hid h9
    clear h9
    go_wp2_with fail
    refine (HW.out _).mono ?_; rintro e w1 ⟨rfl, rfl⟩
    go_wp2_with fail
    refine HC1.out.mono ?_; rintro e w2 ⟨rfl, hb2⟩
    have H2 := Lib.hid (H0.out.1.trans (hb2.mono H0.out.1.size))
    clear hb2
    go_wp2_with fail
    go_ret
    exact ⟨HRet.out 9 H9.out, H2.out⟩
  have hch : checkT T = if dupI T.vars then 10 else if T.vars.any (fun x => !wideI x.2) then 2 else if (decide (300 < T.vars.length) || decide (200 < T.rows.length)) then 19 else if T.rows.all (rowP T.vars) then 0 else 3 := by
    unfold checkT
    rw [HTop.out, HQ.out.1, HQ.out.2]; rfl
  have HCh := Lib.hid hch
  clear hch
  go_wp2_with fail
  refine (HW.out _).mono ?_; rintro e w1 ⟨rfl, rfl⟩
  go_wp2_with fail
  refine HC1.out.mono ?_; rintro e w2 ⟨rfl, hb2⟩
  have H2 := Lib.hid hb2
  clear hb2 c0 c1 c2 HW HC1
  obtain ⟨c0, c1, c2⟩ := HBl.out w2 H2.out
  go_wp2_with fail
  clear c0 c1 c2
  go_loopw [20] (fun iv wr => ∃ i : Nat, i ≤ n ∧ iv = .int .i64 i ∧ (∀ j, j < i → ((T.vars.take j).any fun x => decide (x.1 = (T.vars.getD j default).1)) = false) ∧ Below W.heap.size W wr) (fun iv _ => n - (intOf iv).toNat)
  case atStart => exact ⟨0, Nat.zero_le _, rfl, fun j hj => absurd hj (Nat.not_lt_zero _), H2.out⟩
  case round =>
    obtain ⟨i, hi, rfl, hno, hbr⟩ := hrel
    have HL := Lib.hid (And.intro hno hbr)
    clear hno hbr
    by_cases hlt : i < n
    · obtain ⟨x, hx⟩ : ∃ x, T.vars[i]? = some x := ⟨_, List.getElem?_eq_getElem (by rw [HV.out.2]; exact hlt)⟩
      have hro := HV.out.1 wr HL.out.2
      obtain ⟨vb, vo, rfl⟩ := hro.sl (icells_at _ _ _ hx).1
      have k0 := hro.cell (icells_at _ _ _ hx).1
      have k1 := hro.cell (icells_at _ _ _ hx).2
      rw [← Nat.add_assoc] at k1
      have hxd : (T.vars.getD i default).1 = x.1 := by rw [List.getD_eq_getElem?_getD, hx]; rfl
      have hbx := Below.new wr (.cells #[.string (bstr x.1), .int .i64 x.2] 51)
      have hkx := Blk.new (w := wr) 51 [.string (bstr x.1), .int .i64 x.2]
      have hbW := Below.next HL.out.2 hbx
      have HNm : Hid (∀ s : After (wr.alloc (.cells #[.string (bstr x.1), .int .i64 x.2] 51)), Calls Tryz.prog 28 #[.slice (some ⟨vb, vo, none⟩) i cv, .string (bstr x.1)] s.val fun e w' => e = .returned (.bool ((T.vars.take i).any fun y => decide (y.1 = x.1))) ∧ Below s.val.heap.size s.val w') := Lib.hid fun s =>
        named_anyI (T.vars.take i) x.1 (((HV.out.1 wr HL.out.2).below hbx).below s.below |>.takeI HV.out.2 (Nat.le_of_lt hlt)) (by rw [List.length_take]; have := HV.out.2; omega)
      obtain ⟨q, hq⟩ : ∃ q, ((T.vars.take i).any fun y => decide (y.1 = x.1)) = q := ⟨_, rfl⟩
      rw [hq] at HNm
      have q1 : (wr.alloc (.cells #[.string (bstr x.1), .int .i64 x.2] 51)).cell? ⟨w.heap.size, 1, none⟩ = some (.slice (some ⟨vb, vo, none⟩) n cv) := (HBl.out _ hbW).2.1
      have q2 := hkx.cell (i := 0) rfl
      have a1 := After.cell q1
      have a2 := After.cell q2
      have HX := Lib.hid (And.intro hlt (And.intro (show ((T.vars.take i).any fun y => decide (y.1 = (T.vars.getD i default).1)) = q by rw [hxd]; exact hq) hbW))
      have hii : (i : Int) < n := by omega
      have hi0 : (0 : Int) ≤ i := by omega
      have hic : (i : Int) ≤ cv := by omega
      have hiw : IntKind.i64.wrap ((i : Int) + 1) = (i : Int) + 1 := i64_of (by omega)
      obtain ⟨c0, c1, c2⟩ := HBl.out wr HL.out.2
      clear hro hx hxd hbx hkx hbW hq q1 q2 hlt hi
      go_upto_region 6 with fail
      clear k0 k1 c0 c1 c2
      generalize wr.alloc (.cells #[.string (bstr x.1), .int .i64 x.2] 51) = W5 at *
      refine wp_region_after (by kernel_rfl) (by kernel_rfl) ?_
      repeat (go_big_quiet_step ((first | (with_reducible exact Calls.after_of (HNm.out _)))))
      refine wpQuiet_nil ?_
      rintro _ ⟨s, rfl⟩
      have HS := Lib.hid (HX.out.2.2.trans (s.below.mono HX.out.2.2.size))
      generalize s.val = w6 at *
      clear a1 a2 HNm
      cases q
      · go_wp2_with fail
        go_roundw
        case rel => exact ⟨i + 1, HX.out.1, by go_num, fun j hj => by
          by_cases e : j = i
          · subst e; exact HX.out.2.1
          · exact HL.out.1 j (by omega), HS.out⟩
        case measure => have := HX.out.1; simp [intOf]; omega
      · have h10 : checkT T = 10 := by
          rw [HCh.out, dupB_toI T.vars i HX.out.2.1 (by rw [HV.out.2]; exact HX.out.1)]; rfl
        have H10 := Lib.hid h10
        clear h10
        go_wp2_with fail
        go_ret
        exact ⟨HRet.out 10 H10.out, H0.out.1.trans (HS.out.mono H0.out.1.size)⟩
    · obtain rfl : i = n := by omega
      have hdup := dupB_noI T.vars (fun j hj => HL.out.1 j (by rw [HV.out.2] at hj; exact hj))
      have hch2 := HCh.out
      rw [hdup] at hch2
      simp only [Bool.false_eq_true, if_false] at hch2
      have HCh2 := Lib.hid hch2
      clear hdup hch2 hlt hi
      obtain ⟨c0, c1, c2⟩ := HBl.out wr HL.out.2
      have HC2 := Lib.hid (hasf_anyI (A2.out wr) T.vars (HV.out.1 wr HL.out.2) (by rw [HV.out.2]; exact hn))
      obtain ⟨q2, hq2⟩ : ∃ q, (T.vars.any fun x => !wideI x.2) = q := ⟨_, rfl⟩
      rw [hq2] at HC2 HCh2
      clear hq2
      go_wp2_with fail
      refine HC2.out.mono ?_; rintro e w7 ⟨rfl, hb7⟩
      have H7 := Lib.hid (HL.out.2.trans (hb7.mono HL.out.2.size))
      clear hb7 c0 c1 c2 HC2
      cases q2
      rotate_left
      · have h2 : checkT T = 2 := by rw [HCh2.out]; rfl
        have H2' := Lib.hid h2
        clear h2
        go_wp2_with fail
        go_ret
        exact ⟨HRet.out 2 H2'.out, H0.out.1.trans (H7.out.mono H0.out.1.size)⟩
      have hch3 := HCh2.out
      simp only [Bool.false_eq_true, if_false] at hch3
      rw [HV.out.2, HH.out.2.2.2.2.2.2] at hch3
      have HCh3 := Lib.hid hch3
      clear hch3
      obtain ⟨c0, c1, c2⟩ := HBl.out w7 H7.out
      have hch4 := HCh3.out
      obtain ⟨c1', hc1'⟩ : ∃ c, c = c1 := ⟨_, rfl⟩
      clear hc1' c1'
      by_cases h300 : (300 : Int) < i
      · have h19 : checkT T = 19 := by rw [HCh3.out, decide_eq_true (show 300 < i by omega)]; rfl
        have H19 := Lib.hid h19
        clear h19 hch4
        go_wp2_with fail
        go_ret
        exact ⟨HRet.out 19 H19.out, H0.out.1.trans (H7.out.mono H0.out.1.size)⟩
      by_cases h200 : (200 : Int) < m
      · have h19 : checkT T = 19 := by rw [HCh3.out, decide_eq_true (show 200 < m by omega), Bool.or_true]; rfl
        have H19 := Lib.hid h19
        clear h19 hch4
        go_wp2_with fail
        go_ret
        exact ⟨HRet.out 19 H19.out, H0.out.1.trans (H7.out.mono H0.out.1.size)⟩
      rw [decide_eq_false (show ¬ 300 < i by omega), decide_eq_false (show ¬ 200 < m by omega)] at hch4
      simp only [Bool.or_self, Bool.false_eq_true, if_false] at hch4
      have HCh4 := Lib.hid hch4
      clear hch4
      go_wp2_with fail
      clear c0 c1 c2
      go_loopw [51] (fun kv wr => ∃ k : Nat, k ≤ m ∧ kv = .int .i64 k ∧ (T.rows.take k).all (rowP T.vars) = true ∧ Below W.heap.size W wr) (fun kv _ => m - (intOf kv).toNat)
      case atStart => exact ⟨0, Nat.zero_le _, rfl, rfl, H7.out⟩
      case round =>
        obtain ⟨k, hk, rfl, hall, hbr⟩ := hrel
        have HR := Lib.hid (And.intro hall hbr)
        clear hall hbr
        by_cases hlt : k < m
        · obtain ⟨rvk, hrvk⟩ : ∃ v, rvs[k]? = some v := ⟨_, List.getElem?_eq_getElem (by rw [HNr.out]; exact hlt)⟩
          obtain ⟨es, hes⟩ : ∃ es, ess[k]? = some es := ⟨_, List.getElem?_eq_getElem (by rw [HH.out.2.2.1]; exact hlt)⟩
          have hrow := HH.out.2.2.2.2.1 k rvk es hrvk hes
          have hTk : T.rows[k]? = some (es.map fun e => (e.w, e.x)) := by rw [HH.out.2.2.2.1, List.getElem?_map, hes]; rfl
          obtain ⟨pk, ck, rfl⟩ := hrow.1.form
          have hrr := (HH.out.2.1.below H0.out.1).below HR.out.2
          obtain ⟨rb, ro, rfl⟩ := hrr.sl hrvk
          have k0 := hrr.cell hrvk
          have hfit : fitsI T.vars es = rowP T.vars (es.map fun e => (e.w, e.x)) := by
            unfold fitsI rowP
            rw [List.map_map]; rfl
          have hesl : (es.length : Int) ≤ 140737488355328 := by have := HH.out.2.2.2.2.2.1 _ (List.mem_of_getElem? hTk); simpa using this
          have HE := Lib.hid (eqf_anyI T.vars es (HV.out.1 wr HR.out.2) ((hrow.1.below H0.out.1).below HR.out.2) (fun e he => ((hrow.2 e he).below H0.out.1).below HR.out.2) (by rw [HV.out.2]; exact hn) hesl)
          rw [hfit] at HE
          obtain ⟨q, hq⟩ : ∃ q, rowP T.vars (es.map fun e => (e.w, e.x)) = q := ⟨_, rfl⟩
          rw [hq] at HE
          have hsn : (T.rows.take (k + 1)).all (rowP T.vars) = q := by
            rw [List.take_add_one, hTk]; simp [List.all_append, HR.out.1, hq]
          have hbad : q = false → T.rows.all (rowP T.vars) = false := fun h => by
            rw [List.all_eq_false]
            exact ⟨_, List.mem_of_getElem? hTk, by rw [hq, h]; simp⟩
          have HX := Lib.hid (And.intro hlt (And.intro hsn hbad))
          have hki : (k : Int) < m := by omega
          have hk0 : (0 : Int) ≤ k := by omega
          have hkw : IntKind.i64.wrap ((k : Int) + 1) = (k : Int) + 1 := i64_of (by omega)
          obtain ⟨c0, c1, c2⟩ := HBl.out wr HR.out.2
          generalize hel : es.length = el at *
          clear hrvk hes hrow hTk hrr hfit hesl hq hsn hbad hlt hk hel
          go_wp2_with fail
          refine HE.out.mono ?_; rintro e w9 ⟨rfl, hb9⟩
          have H9 := Lib.hid (HR.out.2.trans (hb9.mono HR.out.2.size))
          clear hb9 k0 c0 c1 c2 HE
          cases q
          · have h3 : checkT T = 3 := by rw [HCh4.out, HX.out.2.2 rfl]; rfl
            have H3 := Lib.hid h3
            clear h3
            go_wp2_with fail
            go_ret
            exact ⟨HRet.out 3 H3.out, H0.out.1.trans (H9.out.mono H0.out.1.size)⟩
          · go_wp2_with fail
            go_roundw
            case rel => exact ⟨k + 1, HX.out.1, by go_num, HX.out.2.1, H9.out⟩
            case measure => have := HX.out.1; simp [intOf]; omega
        · obtain rfl : k = m := by omega
          clear hlt hk
          have h0 : checkT T = 0 := by
            have h := HR.out.1
            rw [List.take_of_length_le (by rw [HH.out.2.2.2.2.2.2]; exact Nat.le_refl _)] at h
            rw [HCh4.out, h]; rfl
          have H0' := Lib.hid h0
          clear h0
          go_wp2_with fail
          go_ret
          exact ⟨HRet.out 0 H0'.out, H0.out.1.trans (HR.out.2.mono H0.out.1.size)⟩
set_option maxRecDepth 100000 in
set_option maxHeartbeats 4000000 in
theorem write_badI {w : World} {tv : Value} {T : TrcI} (h : TrI w tv T) (hn : (T.vars.length : Int) ≤ 3000000) (hm : (T.rows.length : Int) ≤ 3000000) (hw : ∀ r ∈ T.rows, (r.length : Int) ≤ 140737488355328) (hc : checkT T ≠ 0) :
    Calls Tryz.prog 8 #[tv] w fun e w' => e = .returned (.tuple #[.string ⟨#[]⟩, .int .i64 (checkT T : Nat)]) ∧ Below w.heap.size w w' := by
  obtain ⟨vv, rv, rvs, ess, rfl, hvv, hrv, _⟩ := h.ex
  have hb := Below.new w (.cells #[.string (bstr T.top), vv, rv] 31)
  have hk := Blk.new (w := w) 31 [.string (bstr T.top), vv, rv]
  obtain ⟨pv, cv, rfl⟩ := hvv.form
  obtain ⟨pr, cr, rfl⟩ := hrv.form
  have HC := Lib.hid (check_anyI (h.below hb) hn hm hw)
  obtain ⟨c, hcc⟩ : ∃ c, checkT T = c := ⟨_, rfl⟩
  rw [hcc] at HC hc ⊢
  have hc1 : ((c : Int) != 0) = true := by simpa using hc
  have hc2 : ¬ (c : Int) = 0 := by omega
  have hc3 : ¬ c = 0 := hc
  have HB := Lib.hid hb
  generalize T.vars.length = n at *
  generalize rvs.length = m at *
  generalize bstr T.top = X at *
  clear h hvv hrv hb hk hcc hw hc
  go_enter Tryz.func8, Tryz.ntmps8
  go_wp2_with fail
  refine HC.out.mono ?_; rintro e w2 ⟨rfl, hb2⟩
  have H2 := Lib.hid (HB.out.trans (hb2.mono HB.out.size))
  clear hb2
  go_wp2_with fail
  go_ret2
  exact ⟨rfl, H2.out⟩
end Go.Proofs.YtcdjkbgedmehjaaGreatDoor
