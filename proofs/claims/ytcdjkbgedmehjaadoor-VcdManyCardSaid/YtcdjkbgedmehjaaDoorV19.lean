import Derived.Test.YtcdjkbgedmehjaaDoorV18
namespace Go.Proofs.YtcdjkbgedmehjaaDoor
set_option linter.unusedVariables false
open Go.RowKit Go.Sort

/-! # Check -/
set_option maxRecDepth 100000 in
set_option maxHeartbeats 4000000 in
theorem fits_any {w : World} (x : Bs × Nat) (e : VecE) (hv : VR w (vecV e) e.w e.x) : Calls Tryd.prog 33 #[varV x, vecV e] w fun r w' => r = .returned (.bool (decide (x.2 = e.w))) ∧ Below w.heap.size w w' := by
  have HW : Hid (∀ w', Below w.heap.size w w' → Calls Tryd.prog 34 #[vecV e] w' fun r w'' => r = .returned (.int .i64 e.w) ∧ Below w'.heap.size w' w'') := Lib.hid fun w' hb => width_any (hv.below hb)
  obtain ⟨nm, wd⟩ := x
  obtain ⟨n, p, c, y⟩ := e
  unfold varV vecV at *
  simp only at HW ⊢
  generalize bstr nm = X at *
  have hq : ((wd : Int) == (n : Int)) = decide (wd = n) := by
    by_cases h : wd = n
    · subst h; simp
    · rw [decide_eq_false h, beq_eq_false_iff_ne]; omega
  have HQ := Lib.hid hq
  clear hq hv
  go_enter Tryd.func33, Tryd.ntmps33
  go_upto_region 1 with fail
  have k0 := (Blk.new (w := w) 30 [.string X, .int .i64 wd]).alloc (.cells #[.int .i64 n, .slice p (wcount n) c] 33)
  have k1 := Blk.new (w := w.alloc (.cells #[.string X, .int .i64 wd] 30)) 33 [.int .i64 n, .slice p (wcount n) c]
  have hb3 : Below w.heap.size w ((w.alloc (.cells #[.string X, .int .i64 wd] 30)).alloc (.cells #[.int .i64 n, .slice p (wcount n) c] 33)) := (Below.new _ _).alloc (by simp) _
  simp only [World.size_alloc] at k1
  generalize (w.alloc (.cells #[.string X, .int .i64 wd] 30)).alloc (.cells #[.int .i64 n, .slice p (wcount n) c] 33) = W at *
  have a1 := After.cell (k0.cell (i := 1) rfl)
  have b0 := After.cell (k1.cell (i := 0) rfl)
  have b1 := After.cell (k1.cell (i := 1) rfl)
  have HWs : Hid (∀ s : After W, Calls Tryd.prog 34 #[.agg #[.int .i64 n, .slice p (wcount n) c]] s.val fun r w' => r = .returned (.int .i64 n) ∧ Below s.val.heap.size s.val w') := Lib.hid fun s => HW.out _ (hb3.trans (s.below.mono hb3.size))
  have H3 := Lib.hid hb3
  clear k0 k1 hb3 HW
  refine wp_region_after (by kernel_rfl) (by kernel_rfl) ?_
  repeat (go_big_quiet_step ((first | (with_reducible exact Calls.after_of (HWs.out _)))))
  refine wpQuiet_nil ?_
  rintro _ ⟨s, rfl⟩
  have HS := Lib.hid (H3.out.trans (s.below.mono H3.out.size))
  generalize s.val = w1 at *
  clear a1 b0 b1 HWs
  go_wp2_with fail
  go_ret
  exact ⟨congrArg (fun b => Ending.returned (Value.bool b)) HQ.out, HS.out⟩
def fitsB (l : List (Bs × Nat)) (es : List VecE) : Bool := decide (es.map VecE.w = l.map Prod.snd)
set_option maxRecDepth 100000 in
set_option maxHeartbeats 8000000 in
theorem eqf_any {w : World} (l : List (Bs × Nat)) (es : List VecE) {v u : Value} (hl : RO w v 2 l.length (tokCells l)) (he : RO w u 2 es.length (rowCells es)) (hv : ∀ e ∈ es, VR w (vecV e) e.w e.x) (hn : (l.length : Int) ≤ 3000000) (hm : (es.length : Int) ≤ 140737488355328) :
    Calls Tryd.prog 35 #[v, u, .func (Fn.func 33) #[] #[]] w fun r w' => r = .returned (.bool (fitsB l es)) ∧ Below w.heap.size w w' := by
  obtain ⟨p, c, rfl⟩ := hl.form
  obtain ⟨p', c', rfl⟩ := he.form
  by_cases hlen : l.length = es.length
  · obtain ⟨n, hnn⟩ : ∃ n, l.length = n := ⟨_, rfl⟩
    have hmm : es.length = n := by omega
    have HH := Lib.hid (And.intro hl (And.intro he (And.intro hv (And.intro hnn hmm))))
    rw [hnn] at hn ⊢
    rw [hmm] at hm ⊢
    clear hl he hv hlen hnn hmm
    go_enter Tryd.func35, Tryd.ntmps35
    go_wp2_with fail
    go_loopw [17] (fun iv wr => ∃ i : Nat, i ≤ n ∧ iv = .int .i64 i ∧ (es.take i).map VecE.w = (l.take i).map Prod.snd ∧ Below w.heap.size w wr) (fun iv _ => n - (intOf iv).toNat)
    case atStart => exact ⟨0, Nat.zero_le _, rfl, rfl, Below.refl _ _⟩
    case round =>
      obtain ⟨i, hi, rfl, heq, hb⟩ := hrel
      have HL := Lib.hid (And.intro heq hb)
      clear heq hb
      by_cases hlt : i < n
      · obtain ⟨x, hx⟩ : ∃ x, l[i]? = some x := ⟨_, List.getElem?_eq_getElem (by rw [HH.out.2.2.2.1]; exact hlt)⟩
        obtain ⟨e, hee⟩ : ∃ e, es[i]? = some e := ⟨_, List.getElem?_eq_getElem (by rw [HH.out.2.2.2.2]; exact hlt)⟩
        have hl' := HH.out.1.below HL.out.2
        have he' := HH.out.2.1.below HL.out.2
        obtain ⟨vb, vo, rfl⟩ := hl'.sl (tokCells_at _ _ _ hx).1
        obtain ⟨eb, eo, rfl⟩ := he'.sl (rowCells_at _ _ _ hee).1
        have k0 := hl'.cell (tokCells_at _ _ _ hx).1
        have k1 := hl'.cell (tokCells_at _ _ _ hx).2
        have m0 := he'.cell (rowCells_at _ _ _ hee).1
        have m1 := he'.cell (rowCells_at _ _ _ hee).2
        rw [← Nat.add_assoc] at k1 m1
        have hve := (HH.out.2.2.1 e (List.mem_of_getElem? hee)).below HL.out.2
        have hbx := Below.next (Below.new wr (.cells #[.string (bstr x.1), .int .i64 x.2] 30)) (Below.new (wr.alloc (.cells #[.string (bstr x.1), .int .i64 x.2] 30)) (.cells #[.int .i64 e.w, .slice e.p (wcount e.w) e.c] 33))
        have HF := Lib.hid (fits_any x e (hve.below hbx))
        have hsn : (es.take (i + 1)).map VecE.w = (l.take (i + 1)).map Prod.snd ↔ x.2 = e.w := by
          rw [List.take_add_one, List.take_add_one, hx, hee, List.map_append, List.map_append, HL.out.1, List.append_cancel_left_eq]
          simp
          exact eq_comm
        have hall : ¬ x.2 = e.w → fitsB l es = false := fun h => decide_eq_false fun h' => h (by
          have h1 : (es.map VecE.w)[i]? = (l.map Prod.snd)[i]? := by rw [h']
          rw [List.getElem?_map, List.getElem?_map, hx, hee] at h1
          simpa using h1.symm)
        have HX := Lib.hid (And.intro hlt (And.intro hsn (And.intro hall (HL.out.2.trans (hbx.mono HL.out.2.size)))))
        obtain ⟨nm, wd⟩ := x
        obtain ⟨en, ep, ec, ex⟩ := e
        unfold varV vecV at HF
        simp only at k0 k1 m0 m1 HF HX
        generalize bstr nm = X at *
        have hii : (i : Int) < n := by omega
        have hi0 : (0 : Int) ≤ i := by omega
        have hiw : IntKind.i64.wrap ((i : Int) + 1) = (i : Int) + 1 := i64_of (by omega)
        obtain ⟨q, hq⟩ : ∃ q, decide (wd = en) = q := ⟨_, rfl⟩
        rw [hq] at HF
        have HQ := Lib.hid hq
        have m0' := ((Below.new wr (.cells #[.string X, .int .i64 wd] 30)).cell (World.block_lt_of_cell? _ _ m0)).trans m0
        have m1' := ((Below.new wr (.cells #[.string X, .int .i64 wd] 30)).cell (World.block_lt_of_cell? _ _ m1)).trans m1
        clear hl' he' hve hbx hx hee hsn hall hlt hi hq
        go_wp2_with fail
        refine HF.out.mono ?_; rintro r w2 ⟨rfl, hb2⟩
        have H2 := Lib.hid (HX.out.2.2.2.trans (hb2.mono HX.out.2.2.2.size))
        clear hb2 k0 k1 m0 m1 m0' m1'
        cases q
        · go_wp2_with fail
          go_ret
          exact ⟨by rw [HX.out.2.2.1 (of_decide_eq_false HQ.out)]; rfl, H2.out⟩
        · go_wp2_with fail
          go_roundw
          case rel => exact ⟨i + 1, HX.out.1, by go_num, HX.out.2.1.2 (of_decide_eq_true HQ.out), H2.out⟩
          case measure => have := HX.out.1; simp [intOf]; omega
      · obtain rfl : i = n := by omega
        clear hlt hi
        have hf : fitsB l es = true := decide_eq_true (by
          have h := HL.out.1
          rw [List.take_of_length_le (by rw [HH.out.2.2.2.2]; exact Nat.le_refl _), List.take_of_length_le (by rw [HH.out.2.2.2.1]; exact Nat.le_refl _)] at h
          exact h)
        have HF := Lib.hid hf
        clear hf
        go_wp2_with fail
        go_ret
        exact ⟨by rw [HF.out]; rfl, HL.out.2⟩
  · have hf : fitsB l es = false := decide_eq_false fun h => hlen (by have := congrArg List.length h; simpa using this.symm)
    rw [hf]
    have hne : ¬ (l.length : Int) = es.length := by omega
    have hneb : ((l.length : Int) != (es.length : Int)) = true := by simpa using hne
    generalize l.length = a at *
    generalize es.length = b at *
    clear hl he hv hf
    go_enter Tryd.func35, Tryd.ntmps35
    go_wp2_with fail
    go_ret
    exact ⟨rfl, Below.refl _ _⟩
end Go.Proofs.YtcdjkbgedmehjaaDoor
