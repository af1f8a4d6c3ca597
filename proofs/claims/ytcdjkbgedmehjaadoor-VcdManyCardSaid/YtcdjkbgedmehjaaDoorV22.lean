import Derived.Test.YtcdjkbgedmehjaaDoorV21
namespace Go.Proofs.YtcdjkbgedmehjaaDoor
set_option linter.unusedVariables false
open Go.RowKit Go.Sort

/-! # Write -/
def Tab (w : World) : Prop := Lib.TabIs Tryd.prog w "internal/strconv.uint64pow10" .u64 Lib.pow10Tab
theorem tab_below {P : Program} {w w' : World} {name : String} {k : IntKind} {zs : List Int} (h : Lib.TabIs P w name k zs) (hb : Below w.heap.size w w') : Lib.TabIs P w' name k zs := by
  unfold Lib.TabIs World.var? at h ⊢
  cases hg : P.globalNamed name with
  | none => rw [hg] at h; simp at h
  | some g =>
    rw [hg] at h
    simp only [Option.bind_some] at h ⊢
    have hlt : g < w.heap.size := by
      rcases Nat.lt_or_ge g w.heap.size with h' | h'
      · exact h'
      · rw [Array.getElem?_eq_none h'] at h; simp at h
    rw [hb.block g hlt]
    exact h
theorem grow_below (B : Nat) (w : World) (os : Array Obj) (hB : B ≤ w.heap.size) : Below B w (grow w os) :=
  ⟨rfl, rfl, rfl, by simp [grow], fun k hk => by simp only [grow]; rw [Array.getElem?_append_left (by omega)]⟩
theorem itoa_any {w : World} (n : Nat) (hn : n ≤ 1000000) (ht : Tab w) : Calls Tryd.prog 17 #[.int .i64 n] w fun e w' => e = .returned (.string (bstr (Lib.itoa (n : Int)))) ∧ Below w.heap.size w w' :=
  (Tryd.strconv_Itoa (n : Int) (by omega) (by omega) w ht).mono fun e w' ⟨he, k, os, hw⟩ => ⟨he, by rw [hw]; exact (below_drewN k).trans (grow_below _ _ os (Nat.le_refl _))⟩
set_option maxRecDepth 100000 in
set_option maxHeartbeats 4000000 in
theorem write_bad {w : World} {tv : Value} {T : Trc} (h : TrR w tv T) (hn : (T.vars.length : Int) ≤ 3000000) (hm : (T.rows.length : Int) ≤ 3000000) (hw : ∀ r ∈ T.rows, (r.length : Int) ≤ 140737488355328) (hc : checkN T ≠ 0) :
    Calls Tryd.prog 7 #[tv] w fun e w' => e = .returned (.tuple #[.string ⟨#[]⟩, .int .i64 (checkN T : Nat)]) ∧ Below w.heap.size w w' := by
  obtain ⟨vv, rv, rvs, ess, rfl, hvv, hrv, _⟩ := h.ex
  have hb := Below.new w (.cells #[.string (bstr T.top), vv, rv] 26)
  have hk := Blk.new (w := w) 26 [.string (bstr T.top), vv, rv]
  obtain ⟨pv, cv, rfl⟩ := hvv.form
  obtain ⟨pr, cr, rfl⟩ := hrv.form
  have HC := Lib.hid (check_any (h.below hb) hn hm hw)
  obtain ⟨c, hcc⟩ : ∃ c, checkN T = c := ⟨_, rfl⟩
  rw [hcc] at HC hc ⊢
  have hc1 : ((c : Int) != 0) = true := by simpa using hc
  have hc2 : ¬ (c : Int) = 0 := by omega
  have hc3 : ¬ c = 0 := hc
  have HB := Lib.hid hb
  generalize T.vars.length = n at *
  generalize rvs.length = m at *
  generalize bstr T.top = X at *
  clear h hvv hrv hb hk hcc hw hc
  go_enter Tryd.func7, Tryd.ntmps7
  go_wp2_with fail
  refine HC.out.mono ?_; rintro e w2 ⟨rfl, hb2⟩
  have H2 := Lib.hid (HB.out.trans (hb2.mono HB.out.size))
  clear hb2
  go_wp2_with fail
  go_ret2
  exact ⟨rfl, H2.out⟩
theorem tok_of_check {T : Trc} (h : checkN T = 0) (hx : ∀ r ∈ T.rows, ∀ p ∈ r, p.2 < 2 ^ p.1) : TOk T := by
  unfold checkN at h
  split at h
  · cases h
  rename_i h1
  split at h
  · cases h
  rename_i h2
  split at h
  · cases h
  rename_i h3
  split at h
  · cases h
  rename_i h4
  split at h
  · rename_i h5
    rw [Bool.not_eq_true, Bool.or_eq_false_iff] at h1 h4
    have ht : wordB (bstr T.top) = true := by simpa using h1.1
    have hnm : ∀ x ∈ T.vars, wordB (bstr x.1) = true := fun x hx => by
      have := List.any_eq_false.1 h1.2 x hx
      simpa using this
    have hwd : ∀ x ∈ T.vars, 1 ≤ x.2 ∧ x.2 ≤ 128 := fun x hx => by
      rw [Bool.not_eq_true] at h3
      have := List.any_eq_false.1 h3 x hx
      unfold wideB at this
      simp only [Bool.not_eq_true, Bool.not_eq_false', Bool.and_eq_true, decide_eq_true_eq] at this
      exact this
    refine ⟨ht, fun i v hv => ⟨hnm v (List.mem_of_getElem? hv), hwd v (List.mem_of_getElem? hv)⟩, fun i j u v hu hv hij e => ?_, by have := of_decide_eq_false h4.1; omega, by have := of_decide_eq_false h4.2; omega, fun n r hr => ?_⟩
    · have hd : dupB T.vars = false := by simpa using h2
      have key : ∀ a b (x y : Bs × Nat), a < b → T.vars[a]? = some x → T.vars[b]? = some y → x.1 = y.1 → False := fun a b x y hab hx hy e => by
        have hbl : b < T.vars.length := (List.getElem?_eq_some_iff.1 hy).1
        have : ((T.vars.take b).any fun z => decide (z.1 = (T.vars.getD b default).1)) = true := List.any_eq_true.2 ⟨x, List.mem_of_getElem? (i := a) (by rw [List.getElem?_take, if_pos hab]; exact hx), by
          rw [List.getD_eq_getElem?_getD, hy]; simpa using e⟩
        rw [dupB_to _ b this hbl] at hd; cases hd
      rcases Nat.lt_or_gt_of_ne hij with h' | h'
      · exact key i j u v h' hu hv e
      · exact key j i v u h' hv hu e.symm
    · have hb := List.all_eq_true.1 h5 r (List.mem_of_getElem? hr)
      have hm : r.map Prod.fst = T.vars.map Prod.snd := of_decide_eq_true hb
      refine ⟨by have := congrArg List.length hm; simpa using this, fun j p v hp hv => ⟨?_, hx r (List.mem_of_getElem? hr) p (List.mem_of_getElem? hp)⟩⟩
      have := congrArg (fun l => l[j]?) hm
      simp only [List.getElem?_map, hp, hv, Option.map_some, Option.some.injEq] at this
      exact this
  · cases h
end Go.Proofs.YtcdjkbgedmehjaaDoor
