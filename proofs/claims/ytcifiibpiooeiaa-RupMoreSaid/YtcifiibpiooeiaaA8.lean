import Derived.Test.YtcifiibpiooeiaaA7
namespace Go.Proofs.Ytcifiibpiooeiaa
set_option linter.unusedVariables false
open Go.RowKit

theorem step_app {P : Program} {w : World} {ops : Array Oper} {o : Oper} {a : Act} {K : Act → World → Prop} {Q : Exit → Act → World → Prop} {E : Prop} (hgd : o.guard = none) (s x : Operand) (t : TypeId)
    (ho : o.op = .call { callee := .builtin .append, args := #[s, x], argTypes := #[t, t] })
    {e size bytes : Nat} {z : Value} (T : SlTy P t e size bytes z) (base : Nat)
    (v : Value) (n : Nat) (xs : List Value) (hs : a.eval s = v) (hown : w.ownsRow base e size v n xs)
    (b m c : Nat) (news : List Value) (hx : a.eval x = .slice (some ⟨b, 0, none⟩) m c) (cs : Array Value) (hb : w.heap[b]? = some (.cells cs e (0, 0))) (hcs : cs.toList = news) (hl : news.length = m * size) (h1 : ∀ u ∈ news, u.oneCell' = true)
    (hm : 0 < m) (hbytes : (n + m) * bytes ≤ 140737488355328) (h63 : n + m ≤ 140737488355328) (hbase : base ≤ w.heap.size)
    (h : ∀ g cap w', App base e size w v n m (xs ++ news) g cap w' → K (a.put o.dst (.slice (some ⟨g, 0, none⟩) (n + m) cap)) w') : if Region.wanted o (yielded ops a.tmps) = true then Oper.wp P o a w K Q else E := by
  obtain ⟨i, hi, hz, hsz, hby⟩ := T.i
  exact step_append_lies w hgd s x t ho base e i z size bytes T.u hi hz hsz hby T.zs T.sz v n xs hs hown ⟨b, 0, none⟩ m c news hx hl (seg_row hb hcs) h1 hm (by simp only [maxLen]; omega) hbytes hbase _ rfl
    fun g cap w' h2 h3 h4 h5 => h g cap w' ⟨h2, h3, h4, h5⟩

/-- Add, plainly: the clauses behind it, the error -/
def addC (v : Nat) (cls : List (List Int)) (l : List Int) : List (List Int) × Int :=
  if l.any (fun x => !(known v x)) then (cls, 3) else if 1000 < l.length ∨ cls.length = 200000 then (cls, 19) else if taut l then (cls, 0) else (cls ++ [norm l], 0)
theorem known_iff (v : Nat) (x : Int) : known v x = true ↔ x ≠ 0 ∧ x.natAbs ≤ v := by simp [known]
theorem addC_wf {v : Nat} {cls : List (List Int)} (h : WFC v cls) (l : List Int) : WFC v (addC v cls l).1 := by
  unfold addC
  split
  · exact h
  · rename_i hk
    split
    · exact h
    · rename_i hl
      split
      · exact h
      · rename_i ht
        have hk' : ∀ x ∈ l, x ≠ 0 ∧ x.natAbs ≤ v := by
          intro x hx
          have : known v x = true := by
            cases hq : known v x with
            | true => rfl
            | false => exact absurd (List.any_eq_true.2 ⟨x, hx, by simp [hq]⟩) hk
          exact (known_iff v x).1 this
        refine ⟨h.hv, by have := h.n; simp only [List.length_append, List.length_cons, List.length_nil]; omega, fun i hi => ?_⟩
        by_cases hi' : i < cls.length
        · have : (cls ++ [norm l]).getD i [] = cls.getD i [] := by simp [List.getD, List.getElem?_append_left hi']
          rw [this]; exact h.l i hi'
        · have hi2 : i = cls.length := by simp only [List.length_append, List.length_cons, List.length_nil] at hi; omega
          have : (cls ++ [norm l]).getD i [] = norm l := by simp [List.getD, hi2]
          rw [this]
          exact ⟨norm_ss l, fun x hx => hk' x ((norm_mem l x).1 hx), by rw [taut_norm]; simpa using ht, by have := norm_len l; omega⟩

/-- what Add does -/
def AddR (A : Nat → Prop) (w : World) (bc : Nat) (F : Nat → Prop) (v : Nat) (cls : List (List Int)) (l : List Int) (e : Ending) (w' : World) : Prop :=
  e = .returned (.int .i64 (addC v cls l).2) ∧ ∃ F', HasC A w' bc F' v (addC v cls l).1 ∧ Upd F F' w w'

theorem slvs_app (a b : List (Option Addr × Nat × Nat)) : slvs (a ++ b) = slvs a ++ slvs b := by simp [slvs]
theorem slvs_one (l : List (Option Addr × Nat × Nat)) : ∀ u ∈ slvs l, u.oneCell' = true := by
  intro u hu
  obtain ⟨x, _, rfl⟩ := List.mem_map.1 hu
  rfl

theorem add_end {A : Nat → Prop} {w1 w3 : World} {bc : Nat} {ps : Option Addr} {cs N : Nat} {sls v cls} (h : CAt w1 bc (.slice ps N cs) sls v cls) (hN : cls.length = N) {pn : Option Addr} {m cn : Nat} {l : List Int} (hm : l.length = m)
    (hnew : RC (foot bc (.slice ps N cs)) w1 (pn, m, cn) l) (hA : ∀ k, A k → k < w1.heap.size) (ha : ∀ i, i < cls.length → RC A w1 (sls.getD i default) (cls.getD i [])) (hnewA : RC A w1 (pn, m, cn) l) {o : Obj} {g cap : Nat} (happ : App 0 23 1 (w1.alloc o).drew (.slice ps N cs) N 1 (slvs sls ++ [.slice pn m cn]) g cap w3) :
    HasC A (w3.setCell ⟨bc, 1, none⟩ (.slice (some ⟨g, 0, none⟩) (N + 1) cap)) bc (foot bc (.slice (some ⟨g, 0, none⟩) (N + 1) cap)) v (cls ++ [l]) ∧
      Upd (foot bc (.slice ps N cs)) (foot bc (.slice (some ⟨g, 0, none⟩) (N + 1) cap)) w1 (w3.setCell ⟨bc, 1, none⟩ (.slice (some ⟨g, 0, none⟩) (N + 1) cap)) := by
  have hlt := h.lt
  have hbc : bc < w1.heap.size := hlt bc (.inl rfl)
  have hgne : g ≠ bc := by
    rcases happ.at_ with hg | hg
    · intro e; subst e; exact h.ne hg
    · have : g = (w1.alloc o).heap.size := hg
      rw [World.size_alloc] at this; omega
  have hold : ∀ k, k < w1.heap.size → (Value.slice ps N cs).ownBlock ≠ some k → w3.heap[k]? = w1.heap[k]? := fun k hk hne =>
    (happ.old (by show k < (w1.alloc o).heap.size; rw [World.size_alloc]; omega) hne).trans (heap_alloc_old _ _ hk)
  have hU : Upd (foot bc (.slice ps N cs)) (foot bc (.slice (some ⟨g, 0, none⟩) (N + 1) cap)) w1 (w3.setCell ⟨bc, 1, none⟩ (.slice (some ⟨g, 0, none⟩) (N + 1) cap)) := by
    refine ⟨happ.grown.os, happ.grown.tape, happ.grown.output, ?_, fun k hk hn => ?_, fun k hk => ?_⟩
    · have := happ.grown.size
      simp at this ⊢; omega
    · rw [Below.heap_setCell _ _ _ _ (fun e => hn (.inl e))]
      exact hold k hk (fun e => hn (.inr e))
    · rcases hk with rfl | hk
      · exact .inl (.inl rfl)
      · simp only [Value.ownBlock, Option.some.injEq] at hk; subst hk
        rcases happ.at_ with hg | hg
        · exact .inl (.inr hg)
        · right; have : g = (w1.alloc o).heap.size := hg; rw [World.size_alloc] at this; omega
  have hkA : ∀ {s : Option Addr × Nat × Nat} {l' : List Int}, RC (foot bc (.slice ps N cs)) w1 s l' → RC A w1 s l' → RC A (w3.setCell ⟨bc, 1, none⟩ (.slice (some ⟨g, 0, none⟩) (N + 1) cap)) s l' := by
    intro s l' h1 h2
    refine ⟨h1.1, fun j u hj => ?_⟩
    obtain ⟨b, o, e, hn, hc⟩ := h1.2 j u hj
    obtain ⟨b', o', e', hn', hc'⟩ := h2.2 j u hj
    rw [e] at e'; cases e'
    exact ⟨b, o, e, hn', by rw [← hc]; exact World.cell?_of_block (hU.block b (World.block_lt_of_cell? _ _ hc) hn)⟩
  refine ⟨⟨_, sls ++ [(pn, m, cn)], ⟨?_, ?_, ?_, by simp [h.len], fun i hi => ?_⟩, rfl, fun i hi => ?_⟩, hU⟩
  · have hb3 : Blk w3 bc 59 [.int .i64 v, .slice ps N cs] := (hold bc hbc h.ne).trans h.blk
    exact hb3.set 1 _
  · have hown := happ.own
    rw [show slvs sls ++ [Value.slice pn m cn] = slvs (sls ++ [(pn, m, cn)]) by rw [slvs_app]; rfl] at hown
    rw [show (cls ++ [l]).length = N + 1 by simp [hN]]
    exact ownsRow_keep hown fun k hk => by
      simp only [Value.ownBlock, Option.some.injEq] at hk; subst hk
      exact Below.heap_setCell _ _ _ _ hgne
  · simp only [Value.ownBlock, ne_eq, Option.some.injEq]; exact hgne
  · by_cases hi' : i < cls.length
    · have e1 : (cls ++ [l]).getD i [] = cls.getD i [] := by simp [List.getD, List.getElem?_append_left hi']
      have e2 : (sls ++ [(pn, m, cn)]).getD i default = sls.getD i default := by simp [List.getD, List.getElem?_append_left (show i < sls.length by rw [h.len]; exact hi')]
      rw [e1, e2]; exact (h.rd i hi').upd hU
    · have hi2 : i = cls.length := by simp only [List.length_append, List.length_cons, List.length_nil] at hi; omega
      have e1 : (cls ++ [l]).getD i [] = l := by simp [List.getD, hi2]
      have e2 : (sls ++ [(pn, m, cn)]).getD i default = (pn, m, cn) := by simp [List.getD, hi2, ← h.len]
      rw [e1, e2]; exact hnew.upd hU
  · by_cases hi' : i < cls.length
    · have e1 : (cls ++ [l]).getD i [] = cls.getD i [] := by simp [List.getD, List.getElem?_append_left hi']
      have e2 : (sls ++ [(pn, m, cn)]).getD i default = sls.getD i default := by simp [List.getD, List.getElem?_append_left (show i < sls.length by rw [h.len]; exact hi')]
      rw [e1, e2]; exact hkA (h.rd i hi') (ha i hi')
    · have hi2 : i = cls.length := by simp only [List.length_append, List.length_cons, List.length_nil] at hi; omega
      have e1 : (cls ++ [l]).getD i [] = l := by simp [List.getD, hi2]
      have e2 : (sls ++ [(pn, m, cn)]).getD i default = (pn, m, cn) := by simp [List.getD, hi2, ← h.len]
      rw [e1, e2]; exact hkA hnew hnewA

theorem New.rc {w0 w w' : World} {p : Option Addr} {n c : Nat} {l : List Int} (h : New w w' (.slice p n c) l) (hn : l.length = n) {F : Nat → Prop} (hF : ∀ k, F k → k < w.heap.size) : RC F w' (p, n, c) l := by
  refine ⟨hn.symm, fun j u hj => ?_⟩
  obtain ⟨h1, q, c', e, hr⟩ := h.1
  cases e
  obtain ⟨b, o, e, hc⟩ := hr j u hj
  refine ⟨b, o, e, fun hb => ?_, hc⟩
  have := h.2 _ _ _ rfl b o (fun e' => by subst e'; simp [ints] at hj) e
  have := hF b hb
  omega

set_option maxHeartbeats 4000000 in
theorem add_any {A : Nat → Prop} {w : World} {bc : Nat} {F v cls} {lv : Value} {l : List Int} (hA : ∀ k, A k → k < w.heap.size) (h : HasC A w bc F v cls) (hw : WFC v cls) (hl : RO w lv 1 l.length (ints l)) (hn : l.length ≤ 1000000000000) :
    Calls Try.prog 11 #[.pointer (some ⟨bc, 0, none⟩), lv] w (AddR A w bc F v cls l) := by
  have HA0 := Lib.hid hA
  clear hA
  obtain ⟨pl, cl, rfl⟩ := hl.form
  have hb0 := Below.new w (.cells #[.pointer (some ⟨bc, 0, none⟩)] 26)
  have hB0 : Blk (w.alloc (.cells #[.pointer (some ⟨bc, 0, none⟩)] 26)) w.heap.size 26 [.pointer (some ⟨bc, 0, none⟩)] := Blk.new _ _
  have hC0 := h.below hb0
  have hl0 := hl.below hb0
  have HCt := Lib.hid (contains_any 30 #[.pointer (some ⟨w.heap.size, 0, none⟩)] (fun x => !(known v x)) (enters_of Try.func30 (by kernel_rfl) rfl) hl0 hn
    (fun x _ => add1_any hC0 hw.hv (hB0.cell (i := 0) rfl) x))
  have H0 := Lib.hid (And.intro h (And.intro hw (And.intro hl (And.intro hb0 (And.intro hC0 hl0)))))
  have hni : (l.length : Int) ≤ 1000000000000 := by omega
  have hc0 := hB0.cell (i := 0) rfl
  have HW := Lib.hid (And.intro hB0 hn)
  clear h hw hl hn hb0 hC0 hl0 hB0
  obtain ⟨q, hq⟩ : ∃ q, l.any (fun x => !(known v x)) = q := ⟨_, rfl⟩
  rw [hq] at HCt
  have HQ := Lib.hid hq
  clear hq
  go_enter Try.func11, Try.ntmps11
  go_wp2_with fail
  generalize w.alloc (.cells #[.pointer (some ⟨bc, 0, none⟩)] 26) = W at *
  refine HCt.out.mono ?_; rintro e w' ⟨rfl, rfl⟩
  cases q with
  | true =>
    go_wp2_with fail
    go_ret
    have ha : addC v cls l = (cls, 3) := by unfold addC; rw [if_pos HQ.out]
    unfold AddR
    rw [ha]
    exact ⟨rfl, F, H0.out.2.2.2.2.1, Upd.below H0.out.2.2.2.1⟩
  | false =>
    have hk' : ∀ x ∈ l, x ≠ 0 ∧ x.natAbs ≤ v := by
      intro x hx
      have : known v x = true := by
        cases hq : known v x with
        | true => rfl
        | false => have := List.any_eq_false.1 HQ.out x hx; simp [hq] at this
      exact (known_iff v x).1 this
    have HKn := Lib.hid hk'
    clear hk'
    by_cases h1 : 1000 < l.length
    · have h1i : (1000 : Int) < l.length := by omega
      have HL := Lib.hid h1
      clear h1
      go_wp2_with fail
      go_ret
      have ha : addC v cls l = (cls, 19) := by unfold addC; rw [HQ.out, if_neg (by simp), if_pos (.inl HL.out)]
      unfold AddR
      rw [ha]
      exact ⟨rfl, F, H0.out.2.2.2.2.1, Upd.below H0.out.2.2.2.1⟩
    have h1i : (l.length : Int) ≤ 1000 := by omega
    have HL := Lib.hid h1
    clear h1
    obtain ⟨sv, sls, hC, hF, hAv⟩ := H0.out.2.2.2.2.1
    have HAv := Lib.hid hAv
    clear hAv
    obtain ⟨ps, cs, rfl⟩ := ownsRow_form hC.own
    have hs1 := hC.c1
    obtain ⟨N, hN⟩ : ∃ N, cls.length = N := ⟨_, rfl⟩
    have HN := Lib.hid hN
    have HCA := Lib.hid (And.intro hC hF)
    rw [hN] at hs1 HCA
    clear hC hF hN
    by_cases h2 : N = 200000
    · have h2i : ((N : Int) == 200000) = true := by simp [h2]
      have H2 := Lib.hid h2
      clear h2
      go_wp2_with fail
      go_ret
      have ha : addC v cls l = (cls, 19) := by unfold addC; rw [HQ.out, if_neg (by simp), if_pos (.inr (by rw [HN.out, H2.out]))]
      unfold AddR
      rw [ha]
      exact ⟨rfl, F, H0.out.2.2.2.2.1, Upd.below H0.out.2.2.2.1⟩
    have h2i : ((N : Int) == 200000) = false := by simp; omega
    have H2 := Lib.hid h2
    clear h2
    have HP := Lib.hid (plain_any H0.out.2.2.2.2.2 HW.out.2 (fun x hx => ⟨(HKn.out x hx).1, by have := (HKn.out x hx).2; have := H0.out.2.1.hv; omega⟩))
    go_wp2_with fail
    refine HP.out.mono ?_; rintro e w1 ⟨hp1, hp2, hb1⟩
    have HB1 := Lib.hid hb1
    cases ht : taut l with
    | true =>
      obtain rfl := hp1 ht
      have HT := Lib.hid ht
      clear hp1 hp2 ht hb1
      go_wp2_with fail
      go_ret
      have ha : addC v cls l = (cls, 0) := by unfold addC; rw [HQ.out, if_neg (by simp), if_neg (by have := HL.out; have := H2.out; rw [HN.out]; omega), if_pos HT.out]
      unfold AddR
      rw [ha]
      exact ⟨rfl, F, H0.out.2.2.2.2.1.below HB1.out, (Upd.below H0.out.2.2.2.1).trans (Upd.below HB1.out)⟩
    | false =>
      obtain ⟨nv, rfl, hnew⟩ := hp2 ht
      obtain ⟨pn, cn, rfl⟩ := hnew.1.form
      have HT := Lib.hid (And.intro ht hnew)
      clear hp1 hp2 ht hb1
      obtain ⟨m, hm⟩ : ∃ m, (norm l).length = m := ⟨_, rfl⟩
      have HM := Lib.hid hm
      rw [hm] at HT
      simp only [hm]
      have hC1 := HCA.out.1.below HB1.out (Nat.le_refl _)
      have hlt1 := hC1.lt
      have hbx : w1.cell? ⟨w.heap.size, 0, none⟩ = some (.pointer (some ⟨bc, 0, none⟩)) := (HB1.out.cell (p := ⟨w.heap.size, 0, none⟩) HW.out.1.lt).trans hc0
      have hsv : w1.cell? ⟨bc, 1, none⟩ = some (.slice ps N cs) := hC1.c1
      have hfz : w1.frozen? ⟨bc, 1, none⟩ = false := hC1.blk.frz 1
      have hbc1 : bc < w1.heap.size := hlt1 bc (.inl rfl)
      have hrc : RC (foot bc (.slice ps N cs)) w1 (pn, m, cn) (norm l) := HT.out.2.rc (w0 := w) hm fun k hk => HCA.out.1.lt k hk
      have hO := (hC1.own.alloc (.cells #[.slice pn m cn] 23))
      rw [HN.out] at hO
      have HO : Hid ((w1.alloc (.cells #[.slice pn m cn] 23)).drew.ownsRow 0 23 1 (.slice ps N cs) N (slvs sls)) := Lib.hid hO
      have hne := hC1.ne
      have hkeep : Hid (∀ g cap w3, App 0 23 1 (w1.alloc (.cells #[.slice pn m cn] 23)).drew (.slice ps N cs) N 1 (slvs sls ++ [.slice pn m cn]) g cap w3 → w3.heap[bc]? = w1.heap[bc]?) := Lib.hid fun g cap w3 happ =>
        (happ.old (by show bc < (w1.alloc _).heap.size; rw [World.size_alloc]; omega) hne).trans (heap_alloc_old _ _ hbc1)
      have hnx : (Value.slice ps N cs).ownBlock ≠ some w.heap.size := fun e => by
        obtain ⟨sv0, sls0, hC00, hF00, _⟩ := H0.out.1
        have : F w.heap.size := by rw [HCA.out.2]; exact .inr e
        exact absurd (H0.out.1.lt _ this) (Nat.lt_irrefl _)
      have hbxl : w.heap.size < w1.heap.size := by have := HB1.out.size; have := HW.out.1.lt; omega
      have hkeep2 : Hid (∀ g cap w3, App 0 23 1 (w1.alloc (.cells #[.slice pn m cn] 23)).drew (.slice ps N cs) N 1 (slvs sls ++ [.slice pn m cn]) g cap w3 → w3.heap[w.heap.size]? = w1.heap[w.heap.size]?) := Lib.hid fun g cap w3 happ =>
        (happ.old (by show w.heap.size < (w1.alloc _).heap.size; rw [World.size_alloc]; omega) hnx).trans (heap_alloc_old _ _ hbxl)
      have hNl : N ≤ 200000 := by have := H0.out.2.1.n; have := HN.out; omega
      have HC1 := Lib.hid (And.intro hC1 (And.intro hrc (And.intro (fun i hi => (HAv.out i hi).below HB1.out) (HT.out.2.rc (w0 := w) hm fun k hk => Nat.lt_of_lt_of_le (HA0.out k hk) H0.out.2.2.2.1.size))))
      clear hnx hnew hm hC1 hlt1 hrc hO hne hc0 hs1 hni h1i
      go_upto_region 7 with fail
      go_region_law (refine step_app rfl _ _ 22 rfl TLists 0 _ _ _ rfl HO.out w1.heap.size 1 1 _ rfl _ (heap_alloc_new w1 _) rfl rfl (by simp [Value.oneCell']) Nat.one_pos (by omega) (by omega) (by simp) ?_; intro g3 cap3 w3 happ; have e3 := hkeep.out _ _ _ happ; have hc3 := (World.cell?_of_block (a := ⟨bc, 1, none⟩) e3).trans hsv; have hf3 := (World.frozen?_of_block (a := ⟨bc, 1, none⟩) e3).trans hfz; have hx3 := (World.cell?_of_block (a := ⟨w.heap.size, 0, none⟩) (hkeep2.out _ _ _ happ)).trans hbx; have H3 := Lib.hid happ; clear happ e3)
      all_goals
        go_wp2_with fail
        go_ret
        have ha : addC v cls l = (cls ++ [norm l], 0) := by unfold addC; rw [HQ.out, if_neg (by simp), if_neg (by have := HL.out; have := H2.out; rw [HN.out]; omega), if_neg (by rw [HT.out.1]; simp)]
        have hend := add_end HC1.out.1 HN.out HM.out HC1.out.2.1 (fun k hk => Nat.lt_of_lt_of_le (HA0.out k hk) (Nat.le_trans H0.out.2.2.2.1.size HB1.out.size)) HC1.out.2.2.1 HC1.out.2.2.2 H3.out
        unfold AddR
        rw [ha, HCA.out.2]
        exact ⟨rfl, _, hend.1, ((Upd.below H0.out.2.2.2.1).trans (Upd.below HB1.out)).trans hend.2⟩
end Go.Proofs.Ytcifiibpiooeiaa
