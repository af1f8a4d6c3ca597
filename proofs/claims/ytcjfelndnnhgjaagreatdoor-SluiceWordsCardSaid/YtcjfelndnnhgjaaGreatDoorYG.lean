/- The law sluiceWords holds: for every input it returns true and leaves its arguments as they were. No condition (the card ties the library tables that it reads to the program's text). -/
import Derived.Test.YtcjfelndnnhgjaaGreatDoorZF
import Derived.Test.YtcjfelndnnhgjaaGreatDoorYF
import Derived.Lib.SmallJoins
import Derived.Test.YtcjfelndnnhgjaaGreatDoorTie
import Derived.Test.YtcjfelndnnhgjaaGreatDoorCards
namespace Go.Proofs.YtcjfelndnnhgjaaGreatDoor
set_option linter.unusedVariables false
open Go.ChangeShapes Go.WideShapes Go.ChangeAt Go.RowKit Go.Deep

/-! # files that are an argument -/
theorem flat_len {α : Type} (f : α → List Value) (size : Nat) (hf : ∀ y, (f y).length = size) : ∀ l : List α, (l.flatMap f).length = l.length * size
  | [] => by simp
  | a :: l => by rw [List.flatMap_cons, List.length_append, hf, flat_len f size hf l, List.length_cons, Nat.succ_mul, Nat.add_comm]
theorem flat_at {α : Type} (f : α → List Value) (size : Nat) (hs : 0 < size) (hf : ∀ y, (f y).length = size) : ∀ (l : List α) (j : Nat), (l.flatMap f)[j]? = l[j / size]?.bind fun y => (f y)[j % size]?
  | [], j => by simp
  | a :: l, j => by
    rw [List.flatMap_cons]
    by_cases h : j < size
    · rw [List.getElem?_append_left (by rw [hf]; exact h), Nat.div_eq_of_lt h, Nat.mod_eq_of_lt h]; rfl
    · have e1 : j / size = (j - size) / size + 1 := Nat.div_eq_sub_div hs (by omega)
      have e2 : j % size = (j - size) % size := Nat.mod_eq_sub_mod (by omega)
      rw [List.getElem?_append_right (by rw [hf]; omega), hf, flat_at f size hs hf l, e1, e2, List.getElem?_cons_succ]
theorem open_at {α : Type} {H : Type} {enc : TypeId × Value → H} {P : Program} {w : World} {t e size fuel : Nat} {cs0 : List Value} {x : DataW H × List MemPlace} (R : α → Prop)
    (ht : P.underlying t = some (.slice e)) (hc : P.cellsOf e = size) (hs : 0 < size) (f : α → List Value) (hf : ∀ y, (f y).length = size)
    (hfu : DataW.trod enc P w 0 (fun _ => true) true fuel t cs0 = some x)
    (hg : ∀ fuel cs x, DataW.trod enc P w 0 (fun _ => true) true fuel e cs = some x → cs.length = size → ∃ y : α, cs = f y ∧ R y) :
    ∃ (p : Option Addr) (c : Nat) (l : List α), cs0 = [.slice p l.length c] ∧ RO w (.slice p l.length c) size l.length (l.flatMap f) ∧ l.length ≤ c ∧ c ≤ maxLen ∧ ∀ y ∈ l, R y := by
  rcases open_slice ht hfu with ⟨hcs, _⟩ | ⟨a, len, cap, m, n, D, Pl, hcs, _, hl, hm, hmm, _, hel⟩
  · exact ⟨none, 0, [], hcs, ⟨by simp, none, 0, rfl, by simp⟩, Nat.le_refl _, Nat.zero_le _, fun y hy => by simp at hy⟩
  · have hlm : len ≤ m := by simpa using (by simpa using hmm : m = cap) ▸ hl
    rw [hc] at hel
    have hch : ∀ i, i < len → ∃ y : α, (∀ r, r < size → w.cell? ((a.add (i * size)).add r) = (f y)[r]?) ∧ R y := by
      intro i hi
      obtain ⟨cs', h1, h2⟩ := hel i (by omega)
      obtain ⟨_, h3, h4⟩ := World.cells?_some h1
      obtain ⟨y, rfl, hR⟩ := hg _ _ _ h2 h3
      exact ⟨y, h4, hR⟩
    have hch2 : ∀ i : Fin len, ∃ y : α, (∀ r, r < size → w.cell? ((a.add (i.1 * size)).add r) = (f y)[r]?) ∧ R y := fun i => hch i.1 i.2
    obtain ⟨g, hgg⟩ := Classical.axiomOfChoice hch2
    have hlen : (List.ofFn g).length = len := by simp
    refine ⟨some a, cap, List.ofFn g, by rw [hlen]; exact hcs, ?_, by rw [hlen]; exact hl, hm, fun y hy => ?_⟩
    · rw [hlen]
      refine ⟨by rw [flat_len f size hf, hlen], some a, cap, rfl, fun j u hu => ?_⟩
      rw [flat_at f size hs hf] at hu
      simp only [Option.bind_eq_some_iff] at hu
      obtain ⟨y, hy, hu⟩ := hu
      have hjl : j / size < len := by
        rcases Nat.lt_or_ge (j / size) len with h | h
        · exact h
        · rw [List.getElem?_eq_none (by simpa using h)] at hy; cases hy
      rw [List.getElem?_eq_getElem (by simpa using hjl)] at hy
      simp only [Option.some.injEq, List.getElem_ofFn] at hy
      subst hy
      have hc0 := (hgg ⟨0, Nat.lt_of_le_of_lt (Nat.zero_le _) hjl⟩).1 0 hs
      have hsp : a.spot = none := by
        have h0 : (a.add (0 * size)).add 0 = a := by simp [Addr.add]
        simp only at hc0
        rw [h0, List.getElem?_eq_getElem (by rw [hf]; exact hs)] at hc0
        exact World.cell?_spot hc0
      obtain ⟨b, o, s⟩ := a
      simp only at hsp
      subst hsp
      refine ⟨b, o, rfl, ?_⟩
      have := (hgg ⟨j / size, hjl⟩).1 (j % size) (Nat.mod_lt _ hs)
      rw [hu, Addr.add_add] at this
      simp only at this
      rw [show j / size * size + j % size = j by rw [Nat.mul_comm]; exact Nat.div_add_mod j size] at this
      rw [← this]
      congr 1
      unfold Addr.add
      split <;> simp_all
    · obtain ⟨i, rfl⟩ := List.mem_ofFn.1 hy
      exact (hgg i).2
set_option maxRecDepth 100000 in
theorem open_fils {H : Type} {enc : TypeId × Value → H} {w : World} {r : Reach} {b0 : Nat} {v : Value} {d : DataW H} {p : List MemPlace}
    (hv : Value.okWide Tryz.prog w r b0 22 v) (h : DataW.Trod enc Tryz.prog w 0 (fun _ => true) true 22 v d p) : ∃ l : List Fil, RO w v 2 l.length (filCells l) ∧ l.length ≤ 9223372036854775807 ∧ ∀ f ∈ l, f.name.size ≤ maxLen := by
  obtain ⟨a0, len0, cap0, rfl⟩ := okWide_slice Tryz.underlying22 hv
  obtain ⟨fuel, hfu⟩ := h
  obtain ⟨p', c, l, h1, h2, h3, h4, h5⟩ := open_at (fun y : Fil => y.name.size ≤ maxLen) Tryz.underlying22 (size := 2) (by kernel_rfl) Nat.two_pos (fun y => [.string y.name, .string y.text]) (fun _ => rfl) hfu (fun fuel cs x hx hl => by
    obtain ⟨y0, y1, n, hxe, _, k0, k1⟩ := trod_struct2 Tryz.underlying48 hx
    match cs, hl with
    | [c0, c1], _ =>
      have hc : Tryz.prog.cellsOf 9 = 1 := by kernel_rfl
      obtain ⟨a, e0, x0, m0⟩ := DataW.trod_string Tryz.underlying9 k0
      obtain ⟨b, e1, x1, m1⟩ := DataW.trod_string Tryz.underlying9 k1
      simp [hc] at e0 e1
      exact ⟨⟨a, b⟩, by rw [e0, e1], m0⟩)
  have e : Value.slice a0 len0 cap0 = .slice p' l.length c := by simpa [Value.cells] using h1
  refine ⟨l, by rw [e]; exact h2, ?_, h5⟩
  have := Nat.le_trans h3 h4
  unfold maxLen at this
  omega
end Go.Proofs.YtcjfelndnnhgjaaGreatDoor
namespace Go.Proofs.YtcjfelndnnhgjaaGreatDoor
set_option linter.unusedVariables false
open Go.ChangeShapes Go.WideShapes Go.ChangeAt Go.RowKit

set_option maxRecDepth 100000 in
theorem sluiceWords_lifted (os : Os) (started : os.Started) (H : Type) (enc : TypeId × Value → H) :
    ReturnsInHanded {} Tryz.checked os 3 .any (fun w args => (Rows.sluiceWordsSpec.pre enc Tryz.prog Tryz.f3 [] false w args ∧ laidMetH Tryz.prog [("unicode/utf8.acceptRanges", Rows.laid_unicode_utf8_acceptRanges), ("unicode/utf8.first", Rows.laid_unicode_utf8_first)] w) ∧ sizedMet enc Tryz.prog Tryz.f3 (OpenSpec.ofChange Rows.sluiceWordsSpec) false w args)
      (Rows.sluiceWordsSpec.post enc Tryz.prog Tryz.f3 false true false false) := by
  refine handed_laid_shaped (C := Tryz.checked) (X := fun w _ => laidMetH Tryz.prog [("unicode/utf8.acceptRanges", Rows.laid_unicode_utf8_acceptRanges), ("unicode/utf8.first", Rows.laid_unicode_utf8_first)] w) (fun _ _ _ hh h => h.of_heap hh) own started (by kernel_rfl) Tryz.func3
    (ChangeSpec.witness_shaped (enc := enc) (C := Tryz.checked) (os := os) (X := fun w _ => laidMetH Tryz.prog [("unicode/utf8.acceptRanges", Rows.laid_unicode_utf8_acceptRanges), ("unicode/utf8.first", Rows.laid_unicode_utf8_first)] w) false (World.laidAll Tryz.prog os [("unicode/utf8.acceptRanges", Rows.laid_unicode_utf8_acceptRanges), ("unicode/utf8.first", Rows.laid_unicode_utf8_first)]) #[.slice none 0 0, .string { data := #[] }] 8 (World.laidAll_os _ _ _) (door_shape os _) (by kernel_rfl) (by kernel_rfl) (by kernel_rfl) (door_met os _)) ?_
  intro W base args ds gs before hval0 hW hsz hL hSh
  have hval : ∀ (j : Nat) t v, Tryz.f3.params[j]? = some t → args[j]? = some v → Value.okWide Tryz.prog W .any base t v := hval0
  have hW' := hW
  obtain ⟨p, q, hA0, hV, rfl, hfz, hnd⟩ := hW
  have hA : DataW.TrodAll enc Tryz.prog W 0 (fun _ => true) true Tryz.f3.params.toList args.toList ds p := hA0
  have hsz' : (DataW.weightsEach Tryz.prog (Tryz.f3.params.toList ++ Rows.sluiceWordsSpec.plain.varTypes Tryz.prog) (ds ++ gs)).all (· ≤ reachBytes) = true := hsz
  rw [Tryz.params3] at hA hval hsz'
  obtain ⟨v0, vs0, d0, ds0, p0, q0, hargs, rfl, rfl, h0, r0⟩ := trodAll_cons hA
  obtain ⟨v1, vs1, d1, ds1, p1, q1, rfl, rfl, rfl, h1, r1⟩ := trodAll_cons r0
  obtain ⟨rfl, rfl, rfl⟩ := trodAll_nil r1
  obtain rfl : args = #[v0, v1] := by cases args; simp_all
  obtain ⟨rfl, rfl⟩ := trodVars_none hV
  have lt0 : ∀ x ∈ p0, x.block < W.heap.size := by obtain ⟨m, hm⟩ := h0; exact DataW.trod_lt m _ _ _ hm
  have lt1 : ∀ x ∈ p1, x.block < W.heap.size := by obtain ⟨m, hm⟩ := h1; exact DataW.trod_lt m _ _ _ hm
  have hmax := max_of_shape hSh
  have hrb := reachBytes_lt
  obtain ⟨fs0, rf0, lf0, nf0⟩ := open_fils (hval 0 22 v0 rfl rfl) h0
  obtain ⟨x1, e1, hd1, _, w1⟩ := ChangeMaps.open_string Tryz.underlying9 (hval 1 9 v1 rfl rfl) h1
  subst e1
  clear hd1
  clear hA0 hval0 hsz'
  unfold maxLen at w1
  refine (words_law rf0 lf0 nf0 x1 hmax).mono fun e W' ⟨he, bel⟩ => ?_
  subst he
  exact ⟨_, rfl, _, _, _, [], _, [], hW', trodAll_mk1 (shut_bool Tryz.underlying4 _), (trodAll_cons_mk (Below.trod laidOut (by kernel_rfl) (of_decide_eq_true (by kernel_rfl)) h0 bel lt0) (trodAll_cons_mk (Below.trod laidOut (by kernel_rfl) (of_decide_eq_true (by kernel_rfl)) h1 bel lt1) trodAll_mk0)), rfl, bel.frame _, fun h => by cases h⟩

theorem sluiceWords_row : Rows.SluiceWordsSaid :=
  OpenClaim.holds_of_wide 3 Tryz.f3 rfl rfl rfl rfl rfl rfl rfl ⟨rfl, rfl, rfl, rfl, rfl⟩ rfl rfl rfl rfl rfl (by kernel_rfl) Tryz.func3 (by kernel_rfl)
    (of_decide_eq_true (by kernel_rfl)) (by unfold Func.isWrapper; rw [if_neg (of_decide_eq_false (by kernel_rfl))]; exact ⟨rfl, rfl⟩)
    (fun os started H enc _ => sluiceWords_lifted os started H enc)
theorem sluiceWords_holds : Rows.SluiceWordsCardSaid :=
  Claim7.holds_tied_plain_at .later [] [.data, .pinned] true (true, "d595dae2688d592c88d9fcc5d4dc641b2941fb2697a73aac7828b88e74d291dc") false
    sluiceWords_row (fun _ h => by cases h) (by kernel_rfl) (fun _ h => by cases h) sluiceWords_row_tie rfl ⟨rfl, rfl⟩ (by kernel_rfl) rfl
    (fun f fn hf hfn => by
      obtain rfl : f = 3 := Option.some.inj ((show Tryz.prog.funcNamed "sluicegate/sluicegatetop.SluiceWords" = some 3 by kernel_rfl).symm.trans hf) |>.symm
      obtain rfl : fn = Tryz.f3 := (Option.some.inj (Tryz.func3.symm.trans hfn)).symm
      exact ⟨by kernel_rfl, fun j t ht => by
        rw [Tryz.params3] at ht
        have hm : t ∈ [22, 9] := by simpa using Array.mem_of_getElem? ht
        have hall : ([22, 9].all fun u => !Tryz.prog.wantsStandIn u) = true := by kernel_rfl
        exact (show Tryz.prog.wantsStandIn t = false by simpa using List.all_eq_true.1 hall t hm)⟩)
    (by kernel_rfl)
end Go.Proofs.YtcjfelndnnhgjaaGreatDoor
