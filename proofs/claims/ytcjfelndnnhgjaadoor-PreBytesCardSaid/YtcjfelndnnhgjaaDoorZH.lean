/- Texts of this claim, one behind another: E30, G29. They state lemmas; each names its own conditions. -/
import Derived.Test.YtcjfelndnnhgjaaDoorZF
import Derived.Lib.LaidTab
import Derived.LaidMore
import Derived.Carry
import Derived.SevenTiedAt
import Derived.Stop.Joined
import Derived.ProofKit
import Derived.OpenShut
import Derived.Lay
import Derived.Shelf.Vars
import Derived.HandedShaped
import Derived.ChangeMaps5
import Derived.Test.YtcjfelndnnhgjaaDoorZG
import Derived.Lib.SmallJoins
namespace Go.Proofs.YtcjfelndnnhgjaaDoor
set_option linter.unusedVariables false
open Go.RowKit Go.Deep Go.ChangeShapes Go.WideShapes Go.ChangeAt

theorem own : ownKnob Tryd.prog.godebug = none := by kernel_rfl
theorem laidOut : laidOutB Tryd.prog = true := by kernel_rfl
theorem door_met (os : Os) (args : Array Value) : laidMetH Tryd.prog [("unicode/utf8.acceptRanges", Rows.laid_unicode_utf8_acceptRanges), ("unicode/utf8.first", Rows.laid_unicode_utf8_first)] ((World.laidAll Tryd.prog os [("unicode/utf8.acceptRanges", Rows.laid_unicode_utf8_acceptRanges), ("unicode/utf8.first", Rows.laid_unicode_utf8_first)]).forCall (fun _ _ => 0) ⟨#[], args, []⟩).memory := by
  rw [MakeChecks.laidMetH_plain _ _ _ (by kernel_rfl)]
  exact laidMet_laidAll _ (by kernel_rfl) (by kernel_rfl)
theorem door_shape (os : Os) (args : Array Value) : ((World.laidAll Tryd.prog os [("unicode/utf8.acceptRanges", Rows.laid_unicode_utf8_acceptRanges), ("unicode/utf8.first", Rows.laid_unicode_utf8_first)]).forCall (fun _ _ => 0) ⟨#[], args, []⟩).Shaped Tryd.prog := World.shaped_of_ZipB (by kernel_rfl) (by kernel_rfl)
/-- the library's variable, out of the world's shape -/
theorem max_of_shape {w : World} (h : w.ShapedOpen Tryd.prog) : Max w :=
  Go.Proofs.cell_of_shapedOpen_int (zero := #[.int .i64 0]) (t := 3) h (of_decide_eq_true (by kernel_rfl)) (by kernel_rfl) rfl (by kernel_rfl) (by kernel_rfl) Tryd.underlying3
/-- the wrap of a row that lists variables, where the walk wants the world's shape besides -/
theorem handed_laid_shaped {H : Type} {enc : TypeId × Value → H} {C : Checked} {os : Os} {f : FuncId} {fn : Func} {s : ChangeSpec} {X : World → Array Value → Prop}
    (hX : ∀ (w w' : World) (args : Array Value), w.heap = w'.heap → X w args → X w' args)
    (own : ownKnob C.prog.godebug = none) (started : os.Started) (noInit : C.prog.inits.idxOf? f = none) (hfn : C.prog.funcs[f]? = some fn)
    (witness : ∃ (w : World) (tape : Tape) (i : Input), w.os = os ∧ (w.forCall tape i).Shaped C.prog ∧ i.vars = [] ∧ Input.okWide C.prog (w.forCall tape i) .any w.heap.size f i ∧
      ((s.pre enc C.prog fn [] false (w.forCall tape i).memory i.args ∧ X (w.forCall tape i).memory i.args) ∧ sizedMet enc C.prog fn (OpenSpec.ofChange s) false (w.forCall tape i).memory i.args) ∧ ({} : Assume).holds C.prog (lone (Frame.enter C.prog f i.args .normal) [] (w.forCall tape i)))
    (contract : ∀ (W : World) (base : Nat) (args : Array Value) (ds gs : List (DataW H)) (before : List MemPlace),
      (∀ (j : Nat) t v, fn.params[j]? = some t → args[j]? = some v → Value.okWide C.prog W .any base t v) →
      DataW.Whole enc C.prog fn.params.toList s.vars false W args.toList ds gs before →
      (DataW.weightsEach C.prog (fn.params.toList ++ s.plain.varTypes C.prog) (ds ++ gs)).all (· ≤ reachBytes) = true → X W args → W.ShapedOpen C.prog →
      Calls C.prog f args W fun e W' => ∃ v, e = .returned v ∧ s.post enc C.prog fn false true false false W args v W') :
    ReturnsInHanded {} C os f .any (fun w args => (s.pre enc C.prog fn [] false w args ∧ X w args) ∧ sizedMet enc C.prog fn (OpenSpec.ofChange s) false w args) (s.post enc C.prog fn false true false false) := by
  refine returnsInHanded_of_calls own started noInit witness fun w tape i _ hsh _ hok hpre _ => ?_
  obtain ⟨_, _, _, fn', hfn', _, _, _, _, hval⟩ := hok
  obtain rfl : fn' = fn := Option.some.inj (hfn'.symm.trans hfn)
  obtain ⟨⟨⟨ds, gs, before, hw, _⟩, hx⟩, hz⟩ := hpre
  refine (contract (w.forCall tape i) w.heap.size i.args ds gs before hval (DataW.Whole.of_heap (w' := w.forCall tape i) (by rfl) hw) (hz.weights hw) (hX _ _ _ (by rfl) hx) hsh).mono fun e W' hh => ?_
  obtain ⟨v, rfl, hp⟩ := hh
  exact ChangeSpec.post_blind hp
/-- an array of three strings that came in -/
theorem open_arr3s {H : Type} {enc : TypeId × Value → H} {P : Program} {w : World} {r : Reach} {b0 t e : Nat} {v : Value} {d : DataW H} {p : List MemPlace} (hs : P.underlying t = some (.array 3 e)) (hC : P.cellsOf t = 3) (hC1 : P.cellsOf e = 1)
    (he : P.underlying e = some .string) (hv : Value.okWide P w r b0 t v) (h : DataW.Trod enc P w 0 (fun _ => true) true t v d p) :
    ∃ a b c : ByteArray, v = .agg #[.string a, .string b, .string c] ∧ a.size ≤ maxLen ∧ b.size ≤ maxLen ∧ c.size ≤ maxLen := by
  simp only [Value.okWide, hs] at hv
  obtain ⟨cs, rfl, h2, _⟩ := hv
  rw [hC] at h2
  obtain ⟨m, hf⟩ := h
  obtain ⟨l⟩ := cs
  match l, h2 with
  | [x, y, z], _ =>
    cases m with
    | zero => simp [DataW.trod] at hf
    | succ m =>
      rw [DataW.trod_step] at hf
      unfold DataW.trodStep at hf
      simp only [hs, Value.cells, hC1] at hf
      rw [if_pos (by rw [hC]; rfl)] at hf
      simp only [Option.map_eq_some_iff] at hf
      obtain ⟨ys, hy, _⟩ := hf
      rw [show List.range 3 = [0, 1, 2] from rfl] at hy
      simp only [List.mapM_cons, List.mapM_nil, bind, Option.bind_eq_some_iff, pure] at hy
      obtain ⟨y0, hy0, y1, ⟨y2, hy2, y3, ⟨y4, hy4, y5, _, _⟩, _⟩, _⟩ := hy
      obtain ⟨a, ea, _, ha⟩ := DataW.trod_string he hy0
      obtain ⟨b, eb, _, hb⟩ := DataW.trod_string he hy2
      obtain ⟨c, ec, _, hc⟩ := DataW.trod_string he hy4
      simp at ea eb ec
      subst ea; subst eb; subst ec
      exact ⟨a, b, c, rfl, ha, hb, hc⟩
end Go.Proofs.YtcjfelndnnhgjaaDoor
namespace Go.Proofs.YtcjfelndnnhgjaaDoor
set_option linter.unusedVariables false
open Go.ChangeShapes Go.WideShapes Go.ChangeAt Go.RowKit Go.Deep

/-! # files that are an argument -/
theorem flat_len {α : Type} (f : α → List Value) (size : Nat) (hf : ∀ y, (f y).length = size) : ∀ l : List α, (l.flatMap f).length = l.length * size
  | [] => by simp
  | a :: l => by rw [List.flatMap_cons, List.length_append, hf, flat_len f size hf l, List.length_cons, Nat.succ_mul, Nat.add_comm]
theorem flat_at {α : Type} (f : α → List Value) (size : Nat) (hs : 0 < size) (hf : ∀ y, (f y).length = size) : ∀ (l : List α) (j : Nat), (l.flatMap f)[j]? = l[j / size]?.bind fun y => (f y)[j % size]?
  | [], j => by simp
  | a :: l, j => by
    rw [List.flatMap_cons]
    by_cases h : j < size
    · rw [List.getElem?_append_left (by rw [hf]; exact h), Nat.div_eq_of_lt h, Nat.mod_eq_of_lt h]; rfl
    · have e1 : j / size = (j - size) / size + 1 := Nat.div_eq_sub_div hs (by omega)
      have e2 : j % size = (j - size) % size := Nat.mod_eq_sub_mod (by omega)
      rw [List.getElem?_append_right (by rw [hf]; omega), hf, flat_at f size hs hf l, e1, e2, List.getElem?_cons_succ]
theorem open_at {α : Type} {H : Type} {enc : TypeId × Value → H} {P : Program} {w : World} {t e size fuel : Nat} {cs0 : List Value} {x : DataW H × List MemPlace} (R : α → Prop)
    (ht : P.underlying t = some (.slice e)) (hc : P.cellsOf e = size) (hs : 0 < size) (f : α → List Value) (hf : ∀ y, (f y).length = size)
    (hfu : DataW.trod enc P w 0 (fun _ => true) true fuel t cs0 = some x)
    (hg : ∀ fuel cs x, DataW.trod enc P w 0 (fun _ => true) true fuel e cs = some x → cs.length = size → ∃ y : α, cs = f y ∧ R y) :
    ∃ (p : Option Addr) (c : Nat) (l : List α), cs0 = [.slice p l.length c] ∧ RO w (.slice p l.length c) size l.length (l.flatMap f) ∧ l.length ≤ c ∧ c ≤ maxLen ∧ ∀ y ∈ l, R y := by
  rcases open_slice ht hfu with ⟨hcs, _⟩ | ⟨a, len, cap, m, n, D, Pl, hcs, _, hl, hm, hmm, _, hel⟩
  · exact ⟨none, 0, [], hcs, ⟨by simp, none, 0, rfl, by simp⟩, Nat.le_refl _, Nat.zero_le _, fun y hy => by simp at hy⟩
  · have hlm : len ≤ m := by simpa using (by simpa using hmm : m = cap) ▸ hl
    rw [hc] at hel
    have hch : ∀ i, i < len → ∃ y : α, (∀ r, r < size → w.cell? ((a.add (i * size)).add r) = (f y)[r]?) ∧ R y := by
      intro i hi
      obtain ⟨cs', h1, h2⟩ := hel i (by omega)
      obtain ⟨_, h3, h4⟩ := World.cells?_some h1
      obtain ⟨y, rfl, hR⟩ := hg _ _ _ h2 h3
      exact ⟨y, h4, hR⟩
    have hch2 : ∀ i : Fin len, ∃ y : α, (∀ r, r < size → w.cell? ((a.add (i.1 * size)).add r) = (f y)[r]?) ∧ R y := fun i => hch i.1 i.2
    obtain ⟨g, hgg⟩ := Classical.axiomOfChoice hch2
    have hlen : (List.ofFn g).length = len := by simp
    refine ⟨some a, cap, List.ofFn g, by rw [hlen]; exact hcs, ?_, by rw [hlen]; exact hl, hm, fun y hy => ?_⟩
    · rw [hlen]
      refine ⟨by rw [flat_len f size hf, hlen], some a, cap, rfl, fun j u hu => ?_⟩
      rw [flat_at f size hs hf] at hu
      simp only [Option.bind_eq_some_iff] at hu
      obtain ⟨y, hy, hu⟩ := hu
      have hjl : j / size < len := by
        rcases Nat.lt_or_ge (j / size) len with h | h
        · exact h
        · rw [List.getElem?_eq_none (by simpa using h)] at hy; cases hy
      rw [List.getElem?_eq_getElem (by simpa using hjl)] at hy
      simp only [Option.some.injEq, List.getElem_ofFn] at hy
      subst hy
      have hc0 := (hgg ⟨0, Nat.lt_of_le_of_lt (Nat.zero_le _) hjl⟩).1 0 hs
      have hsp : a.spot = none := by
        have h0 : (a.add (0 * size)).add 0 = a := by simp [Addr.add]
        simp only at hc0
        rw [h0, List.getElem?_eq_getElem (by rw [hf]; exact hs)] at hc0
        exact World.cell?_spot hc0
      obtain ⟨b, o, s⟩ := a
      simp only at hsp
      subst hsp
      refine ⟨b, o, rfl, ?_⟩
      have := (hgg ⟨j / size, hjl⟩).1 (j % size) (Nat.mod_lt _ hs)
      rw [hu, Addr.add_add] at this
      simp only at this
      rw [show j / size * size + j % size = j by rw [Nat.mul_comm]; exact Nat.div_add_mod j size] at this
      rw [← this]
      congr 1
      unfold Addr.add
      split <;> simp_all
    · obtain ⟨i, rfl⟩ := List.mem_ofFn.1 hy
      exact (hgg i).2
set_option maxRecDepth 100000 in
theorem open_fils {H : Type} {enc : TypeId × Value → H} {w : World} {r : Reach} {b0 : Nat} {v : Value} {d : DataW H} {p : List MemPlace}
    (hv : Value.okWide Tryd.prog w r b0 22 v) (h : DataW.Trod enc Tryd.prog w 0 (fun _ => true) true 22 v d p) : ∃ l : List Fil, RO w v 2 l.length (filCells l) ∧ l.length ≤ 9223372036854775807 ∧ ∀ f ∈ l, f.name.size ≤ maxLen := by
  obtain ⟨a0, len0, cap0, rfl⟩ := okWide_slice Tryd.underlying22 hv
  obtain ⟨fuel, hfu⟩ := h
  obtain ⟨p', c, l, h1, h2, h3, h4, h5⟩ := open_at (fun y : Fil => y.name.size ≤ maxLen) Tryd.underlying22 (size := 2) (by kernel_rfl) Nat.two_pos (fun y => [.string y.name, .string y.text]) (fun _ => rfl) hfu (fun fuel cs x hx hl => by
    obtain ⟨y0, y1, n, hxe, _, k0, k1⟩ := trod_struct2 Tryd.underlying47 hx
    match cs, hl with
    | [c0, c1], _ =>
      have hc : Tryd.prog.cellsOf 9 = 1 := by kernel_rfl
      obtain ⟨a, e0, x0, m0⟩ := DataW.trod_string Tryd.underlying9 k0
      obtain ⟨b, e1, x1, m1⟩ := DataW.trod_string Tryd.underlying9 k1
      simp [hc] at e0 e1
      exact ⟨⟨a, b⟩, by rw [e0, e1], m0⟩)
  have e : Value.slice a0 len0 cap0 = .slice p' l.length c := by simpa [Value.cells] using h1
  refine ⟨l, by rw [e]; exact h2, ?_, h5⟩
  have := Nat.le_trans h3 h4
  unfold maxLen at this
  omega
end Go.Proofs.YtcjfelndnnhgjaaDoor
