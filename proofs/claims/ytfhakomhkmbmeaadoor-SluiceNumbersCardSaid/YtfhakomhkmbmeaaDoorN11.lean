import Derived.Test.YtfhakomhkmbmeaaDoorN10
import Derived.Lib.LaidTab
import Derived.LaidMore
import Derived.Carry
import Derived.SevenTiedAt
import Derived.Stop.Joined
import Derived.ProofKit
import Derived.OpenShut
import Derived.Lay
import Derived.Shelf.Vars
import Derived.HandedShaped
import Derived.ChangeMaps5
namespace Go.Proofs.YtfhakomhkmbmeaaDoor
set_option linter.unusedVariables false
open Go.RowKit Go.Deep Go.ChangeShapes Go.WideShapes Go.ChangeAt

/-- a slice of bits that is read, found by its cells -/
theorem ro_bools_at {H : Type} {enc : TypeId × Value → H} {P : Program} {w : World} {t e fuel : Nat} {cs0 : List Value} {x : DataW H × List MemPlace}
    (ht : P.underlying t = some (.slice e)) (he : P.underlying e = some .bool) (hc : P.cellsOf e = 1)
    (hfu : DataW.trod enc P w 0 (fun _ => true) true fuel t cs0 = some x) :
    ∃ (p : Option Addr) (c : Nat) (l : List Bool), cs0 = [.slice p l.length c] ∧ RO w (.slice p l.length c) 1 l.length (bools l) ∧ l.length ≤ maxLen := by
  rcases open_slice ht hfu with ⟨hcs, _⟩ | ⟨a, len, cap, m, n, D, Pl, hcs, _, hl, hm, hmm, _, hel⟩
  · exact ⟨none, 0, [], hcs, ⟨by simp [bools], none, 0, rfl, by simp [bools]⟩, by simp [maxLen]⟩
  · have hlm : len ≤ m := by simpa using (by simpa using hmm : m = cap) ▸ hl
    rw [hc] at hel
    have hch : ∀ i, i < len → ∃ y : Bool, w.cell? (a.add i) = some (.bool y) := by
      intro i hi
      obtain ⟨cs', h1, h2⟩ := hel i (by omega)
      obtain ⟨_, h3, h4⟩ := World.cells?_some h1
      obtain ⟨b, hb, _⟩ := DataW.trod_bool he h2
      subst hb
      have := h4 0 (by omega)
      rw [Addr.add_add] at this
      simp only [Nat.mul_one, Nat.add_zero] at this
      exact ⟨b, this⟩
    obtain ⟨g, hgg⟩ := choose_lt hch
    have hlen : ((List.range len).map g).length = len := by simp
    refine ⟨some a, cap, (List.range len).map g, by rw [hlen]; exact hcs, ?_, by rw [hlen]; omega⟩
    rw [hlen]
    refine ⟨by simp [bools], some a, cap, rfl, fun j u hj => ?_⟩
    rw [bools_getElem?] at hj
    have hjl : j < len := by
      rcases Nat.lt_or_ge j len with h | h
      · exact h
      · rw [List.getElem?_eq_none (by simpa using h)] at hj; simp at hj
    rw [List.getElem?_map, List.getElem?_range hjl] at hj
    simp only [Option.map_some, Option.some.injEq] at hj
    subst hj
    have h1 := hgg 0 (by omega)
    have hsp : a.spot = none := by
      have h2 : a.add 0 = a := by simp [Addr.add]
      rw [h2] at h1
      exact World.cell?_spot h1
    obtain ⟨b, o, s⟩ := a
    simp only at hsp
    subst hsp
    refine ⟨b, o, rfl, ?_⟩
    have := hgg j hjl
    rw [← this]
    congr 1
    unfold Addr.add
    split
    · rename_i e; rw [e]; rfl
    · rfl
/-- an argument that is a ref's number -/
theorem open_lit {H : Type} {enc : TypeId × Value → H} {P : Program} {w : World} {r : Reach} {b0 t ts e : Nat} {f0 f1 f2 : Field} {v : Value} {d : DataW H} {p : List MemPlace} (hs : P.underlying t = some (.struct #[f0, f1, f2])) (hone : Deep.oneCellFields P #[f0, f1, f2] = true) (hC : P.cellsOf t = 3)
    (ht : P.underlying ts = some (.slice e)) (he : P.underlying e = some .bool) (hce : P.cellsOf e = 1) (hf : f0.type = ts ∧ f1.type = e ∧ f2.type = e)
    (hv : Value.okWide P w r b0 t v) (h : DataW.Trod enc P w 0 (fun _ => true) true t v d p) :
    ∃ (pl : Option Addr) (c : Nat) (l : List Bool) (sg sz : Bool), v = .agg #[.slice pl l.length c, .bool sg, .bool sz] ∧ RO w (.slice pl l.length c) 1 l.length (bools l) ∧ l.length ≤ maxLen := by
  obtain ⟨v0, v1, v2, y0, y1, y2, n, rfl, _, _, h0, h1, h2⟩ := Joins.open_agg3 hs hone hC hv h
  obtain ⟨e0, e1, e2⟩ := hf
  rw [e0] at h0
  rw [e1] at h1
  rw [e2] at h2
  obtain ⟨pl, c, l, k0, hr, hl⟩ := ro_bools_at ht he hce h0
  obtain ⟨a, k1, _⟩ := DataW.trod_bool he h1
  obtain ⟨b, k2, _⟩ := DataW.trod_bool he h2
  simp only [List.cons.injEq, and_true] at k0 k1 k2
  subst k0 k1 k2
  exact ⟨pl, c, l, a, b, rfl, hr, hl⟩
/-- what Own makes of it -/
theorem litin_of {w : World} {p : Option Addr} {c : Nat} {l : List Bool} (hr : RO w (.slice p l.length c) 1 l.length (bools l)) (hl : l.length ≤ 9223372036854775807) : ∃ N X q, LitIn w p c l.length N X q := by
  by_cases h : 1 ≤ l.length ∧ l.length ≤ 128
  · exact ⟨l.length, valB l, _, fun w' hb => own_of (err := 0) fun w'' hb' => of_good (hr.below (hb.trans (hb'.mono hb.size))) h.1 h.2, rfl, ofB_lt _ _, h.2⟩
  · exact ⟨0, 0, _, fun w' hb => own_of (err := 2) fun w'' hb' => of_bad (hr.below (hb.trans (hb'.mono hb.size))) hl (by omega), rfl, by decide, by decide⟩
theorem numbers_law2 {w : World} {p0 p1 : Option Addr} {c0 c1 : Nat} {l0 l1 : List Bool} (sg0 sz0 sg1 sz1 : Bool) (hr0 : RO w (.slice p0 l0.length c0) 1 l0.length (bools l0)) (hl0 : l0.length ≤ 9223372036854775807) (hr1 : RO w (.slice p1 l1.length c1) 1 l1.length (bools l1)) (hl1 : l1.length ≤ 9223372036854775807) (ht : Tab w) (hm : Max w) :
    Calls Tryd.prog 3 #[.agg #[.slice p0 l0.length c0, .bool sg0, .bool sz0], .agg #[.slice p1 l1.length c1, .bool sg1, .bool sz1]] w fun e w' => e = .returned (.bool true) ∧ Below w.heap.size w w' := by
  obtain ⟨N, X, q, hA⟩ := litin_of hr0 hl0
  obtain ⟨M, Y, q', hB⟩ := litin_of hr1 hl1
  exact numbers_law sg0 sz0 sg1 sz1 q q' hA hB ht hm

theorem gPow : Tryd.prog.globalNamed "internal/strconv.uint64pow10" = some 1 := by kernel_rfl
theorem pow_data {H : Type} : (Rows.laid_internal_strconv_uint64pow10 : DataW H) = Lib.tabData .u64 Lib.pow10Tab := by
  unfold Rows.laid_internal_strconv_uint64pow10 Lib.tabData
  rw [show Lib.pow10Tab = [1, 10, 100, 1000, 10000, 100000, 1000000, 10000000, 100000000, 1000000000, 10000000000, 100000000000, 1000000000000, 10000000000000, 100000000000000, 1000000000000000, 10000000000000000, 100000000000000000, 1000000000000000000, 10000000000000000000] from by decide +kernel]
  rfl
/-- what the laid condition gives the walks: the powers of ten -/
theorem tab_of_laid {W : World} (h : laidMetH Tryd.prog [("math/bits.deBruijn32tab", Rows.laid_math_bits_deBruijn32tab), ("math/bits.deBruijn64tab", Rows.laid_math_bits_deBruijn64tab), ("internal/strconv.uint64pow10", Rows.laid_internal_strconv_uint64pow10)] W) : Lib.TabIs Tryd.prog W "internal/strconv.uint64pow10" .u64 Lib.pow10Tab := by
  rw [MakeChecks.laidMetH_plain _ _ _ (by kernel_rfl)] at h
  obtain ⟨ps, ⟨g0, t0, cs0, f0, p0, q0, hg0, ht0, hv0, hd0, ⟨g1, t1, cs1, f1, p1, q1, hg1, ht1, hv1, hd1, ⟨g2, t2, cs2, f2, p2, q2, hg2, ht2, hv2, hd2, _, _⟩, _⟩, _⟩, _, _⟩ := h
  obtain rfl := Option.some.inj (gPow.symm.trans hg2)
  unfold Lib.TabIs
  rw [hv2]
  obtain ⟨e, n, hty, hte, he, hce, hct⟩ : ∃ e n, (Tryd.prog.globals[1]?).map (·.type) = some t2 ∧ Tryd.prog.underlying t2 = some (.array n e) ∧ Tryd.prog.underlying e = some (.int .u64) ∧ Tryd.prog.cellsOf e = 1 ∧ Tryd.prog.cellsOf t2 = n := by
    have hq : (Tryd.prog.globals[1]?).map (·.type) = some 102 := by kernel_rfl
    obtain rfl := Option.some.inj (hq.symm.trans ht2)
    exact ⟨60, 20, hq, Tryd.underlying102, Tryd.underlying60, by kernel_rfl, by kernel_rfl⟩
  rw [← Lib.cells_of_tab hte he hce hct (by rw [← pow_data]; exact hd2)]
/-- a world in which all listed variables lie as listed -/
theorem door_met (os : Os) (args : Array Value) : laidMetH Tryd.prog [("math/bits.deBruijn32tab", Rows.laid_math_bits_deBruijn32tab), ("math/bits.deBruijn64tab", Rows.laid_math_bits_deBruijn64tab), ("internal/strconv.uint64pow10", Rows.laid_internal_strconv_uint64pow10)] ((World.laidAll Tryd.prog os [("math/bits.deBruijn32tab", Rows.laid_math_bits_deBruijn32tab), ("math/bits.deBruijn64tab", Rows.laid_math_bits_deBruijn64tab), ("internal/strconv.uint64pow10", Rows.laid_internal_strconv_uint64pow10)]).forCall (fun _ _ => 0) ⟨#[], args, []⟩).memory := by
  rw [MakeChecks.laidMetH_plain _ _ _ (by kernel_rfl)]
  exact laidMet_laidAll _ (by kernel_rfl) (by kernel_rfl)
theorem door_shape (os : Os) (args : Array Value) : ((World.laidAll Tryd.prog os [("math/bits.deBruijn32tab", Rows.laid_math_bits_deBruijn32tab), ("math/bits.deBruijn64tab", Rows.laid_math_bits_deBruijn64tab), ("internal/strconv.uint64pow10", Rows.laid_internal_strconv_uint64pow10)]).forCall (fun _ _ => 0) ⟨#[], args, []⟩).Shaped Tryd.prog := World.shaped_of_ZipB (by kernel_rfl) (by kernel_rfl)
/-- the library's variable, out of the world's shape -/
theorem max_of_shape {w : World} (h : w.ShapedOpen Tryd.prog) : Max w :=
  Go.Proofs.cell_of_shapedOpen_int (zero := #[.int .i64 0]) (t := 3) h (of_decide_eq_true (by kernel_rfl)) (by kernel_rfl) rfl (by kernel_rfl) (by kernel_rfl) Tryd.underlying3
/-- the wrap of a row that lists variables, where the walk wants the world's shape besides -/
theorem handed_laid_shaped {H : Type} {enc : TypeId × Value → H} {C : Checked} {os : Os} {f : FuncId} {fn : Func} {s : ChangeSpec} {X : World → Array Value → Prop}
    (hX : ∀ (w w' : World) (args : Array Value), w.heap = w'.heap → X w args → X w' args)
    (own : ownKnob C.prog.godebug = none) (started : os.Started) (noInit : C.prog.inits.idxOf? f = none) (hfn : C.prog.funcs[f]? = some fn)
    (witness : ∃ (w : World) (tape : Tape) (i : Input), w.os = os ∧ (w.forCall tape i).Shaped C.prog ∧ i.vars = [] ∧ Input.okWide C.prog (w.forCall tape i) .any w.heap.size f i ∧
      ((s.pre enc C.prog fn [] false (w.forCall tape i).memory i.args ∧ X (w.forCall tape i).memory i.args) ∧ sizedMet enc C.prog fn (OpenSpec.ofChange s) false (w.forCall tape i).memory i.args) ∧ ({} : Assume).holds C.prog (lone (Frame.enter C.prog f i.args .normal) [] (w.forCall tape i)))
    (contract : ∀ (W : World) (base : Nat) (args : Array Value) (ds gs : List (DataW H)) (before : List MemPlace),
      (∀ (j : Nat) t v, fn.params[j]? = some t → args[j]? = some v → Value.okWide C.prog W .any base t v) →
      DataW.Whole enc C.prog fn.params.toList s.vars false W args.toList ds gs before →
      (DataW.weightsEach C.prog (fn.params.toList ++ s.plain.varTypes C.prog) (ds ++ gs)).all (· ≤ reachBytes) = true → X W args → W.ShapedOpen C.prog →
      Calls C.prog f args W fun e W' => ∃ v, e = .returned v ∧ s.post enc C.prog fn false true false false W args v W') :
    ReturnsInHanded {} C os f .any (fun w args => (s.pre enc C.prog fn [] false w args ∧ X w args) ∧ sizedMet enc C.prog fn (OpenSpec.ofChange s) false w args) (s.post enc C.prog fn false true false false) := by
  refine returnsInHanded_of_calls own started noInit witness fun w tape i _ hsh _ hok hpre _ => ?_
  obtain ⟨_, _, _, fn', hfn', _, _, _, _, hval⟩ := hok
  obtain rfl : fn' = fn := Option.some.inj (hfn'.symm.trans hfn)
  obtain ⟨⟨⟨ds, gs, before, hw, _⟩, hx⟩, hz⟩ := hpre
  refine (contract (w.forCall tape i) w.heap.size i.args ds gs before hval (DataW.Whole.of_heap (w' := w.forCall tape i) (by rfl) hw) (hz.weights hw) (hX _ _ _ (by rfl) hx) hsh).mono fun e W' hh => ?_
  obtain ⟨v, rfl, hp⟩ := hh
  exact ChangeSpec.post_blind hp
end Go.Proofs.YtfhakomhkmbmeaaDoor
