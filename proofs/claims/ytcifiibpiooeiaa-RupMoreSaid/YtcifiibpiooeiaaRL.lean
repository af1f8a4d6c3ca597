import Derived.Test.YtcifiibpiooeiaaD0
import Derived.ProofKit
import Derived.OpenShut
namespace Go.Proofs.Ytcifiibpiooeiaa
set_option linter.unusedVariables false
open Go.RowKit Go.Deep Go.ChangeShapes Go.WideShapes Go.ChangeAt

theorem own : ownKnob Try.prog.godebug = none := by kernel_rfl
theorem laidOut : laidOutB Try.prog = true := by kernel_rfl
/-- a slice of numbers that is read, found by its cells -/
theorem ro_ints_at {H : Type} {enc : TypeId × Value → H} {P : Program} {w : World} {t e fuel : Nat} {cs0 : List Value} {x : DataW H × List MemPlace}
    (ht : P.underlying t = some (.slice e)) (he : P.underlying e = some (.int .i64)) (hc : P.cellsOf e = 1)
    (hfu : DataW.trod enc P w 0 (fun _ => true) true fuel t cs0 = some x) :
    ∃ (p : Option Addr) (c : Nat) (l : List Int), cs0 = [.slice p l.length c] ∧ RO w (.slice p l.length c) 1 l.length (ints l) ∧ l.length ≤ maxLen := by
  rcases open_slice ht hfu with ⟨hcs, _⟩ | ⟨a, len, cap, m, n, D, Pl, hcs, _, hl, hm, hmm, _, hel⟩
  · exact ⟨none, 0, [], hcs, ⟨by simp [ints], none, 0, rfl, by simp [ints]⟩, by simp [maxLen]⟩
  · have hlm : len ≤ m := by simpa using (by simpa using hmm : m = cap) ▸ hl
    rw [hc] at hel
    have hch : ∀ i, i < len → ∃ y : Int, w.cell? (a.add i) = some (.int .i64 y) := by
      intro i hi
      obtain ⟨cs', h1, h2⟩ := hel i (by omega)
      obtain ⟨_, h3, h4⟩ := World.cells?_some h1
      obtain ⟨b, hb, _⟩ := DataW.trod_int he h2
      subst hb
      have := h4 0 (by omega)
      rw [Addr.add_add] at this
      simp only [Nat.mul_one, Nat.add_zero] at this
      exact ⟨b, this⟩
    obtain ⟨g, hgg⟩ := choose_lt hch
    have hlen : ((List.range len).map g).length = len := by simp
    refine ⟨some a, cap, (List.range len).map g, by rw [hlen]; exact hcs, ?_, by rw [hlen]; omega⟩
    rw [hlen]
    refine ro_cells (by simp [ints]) (fun _ => ⟨a, rfl⟩) fun a' ea j u hj => ?_
    cases ea
    rw [ints_getElem?] at hj
    have hjl : j < len := by
      rcases Nat.lt_or_ge j len with h | h
      · exact h
      · rw [List.getElem?_eq_none (by simpa using h)] at hj; simp at hj
    rw [List.getElem?_map, List.getElem?_range hjl] at hj
    simp only [Option.map_some, Option.some.injEq] at hj
    subst hj
    exact hgg j hjl
/-- an array of two lists of numbers -/
theorem open_ints2 {H : Type} {enc : TypeId × Value → H} {P : Program} {w : World} {ta t e : TypeId} {v : Value} {d : DataW H} {ps : List MemPlace} {r : Reach} {b0 : Nat}
    (hs : P.underlying ta = some (.array 2 t)) (hC : P.cellsOf ta = 2) (hC1 : P.cellsOf t = 1)
    (ht : P.underlying t = some (.slice e)) (he : P.underlying e = some (.int .i64)) (ce : P.cellsOf e = 1)
    (hv : Value.okWide P w r b0 ta v) (h : DataW.Trod enc P w 0 (fun _ => true) true ta v d ps) :
    ∃ (pa : Option Addr) (ca : Nat) (la : List Int) (pb : Option Addr) (cb : Nat) (lb : List Int), v = .agg #[.slice pa la.length ca, .slice pb lb.length cb] ∧
      RO w (.slice pa la.length ca) 1 la.length (ints la) ∧ la.length ≤ maxLen ∧ RO w (.slice pb lb.length cb) 1 lb.length (ints lb) ∧ lb.length ≤ maxLen := by
  simp only [Value.okWide, hs] at hv
  obtain ⟨cs, rfl, h2, _⟩ := hv
  rw [hC] at h2
  obtain ⟨m, hf⟩ := h
  obtain ⟨l⟩ := cs
  match l, h2 with
  | [x, y], _ =>
    cases m with
    | zero => simp [DataW.trod] at hf
    | succ m =>
      rw [DataW.trod_step] at hf
      unfold DataW.trodStep at hf
      simp only [hs, Value.cells, hC1] at hf
      rw [if_pos (by rw [hC]; rfl)] at hf
      simp only [Option.map_eq_some_iff] at hf
      obtain ⟨ys, hy, _⟩ := hf
      rw [show List.range 2 = [0, 1] from rfl] at hy
      simp only [List.mapM_cons, List.mapM_nil, bind, Option.bind_eq_some_iff, pure] at hy
      obtain ⟨y0, hy0, y1, ⟨y2, hy2, y3, _, _⟩, _⟩ := hy
      obtain ⟨pa, ca, la, ea, h1, h2⟩ := ro_ints_at ht he ce hy0
      obtain ⟨pb, cb, lb, eb, k1, k2⟩ := ro_ints_at ht he ce hy2
      simp at ea eb
      subst ea; subst eb
      exact ⟨pa, ca, la, pb, cb, lb, rfl, h1, h2, k1, k2⟩
end Go.Proofs.Ytcifiibpiooeiaa
