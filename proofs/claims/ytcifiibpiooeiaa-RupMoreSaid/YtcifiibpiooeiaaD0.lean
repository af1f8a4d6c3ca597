import Derived.Test.YtcifiibpiooeiaaB6
import Derived.Deep.Matrix
import Derived.ChangeMaps5
import Derived.WideShapes
namespace Go.Proofs.Ytcifiibpiooeiaa
set_option linter.unusedVariables false
open Go.RowKit Go.Deep Go.ChangeShapes Go.WideShapes Go.ChangeAt

/-- cells that a slice's address reads -/
theorem ro_cells {w : World} {p : Option Addr} {n c : Nat} {cs : List Value} (hn : cs.length = n) (h0 : 0 < n → ∃ a, p = some a) (h : ∀ a, p = some a → ∀ j u, cs[j]? = some u → w.cell? (a.add j) = some u) : RO w (.slice p n c) 1 n cs := by
  refine ⟨by omega, p, c, rfl, fun j u hj => ?_⟩
  have hjl : j < cs.length := (List.getElem?_eq_some_iff.1 hj).1
  obtain ⟨a, rfl⟩ := h0 (by omega)
  have hc := h a rfl j u hj
  have h1 := h a rfl 0 (cs[0]'(by omega)) (List.getElem?_eq_getElem (by omega))
  have hsp : a.spot = none := by
    have h2 : a.add 0 = a := by simp [Addr.add]
    rw [h2] at h1
    exact World.cell?_spot h1
  obtain ⟨b, o, s⟩ := a
  simp only at hsp
  subst hsp
  refine ⟨b, o, rfl, ?_⟩
  rw [← hc]
  congr 1
  unfold Addr.add
  split
  · rename_i e; rw [e]; rfl
  · rfl
theorem open_nest_at {H : Type} {enc : TypeId × Value → H} {P : Program} {w : World} {t e q : TypeId} {cs0 : List Value} {x : DataW H × List MemPlace} {fuel : Nat}
    (ht : P.underlying t = some (.slice e)) (he : P.underlying e = some (.slice q)) (hq : P.underlying q = some (.int .i64)) (ce : P.cellsOf e = 1) (cq : P.cellsOf q = 1)
    (hfu : DataW.trod enc P w 0 (fun _ => true) true fuel t cs0 = some x) :
    ∃ (pl : Option Addr) (cl : Nat) (sls : List (Option Addr × Nat × Nat)) (ll : List (List Int)), cs0 = [.slice pl ll.length cl] ∧ RO w (.slice pl ll.length cl) 1 ll.length (slvs sls) ∧ Nest w sls ll ∧ ll.length ≤ maxLen := by
  rcases open_int_rows ht he hq ce cq hfu with ⟨hcs, _⟩ | ⟨a, len, cap, A, L, C, Z, hcs, _, hl, hm, _, hr⟩
  · subst hcs
    exact ⟨none, 0, [], [], rfl, ⟨by simp [slvs], none, 0, rfl, by simp [slvs]⟩, ⟨rfl, fun i hi => absurd hi (by simp)⟩, by simp [maxLen]⟩
  · subst hcs
    have hll : ((List.range len).map fun r => (Z r).take (L r)).length = len := by simp
    refine ⟨some a, cap, (List.range len).map fun r => (A r, L r, C r), (List.range len).map fun r => (Z r).take (L r), by rw [hll], ?_, ⟨by simp, fun i hi => ?_⟩, by omega⟩
    · rw [hll]
      refine ro_cells (by simp [slvs]) (fun _ => ⟨a, rfl⟩) fun a' ea j u hj => ?_
      cases ea
      unfold slvs at hj
      rw [List.getElem?_map, List.getElem?_map] at hj
      have hjl : j < len := by
        rcases Nat.lt_or_ge j len with h | h
        · exact h
        · rw [List.getElem?_eq_none (by simpa using h)] at hj; simp at hj
      rw [List.getElem?_range hjl] at hj
      simp only [Option.map_some, Option.some.injEq] at hj
      subst hj
      exact (hr j (by omega)).1
    · rw [hll] at hi
      obtain ⟨h1, h2, h3, h4, h5, h6, h7⟩ := hr i (by omega)
      have e1 : (((List.range len).map fun r => (A r, L r, C r)).getD i default) = (A i, L i, C i) := by simp [List.getD, List.getElem?_range hi]
      have e2 : (((List.range len).map fun r => (Z r).take (L r)).getD i []) = (Z i).take (L i) := by simp [List.getD, List.getElem?_range hi]
      have e3 : ((Z i).take (L i)).length = L i := by simp; omega
      rw [e1, e2, e3]
      refine ⟨rfl, h2, ?_⟩
      unfold slv
      refine ro_cells (by unfold ints; rw [List.length_map]; exact e3) (fun hp => ?_) fun a' ea j u hj => ?_
      · cases hA : A i with
        | none => exact absurd (h6 hA) (by have := h2; have hp' : 0 < L i := hp; omega)
        | some a => exact ⟨a, rfl⟩
      · unfold ints at hj
        rw [List.getElem?_map] at hj
        obtain ⟨x, hx, rfl⟩ := Option.map_eq_some_iff.1 hj
        have hjl : j < L i := by rw [← e3]; exact (List.getElem?_eq_some_iff.1 hx).1
        have hc := (h7 a' ea).2 j (by omega)
        rw [List.getElem?_take, if_pos hjl] at hx
        rw [hc]
        simp [List.getD, hx]
theorem open_nest {H : Type} {enc : TypeId × Value → H} {P : Program} {w : World} {t e q : TypeId} {v : Value} {d : DataW H} {ps : List MemPlace} {r : Reach} {b0 : Nat}
    (ht : P.underlying t = some (.slice e)) (he : P.underlying e = some (.slice q)) (hq : P.underlying q = some (.int .i64)) (ce : P.cellsOf e = 1) (cq : P.cellsOf q = 1)
    (hval : Value.okWide P w r b0 t v) (h : DataW.Trod enc P w 0 (fun _ => true) true t v d ps) :
    ∃ (pl : Option Addr) (cl : Nat) (sls : List (Option Addr × Nat × Nat)) (ll : List (List Int)), v = .slice pl ll.length cl ∧ RO w (.slice pl ll.length cl) 1 ll.length (slvs sls) ∧ Nest w sls ll ∧ ll.length ≤ maxLen := by
  obtain ⟨a0, len0, cap0, rfl⟩ := okWide_slice ht hval
  obtain ⟨fuel, hfu⟩ := h
  obtain ⟨pl, cl, sls, ll, hc, h1, h2, h3⟩ := open_nest_at ht he hq ce cq hfu
  exact ⟨pl, cl, sls, ll, by simpa [Value.cells] using hc, h1, h2, h3⟩
/-- an array of two lists of lists -/
theorem open_nest2 {H : Type} {enc : TypeId × Value → H} {P : Program} {w : World} {ta t e q : TypeId} {v : Value} {d : DataW H} {ps : List MemPlace} {r : Reach} {b0 : Nat}
    (hs : P.underlying ta = some (.array 2 t)) (hC : P.cellsOf ta = 2) (hC1 : P.cellsOf t = 1)
    (ht : P.underlying t = some (.slice e)) (he : P.underlying e = some (.slice q)) (hq : P.underlying q = some (.int .i64)) (ce : P.cellsOf e = 1) (cq : P.cellsOf q = 1)
    (hv : Value.okWide P w r b0 ta v) (h : DataW.Trod enc P w 0 (fun _ => true) true ta v d ps) :
    ∃ (pa : Option Addr) (ca : Nat) (sa : List (Option Addr × Nat × Nat)) (la : List (List Int)) (pb : Option Addr) (cb : Nat) (sb : List (Option Addr × Nat × Nat)) (lb : List (List Int)), v = .agg #[.slice pa la.length ca, .slice pb lb.length cb] ∧
      RO w (.slice pa la.length ca) 1 la.length (slvs sa) ∧ Nest w sa la ∧ la.length ≤ maxLen ∧ RO w (.slice pb lb.length cb) 1 lb.length (slvs sb) ∧ Nest w sb lb ∧ lb.length ≤ maxLen := by
  simp only [Value.okWide, hs] at hv
  obtain ⟨cs, rfl, h2, _⟩ := hv
  rw [hC] at h2
  obtain ⟨m, hf⟩ := h
  obtain ⟨l⟩ := cs
  match l, h2 with
  | [x, y], _ =>
    cases m with
    | zero => simp [DataW.trod] at hf
    | succ m =>
      rw [DataW.trod_step] at hf
      unfold DataW.trodStep at hf
      simp only [hs, Value.cells, hC1] at hf
      rw [if_pos (by rw [hC]; rfl)] at hf
      simp only [Option.map_eq_some_iff] at hf
      obtain ⟨ys, hy, _⟩ := hf
      rw [show List.range 2 = [0, 1] from rfl] at hy
      simp only [List.mapM_cons, List.mapM_nil, bind, Option.bind_eq_some_iff, pure] at hy
      obtain ⟨y0, hy0, y1, ⟨y2, hy2, y3, _, _⟩, _⟩ := hy
      obtain ⟨pa, ca, sa, la, ea, h1, h2, h3⟩ := open_nest_at ht he hq ce cq hy0
      obtain ⟨pb, cb, sb, lb, eb, k1, k2, k3⟩ := open_nest_at ht he hq ce cq hy2
      simp at ea eb
      subst ea; subst eb
      exact ⟨pa, ca, sa, la, pb, cb, sb, lb, rfl, h1, h2, h3, k1, k2, k3⟩
end Go.Proofs.Ytcifiibpiooeiaa
