import Derived.Test.YtonippdileikbaaL1
import Derived.Test.YtonippdileikbaaA13
namespace Go.Proofs.Ytonippdileikbaa
set_option linter.unusedVariables false
open Go.ChangeShapes Go.WideShapes Go.ChangeAt Go.RowKit Go.Deep

theorem weightsAll_mem {H : Type} {P : Program} {e : TypeId} {d : DataW H} {n : Nat} : ∀ {l : List (DataW H)}, d ∈ l → n ∈ d.weights P e → n ∈ DataW.weightsAll P e l
  | d0 :: l, hd, hn => by
    simp only [DataW.weightsAll, List.mem_append]
    rcases List.mem_cons.1 hd with rfl | h
    · exact .inl hn
    · exact .inr (weightsAll_mem h hn)
  | [], hd, _ => by cases hd

theorem ro_open2 {α : Type} [Inhabited α] {H : Type} {enc : TypeId × Value → H} {P : Program} {w : World} {t e size : Nat} {v : Value} {d : DataW H} {ps : List MemPlace} {r : Reach} {b0 : Nat} (R : α → DataW H → Prop)
    (ht : P.underlying t = some (.slice e)) (hc : P.cellsOf e = size) (hs : 0 < size) (f : α → List Value) (hf : ∀ y, (f y).length = size)
    (hval : Value.okWide P w r b0 t v) (h : DataW.Trod enc P w 0 (fun _ => true) true t v d ps)
    (hg : ∀ fuel cs x, DataW.trod enc P w 0 (fun _ => true) true fuel e cs = some x → cs.length = size → ∃ y : α, cs = f y ∧ R y x.1) :
    ∃ l : List α, RO w v size l.length (l.flatMap f) ∧ l.length ≤ maxLen ∧ (∀ p n c, v = .slice p n c → n ≤ c ∧ c ≤ maxLen) ∧ ∀ i, i < l.length → ∃ D, R (l.getD i default) D ∧ ∀ n ∈ D.weights P e, n ∈ d.weights P t := by
  obtain ⟨a0, len0, cap0, rfl⟩ := okWide_slice ht hval
  obtain ⟨fuel, hfu⟩ := h
  rcases open_slice ht hfu with ⟨hcs, _⟩ | ⟨a, len, cap, m, n, D, Pl, hcs, _, hl, hm, hmm, hx, hel⟩
  · simp [Value.cells] at hcs
    obtain ⟨rfl, rfl, rfl⟩ := hcs
    exact ⟨[], ⟨by simp, none, 0, rfl, by simp⟩, by simp [maxLen], fun p n c h => by simp only [Value.slice.injEq] at h; omega, fun i hi => absurd hi (Nat.not_lt_zero _)⟩
  · simp [Value.cells] at hcs
    obtain ⟨rfl, rfl, rfl⟩ := hcs
    have hlm : len0 ≤ m := by simpa using (by simpa using hmm : m = cap0) ▸ hl
    rw [hc] at hel
    have hch : ∀ i, i < len0 → ∃ y : α, (∀ r, r < size → w.cell? ((a.add (i * size)).add r) = (f y)[r]?) ∧ R y (D i) := by
      intro i hi
      obtain ⟨cs', h1, h2⟩ := hel i (by omega)
      obtain ⟨_, h3, h4⟩ := World.cells?_some h1
      obtain ⟨y, rfl, hR⟩ := hg _ _ _ h2 h3
      exact ⟨y, h4, hR⟩
    obtain ⟨g, hgg⟩ := choose_lt hch
    refine ⟨(List.range len0).map g, ⟨flatMap_len f size hf _, some a, cap0, by simp, ?_⟩, by simp; omega, fun p n c h => by simp only [Value.slice.injEq] at h; omega, ?_⟩
    · intro j u hu
      rw [flatMap_at f size hs hf] at hu
      simp only [List.getElem?_map, Option.bind_eq_some_iff] at hu
      obtain ⟨y, hy, hu⟩ := hu
      rw [Option.map_eq_some_iff] at hy
      obtain ⟨i, hi, rfl⟩ := hy
      have hjl : j / size < len0 := by
        rcases Nat.lt_or_ge (j / size) len0 with h | h
        · exact h
        · rw [List.getElem?_eq_none (by simpa using h)] at hi; cases hi
      rw [List.getElem?_range hjl] at hi
      obtain rfl : j / size = i := by simpa using hi
      have hc0 := (hgg 0 (Nat.lt_of_le_of_lt (Nat.zero_le _) hjl)).1 0 hs
      have hsp : a.spot = none := by
        have h0 : (a.add (0 * size)).add 0 = a := by simp [Addr.add]
        rw [h0, List.getElem?_eq_getElem (by rw [hf]; exact hs)] at hc0
        exact World.cell?_spot hc0
      obtain ⟨b, o, s⟩ := a
      simp only at hsp
      subst hsp
      refine ⟨b, o, rfl, ?_⟩
      have := (hgg (j / size) hjl).1 (j % size) (Nat.mod_lt _ hs)
      rw [hu, Addr.add_add] at this
      rw [show j / size * size + j % size = j by rw [Nat.mul_comm]; exact Nat.div_add_mod j size] at this
      rw [← this]
      congr 1
      unfold Addr.add
      split <;> simp_all
    · intro i hi
      have hi' : i < len0 := by simpa using hi
      refine ⟨D i, ?_, fun n hn => ?_⟩
      · have := (hgg i hi').2
        simpa [List.getD, List.getElem?_range hi'] using this
      · simp only [Prod.mk.injEq] at hx
        rw [hx.1]
        simp only [DataW.weights, ht, List.mem_cons, List.mem_append]
        exact .inr (.inl (weightsAll_mem (List.mem_map.2 ⟨i, List.mem_range.2 hi', rfl⟩) hn))

theorem ro_fils {H : Type} {enc : TypeId × Value → H} {w : World} {v : Value} {d : DataW H} {ps : List MemPlace} {r : Reach} {b0 : Nat} {j : Nat} {ts : List TypeId} {ds : List (DataW H)}
    (hz : (DataW.weightsEach Try.prog ts ds).all (· ≤ reachBytes) = true) (htj : ts[j]? = some 22) (hdj : ds[j]? = some d)
    (hval : Value.okWide Try.prog w r b0 22 v) (h : DataW.Trod enc Try.prog w 0 (fun _ => true) true 22 v d ps) :
    ∃ l : List Fil, RO w v 2 l.length (filCells l) ∧ l.length ≤ maxLen ∧ (∀ p n c, v = .slice p n c → n ≤ c ∧ c ≤ maxLen) ∧ ∀ i, i < l.length → (l.getD i default).name.size ≤ maxLen ∧ (l.getD i default).text.size ≤ 140737488355328 := by
  obtain ⟨l, h1, h2, h3, h4⟩ := ro_open2 (fun (y : Fil) (D : DataW H) => y.name.size ≤ maxLen ∧ y.text.size ∈ D.weights Try.prog 33) Try.underlying22 (size := 2) (by kernel_rfl) Nat.two_pos (fun x : Fil => [.string x.name, .string x.text]) (fun _ => rfl) hval h (fun fuel cs x hx hl => by
    obtain ⟨y0, y1, n, hxe, _, k0, k1⟩ := trod_struct2 Try.underlying33 hx
    match cs, hl with
    | [c0, c1], _ =>
      have hc : Try.prog.cellsOf 9 = 1 := by kernel_rfl
      obtain ⟨a, e0, x0, m0⟩ := DataW.trod_string Try.underlying9 k0
      obtain ⟨b, e1, x1, m1⟩ := DataW.trod_string Try.underlying9 k1
      simp [hc] at e0 e1
      refine ⟨⟨a, b⟩, by rw [e0, e1], m0, ?_⟩
      subst hxe
      simp [DataW.weights, DataW.weightsEach, Try.underlying33, x0, x1])
  refine ⟨l, h1, h2, h3, fun i hi => ?_⟩
  obtain ⟨D, ⟨a1, a2⟩, a3⟩ := h4 i hi
  have := List.all_eq_true.1 hz _ (DataW.weights_mem_each htj hdj _ (a3 _ a2))
  have hrb := reachBytes_lt
  have : (l.getD i default).text.size ≤ reachBytes := by simpa using this
  exact ⟨a1, by omega⟩
end Go.Proofs.Ytonippdileikbaa
