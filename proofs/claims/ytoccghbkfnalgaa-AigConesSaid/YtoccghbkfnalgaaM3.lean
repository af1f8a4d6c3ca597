import Derived.Test.YtoccghbkfnalgaaM2
import Derived.Test.YtoccghbkfnalgaaA1
import Derived.Deep.RegionLaw
namespace Go.Proofs.Ytoccghbkfnalgaa
set_option linter.unusedVariables false
open Go.RowKit

theorem Ents.length : ∀ {es xs}, Ents es xs → es.length = xs.length
  | [], [], _ => rfl
  | _ :: _, _ :: _, ⟨_, b⟩ => by simp [Ents.length b]
  | [], _ :: _, hh => hh.elim
  | _ :: _, [], hh => hh.elim

/-- mapUpdate of a new key -/
theorem update54 {w : World} {bm : Nat} {es : List MapEntry} {ck : Nat} {xs} (hb : w.heap[bm]? = some (.map es.toArray ck)) (hes : Ents es xs) (a b n : Int) (hl : look xs (a, b) = none) :
    ∃ e, entryOf e ((a, b), n) ∧ (Instr.mapUpdate 54 (.map (some bm)) (.agg #[.int .i64 a, .int .i64 b]) (.int .i64 n)).run Try.prog w = .ok () { w with heap := w.heap.setIfInBounds bm (.map (es ++ [e]).toArray (ck + 1)) } := by
  obtain ⟨r, h1, h2⟩ := findKey58 w (a, b) es _ hes
  rw [hl] at h2
  cases r with
  | some r => simp at h2
  | none =>
    refine ⟨{ key := .agg #[.int .i64 a, .int .i64 b], val := .int .i64 n, born := ck }, ⟨rfl, rfl⟩, ?_⟩
    simp [Instr.mapUpdate, getObj, setObj, Sem.run, hb, ck58, h1]

theorem GAt.cell0 {w bg vn vi bm g} (h : GAt w bg vn vi bm g) : w.cell? ⟨bg, 0, none⟩ = some vn := by simp [World.cell?, h.hg]
theorem GAt.cell1 {w bg vn vi bm g} (h : GAt w bg vn vi bm g) : w.cell? ⟨bg, 1, none⟩ = some vi := by simp [World.cell?, h.hg]
theorem GAt.cell2 {w bg vn vi bm g} (h : GAt w bg vn vi bm g) : w.cell? ⟨bg, 2, none⟩ = some (.map (some bm)) := by simp [World.cell?, h.hg]
theorem GAt.frz {w bg vn vi bm g} (h : GAt w bg vn vi bm g) (i : Nat) : w.frozen? ⟨bg, i, none⟩ = false := by simp [World.frozen?, h.hg]

theorem ownsRow_form {w : World} {base e size v n xs} (h : w.ownsRow base e size v n xs) : ∃ p c, v = .slice p n c := by
  rcases h.2 with ⟨rfl, rfl⟩ | ⟨g, cap, cur, rfl, _⟩
  · exact ⟨_, _, rfl⟩
  · exact ⟨_, _, rfl⟩

theorem ownsRow_keep {w w' : World} {base e size v n xs} (h : w.ownsRow base e size v n xs) (hb : ∀ k, v.ownBlock = some k → w'.heap[k]? = w.heap[k]?) : w'.ownsRow base e size v n xs := by
  refine ⟨h.1, ?_⟩
  rcases h.2 with hn | ⟨g, cap, cur, rfl, hb', hgg, rest⟩
  · exact .inl hn
  · refine .inr ⟨g, cap, cur, rfl, hb', ?_, rest⟩
    rw [hb g rfl]; exact hgg


theorem some_lt {w : World} {k : Nat} {o : Obj} (h : w.heap[k]? = some o) : k < w.heap.size := by
  rcases Nat.lt_or_ge k w.heap.size with h' | h'
  · exact h'
  · rw [Array.getElem?_eq_none h'] at h; cases h

theorem GAt.lt {w bg vn vi bm g} (h : GAt w bg vn vi bm g) : ∀ k, foot bg vn vi bm k → k < w.heap.size := by
  rintro k (rfl | rfl | hk | hk)
  · exact some_lt h.hg
  · obtain ⟨es, ck, h1, _⟩ := h.hm; exact some_lt h1
  · exact (h.hn.lt k hk).2
  · exact (h.hi.lt k hk).2

/-- a graph stays where its blocks stay -/
theorem GAt.keep {w w' bg vn vi bm g} (h : GAt w bg vn vi bm g) (hk : ∀ k, foot bg vn vi bm k → w'.heap[k]? = w.heap[k]?) : GAt w' bg vn vi bm g where
  gm := h.gm
  ng := h.ng
  nm := h.nm
  ig := h.ig
  im := h.im
  ne := h.ne
  hg := by rw [hk _ (.inl rfl)]; exact h.hg
  hn := ownsRow_keep h.hn fun k hv => hk k (.inr (.inr (.inl hv)))
  hi := ownsRow_keep h.hi fun k hv => hk k (.inr (.inr (.inr hv)))
  hm := by obtain ⟨es, ck, h1, h2⟩ := h.hm; exact ⟨es, ck, by rw [hk _ (.inr (.inl rfl))]; exact h1, h2⟩

theorem GAt.below {w w' bg vn vi bm g} (h : GAt w bg vn vi bm g) (hb : Below w.heap.size w w') : GAt w' bg vn vi bm g :=
  h.keep fun k hk => hb.block k (h.lt k hk)

theorem pairCells_snoc (l : List (Int × Int)) (a b : Int) : pairCells (l ++ [(a, b)]) = pairCells l ++ [.int .i64 a, .int .i64 b] := by simp [pairCells]
theorem pairCells_length (l : List (Int × Int)) : (pairCells l).length = l.length * 2 := by
  induction l with
  | nil => rfl
  | cons a l ih => simp [pairCells] at *; omega

/-- behind an append to the nodes, and the store of the new slice -/
theorem GAt.addNode {w w1 : World} {bg vn vi bm g} (h : GAt w bg vn vi bm g) {a b : Int} {k cap : Nat}
    (hw : w1.ownsRow 0 58 2 (.slice (some ⟨k, 0, none⟩) (g.nodes.length + 1) cap) (g.nodes.length + 1) (pairCells g.nodes ++ [.int .i64 a, .int .i64 b]))
    (hgr : w.grownBy w1 vn.ownBlock) (hk : vn.ownBlock = some k ∨ k = w.heap.size) :
    GAt (w1.setCell ⟨bg, 0, none⟩ (.slice (some ⟨k, 0, none⟩) (g.nodes.length + 1) cap)) bg (.slice (some ⟨k, 0, none⟩) (g.nodes.length + 1) cap) vi bm { g with nodes := g.nodes ++ [(a, b)] } := by
  have lg := h.lt bg (.inl rfl)
  have lm := h.lt bm (.inr (.inl rfl))
  have hkg : k ≠ bg := by
    intro e; subst e
    rcases hk with hk | hk
    · exact h.ng hk
    · omega
  have hkm : k ≠ bm := by
    intro e; subst e
    rcases hk with hk | hk
    · exact h.nm hk
    · omega
  have hki : ∀ j, vi.ownBlock = some j → j ≠ k := by
    intro j hj e; subst e
    rcases hk with hk | hk
    · exact h.ne _ hj hk
    · have := (h.hi.lt _ hj).2; omega
  have e1 : w1.heap[bg]? = w.heap[bg]? := hgr.block bg lg (fun e => h.ng e.symm)
  have e2 : w1.heap[bm]? = w.heap[bm]? := hgr.block bm lm (fun e => h.nm e.symm)
  have e3 : ∀ j, vi.ownBlock = some j → w1.heap[j]? = w.heap[j]? := fun j hj => hgr.block j (h.hi.lt _ hj).2 (fun e => h.ne j hj e.symm)
  exact {
    gm := h.gm
    ng := by simp [Value.ownBlock, hkg]
    nm := by simp [Value.ownBlock, hkm]
    ig := h.ig
    im := h.im
    ne := by intro j hj; simp only [Value.ownBlock, ne_eq, Option.some.injEq]; exact fun e => hki j hj e.symm
    hg := by simp [World.setCell, Array.getElem?_modify, e1, h.hg]
    hn := by
      simp only [List.length_append, List.length_cons, List.length_nil, pairCells_snoc]
      exact ownsRow_keep hw fun j hj => by
        simp only [Value.ownBlock, Option.some.injEq] at hj; subst hj
        exact Below.heap_setCell _ _ _ _ hkg
    hi := ownsRow_keep h.hi fun j hj => by
      rw [Below.heap_setCell _ _ _ _ (fun e => h.ig (by rw [hj]; exact congrArg some e)), e3 j hj]
    hm := by
      obtain ⟨es, ck, h1, h2⟩ := h.hm
      exact ⟨es, ck, by rw [Below.heap_setCell _ _ _ _ (Ne.symm h.gm), e2]; exact h1, h2⟩ }

theorem ints_snoc (l : List Int) (a : Int) : ints (l ++ [a]) = ints l ++ [.int .i64 a] := by simp [ints]

/-- behind an append to the inputs, and the store of the new slice -/
theorem GAt.addInput {w w1 : World} {bg vn vi bm g} (h : GAt w bg vn vi bm g) {a : Int} {k cap : Nat}
    (hw : w1.ownsRow 0 3 1 (.slice (some ⟨k, 0, none⟩) (g.inputs.length + 1) cap) (g.inputs.length + 1) (ints g.inputs ++ [.int .i64 a]))
    (hgr : w.grownBy w1 vi.ownBlock) (hk : vi.ownBlock = some k ∨ k = w.heap.size) :
    GAt (w1.setCell ⟨bg, 1, none⟩ (.slice (some ⟨k, 0, none⟩) (g.inputs.length + 1) cap)) bg vn (.slice (some ⟨k, 0, none⟩) (g.inputs.length + 1) cap) bm { g with inputs := g.inputs ++ [a] } := by
  have lg := h.lt bg (.inl rfl)
  have lm := h.lt bm (.inr (.inl rfl))
  have hkg : k ≠ bg := by
    intro e; subst e
    rcases hk with hk | hk
    · exact h.ig hk
    · omega
  have hkm : k ≠ bm := by
    intro e; subst e
    rcases hk with hk | hk
    · exact h.im hk
    · omega
  have hki : vn.ownBlock ≠ some k := by
    intro e
    rcases hk with hk | hk
    · exact h.ne _ hk e
    · have := (h.hn.lt _ e).2; omega
  have e1 : w1.heap[bg]? = w.heap[bg]? := hgr.block bg lg (fun e => h.ig e.symm)
  have e2 : w1.heap[bm]? = w.heap[bm]? := hgr.block bm lm (fun e => h.im e.symm)
  have e3 : ∀ j, vn.ownBlock = some j → w1.heap[j]? = w.heap[j]? := fun j hj => hgr.block j (h.hn.lt _ hj).2 (fun e => h.ne j e.symm hj)
  exact {
    gm := h.gm
    ng := h.ng
    nm := h.nm
    ig := by simp [Value.ownBlock, hkg]
    im := by simp [Value.ownBlock, hkm]
    ne := by intro j hj; simp only [Value.ownBlock, Option.some.injEq] at hj; subst hj; exact hki
    hg := by simp [World.setCell, Array.getElem?_modify, e1, h.hg]
    hi := by
      simp only [List.length_append, List.length_cons, List.length_nil, ints_snoc]
      exact ownsRow_keep hw fun j hj => by
        simp only [Value.ownBlock, Option.some.injEq] at hj; subst hj
        exact Below.heap_setCell _ _ _ _ hkg
    hn := ownsRow_keep h.hn fun j hj => by
      rw [Below.heap_setCell _ _ _ _ (fun e => h.ng (by rw [hj]; exact congrArg some e)), e3 j hj]
    hm := by
      obtain ⟨es, ck, h1, h2⟩ := h.hm
      exact ⟨es, ck, by rw [Below.heap_setCell _ _ _ _ (Ne.symm h.gm), e2]; exact h1, h2⟩ }

/-- behind a new entry of the map -/
theorem GAt.addKnown {w : World} {bg vn vi bm g} (h : GAt w bg vn vi bm g) {a b n : Int} {es : List MapEntry} {ck ck' : Nat} {e : MapEntry}
    (hes : Ents es g.known) (he : entryOf e ((a, b), n)) :
    GAt { w with heap := w.heap.setIfInBounds bm (.map (es ++ [e]).toArray ck') } bg vn vi bm { g with known := g.known ++ [((a, b), n)] } := by
  have lm := h.lt bm (.inr (.inl rfl))
  have hne : ∀ k, k ≠ bm → (w.heap.setIfInBounds bm (.map (es ++ [e]).toArray ck'))[k]? = w.heap[k]? := fun k hk => by
    rw [Array.getElem?_setIfInBounds_ne (Ne.symm hk)]
  exact {
    gm := h.gm
    ng := h.ng
    nm := h.nm
    ig := h.ig
    im := h.im
    ne := h.ne
    hg := by show (w.heap.setIfInBounds bm _)[bg]? = _; rw [hne _ h.gm]; exact h.hg
    hn := ownsRow_keep h.hn fun k hk => hne k (fun e => h.nm (by rw [hk, e]))
    hi := ownsRow_keep h.hi fun k hk => hne k (fun e => h.im (by rw [hk, e]))
    hm := ⟨_, _, by show (w.heap.setIfInBounds bm _)[bm]? = _; rw [Array.getElem?_setIfInBounds_self_of_lt lm], hes.snoc he⟩ }
end Go.Proofs.Ytoccghbkfnalgaa
