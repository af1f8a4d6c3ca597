import Derived.Test.YtcdjkbgedmehjaaDoorVK4
namespace Go.Proofs.YtcdjkbgedmehjaaDoor
set_option linter.unusedVariables false
open Go.RowKit Go.Sort

theorem i64_of {x : Int} (h : -9223372036854775808 ≤ x ∧ x ≤ 9223372036854775807) : IntKind.i64.wrap x = x := IntWalk.i64_in _ h
/-! # many rows of one's own, each in a block of its own (elements of any size) -/
abbrev RowV := Value × Nat × List Value
structure Mem {K : Type} (et es : K → Nat) (base b : Nat) (w : World) (R : K → RowV) : Prop where
  own : ∀ k, w.ownsRow base (et k) (es k) (R k).1 (R k).2.1 (R k).2.2
  ne : ∀ k k', k ≠ k' → ∀ g, (R k).1.ownBlock = some g → (R k').1.ownBlock ≠ some g
  nb : ∀ k, (R k).1.ownBlock ≠ some b
  hb : base ≤ b
  lt : b < w.heap.size
def upd {K : Type} [DecidableEq K] (R : K → RowV) (k : K) (r : RowV) : K → RowV := fun k' => if k' = k then r else R k'
theorem upd_same {K : Type} [DecidableEq K] (R : K → RowV) (k : K) (r) : upd R k r k = r := by simp [upd]
theorem upd_other {K : Type} [DecidableEq K] (R : K → RowV) {k k' : K} (r) (h : k' ≠ k) : upd R k r k' = R k' := by simp [upd, h]
theorem own_lt {w : World} {base e size n : Nat} {v : Value} {xs : List Value} (h : w.ownsRow base e size v n xs) : ∀ g, v.ownBlock = some g → base ≤ g ∧ g < w.heap.size := fun g hg => by
  rcases h.2 with ⟨rfl, _⟩ | ⟨g', cap, cur, rfl, h1, h2, _⟩
  · cases hg
  · cases hg; exact ⟨h1, some_lt h2⟩
section
variable {K : Type} {et es : K → Nat} {base b : Nat} {w w' : World} {R : K → RowV}
theorem Mem.lts (h : Mem et es base b w R) (k : K) : ∀ g, (R k).1.ownBlock = some g → base ≤ g ∧ g < w.heap.size := own_lt (h.own k)
/-- what leaves all rows' blocks alone -/
theorem Mem.keep (h : Mem et es base b w R) (hs : w.heap.size ≤ w'.heap.size) (hold : ∀ k g, (R k).1.ownBlock = some g → w'.heap[g]? = w.heap[g]?) : Mem et es base b w' R :=
  ⟨fun k => ownsRow_keep (h.own k) (fun g hg => hold k g hg), h.ne, h.nb, h.hb, Nat.lt_of_lt_of_le h.lt hs⟩
theorem Mem.below (h : Mem et es base b w R) (hb : Below w.heap.size w w') : Mem et es base b w' R :=
  h.keep hb.size fun k g hg => hb.block g (h.lts k g hg).2
/-- one row is another one: its old block, or a new one -/
theorem Mem.put [DecidableEq K] (h : Mem et es base b w R) (k : K) {v' : Value} {n : Nat} {xs : List Value} (hown : w'.ownsRow base (et k) (es k) v' n xs) (hs : w.heap.size ≤ w'.heap.size)
    (hat : ∀ g, v'.ownBlock = some g → (R k).1.ownBlock = some g ∨ w.heap.size ≤ g) (hold : ∀ g, g < w.heap.size → (R k).1.ownBlock ≠ some g → w'.heap[g]? = w.heap[g]?) : Mem et es base b w' (upd R k (v', n, xs)) := by
  refine ⟨fun k' => ?_, fun k1 k2 h12 g hg => ?_, fun k' hk' => ?_, h.hb, Nat.lt_of_lt_of_le h.lt hs⟩
  · by_cases hk : k' = k
    · subst hk; rw [upd_same]; exact hown
    · rw [upd_other R _ hk]
      exact ownsRow_keep (h.own k') fun g hg => hold g (h.lts k' g hg).2 (fun e => h.ne k' k hk g hg e)
  · by_cases h1 : k1 = k
    · subst h1
      rw [upd_same] at hg
      rw [upd_other R _ (Ne.symm h12)]
      intro e
      rcases hat g hg with hh | hh
      · exact h.ne k1 k2 h12 g hh e
      · have := (h.lts k2 g e).2; omega
    · rw [upd_other R _ h1] at hg
      by_cases h2 : k2 = k
      · subst h2
        rw [upd_same]
        intro e
        rcases hat g e with hh | hh
        · exact h.ne k1 k2 h12 g hg hh
        · have := (h.lts k1 g hg).2; omega
      · rw [upd_other R _ h2]; exact h.ne k1 k2 h12 g hg
  · by_cases hk : k' = k
    · subst hk
      rw [upd_same] at hk'
      rcases hat b hk' with hh | hh
      · exact h.nb k' hh
      · have := h.lt; omega
    · rw [upd_other R _ hk] at hk'; exact h.nb k' hk'
theorem Mem.app [DecidableEq K] (h : Mem et es base b w R) (k : K) {v' : Value} {n : Nat} {xs : List Value} (ha : AppR base (et k) (es k) w (R k).1 n xs v' w') : Mem et es base b w' (upd R k (v', n, xs)) :=
  h.put k ha.own ha.grown.size (fun g hg => by
    rcases ha.at_ with e | e
    · rw [e] at hg; exact .inl hg
    · rw [e] at hg; cases hg; exact .inr (Nat.le_refl _)) (fun g hg hn => ha.grown.block g hg (Ne.symm hn))
/-- a cell of a row -/
theorem Mem.at (h : Mem et es base b w R) (k : K) {i : Nat} {u : Value} (hu : (R k).2.2[i]? = some u) : ∃ g c, (R k).1 = .slice (some ⟨g, 0, none⟩) (R k).2.1 c ∧ w.cell? ⟨g, i, none⟩ = some u ∧ w.frozen? ⟨g, i, none⟩ = false ∧ base ≤ g ∧ g ≠ b := by
  have ho := h.own k
  have hi : i < (R k).2.2.length := (List.getElem?_eq_some_iff.1 hu).1
  rcases ho.2 with ⟨_, e⟩ | ⟨g, cap, cur, hv, hb, hg, hc, hm, hs, ht⟩
  · have := ho.1; rw [e, Nat.zero_mul] at this; omega
  · refine ⟨g, cap, hv, ?_, by simp [World.frozen?, hg], hb, fun e => h.nb k (by rw [hv, e]; rfl)⟩
    have : cur.toList[i]? = some u := by
      rw [← ht, List.getElem?_take] at hu
      by_cases hh : i < (R k).2.1 * es k
      · rw [if_pos hh] at hu; exact hu
      · rw [if_neg hh] at hu; exact absurd hu (by simp)
    have hk : Blk w g (et k) cur.toList := by unfold Blk; simpa using hg
    exact hk.cell this
/-- a cell of a row is written -/
theorem Mem.set [DecidableEq K] (h : Mem et es base b w R) (k : K) {i : Nat} (u : Value) (hi : i < (R k).2.2.length) {g n c : Nat} (hv : (R k).1 = .slice (some ⟨g, 0, none⟩) n c) : Mem et es base b (w.setCell ⟨g, i, none⟩ u) (upd R k ((R k).1, (R k).2.1, (R k).2.2.set i u)) := by
  have ho := h.own k
  refine h.put k ?_ (by simp) (fun g' hg' => .inl hg') (fun g' hg' hn => Below.heap_setCell _ _ _ _ (fun e => hn (by rw [hv, e]; rfl)))
  rcases ho.2 with ⟨e, e2⟩ | ⟨g', cap, cur, hv', hb, hg, hc, hm, hs, ht⟩
  · have := ho.1; rw [e2, Nat.zero_mul] at this; omega
  · rw [hv] at hv'
    cases hv'
    refine ⟨by rw [List.length_set]; exact ho.1, .inr ⟨g, _, (cur.toList.set i u).toArray, hv, hb, ?_, hc, hm, by simpa using hs, ?_⟩⟩
    · have hk : Blk w g (et k) cur.toList := by unfold Blk; simpa using hg
      exact hk.set i u
    · rw [List.toList_toArray, List.take_set, ht]
theorem Mem.appA [DecidableEq K] (h : Mem et es base b w R) (k : K) {n m g cap : Nat} {xs : List Value} (ha : App base (et k) (es k) w (R k).1 n m xs g cap w') : Mem et es base b w' (upd R k (.slice (some ⟨g, 0, none⟩) (n + m) cap, n + m, xs)) :=
  h.put k ha.own ha.grown.size (fun g' hg' => by
    cases hg'
    rcases ha.at_ with e | e
    · exact .inl e
    · exact .inr (Nat.le_of_eq e.symm)) (fun g hg hn => ha.grown.block g hg (Ne.symm hn))
end
end Go.Proofs.YtcdjkbgedmehjaaDoor
