import Derived.Test.YtcifiibpiooeiaaR2
namespace Go.Proofs.Ytcifiibpiooeiaa
set_option linter.unusedVariables false
open Go.RowKit Go.Sort

/-! ## the checker's rows, read and written -/
theorem range_map_set {α : Type} (f g : Nat → α) (n s : Nat) (u : α) (h : ∀ j, j < n → (if j = s then u else f j) = g j) : ((List.range n).map f).set s u = (List.range n).map g := by
  apply List.ext_getElem?
  intro j
  rw [List.getElem?_set]
  by_cases hj : j < n
  · have := h j hj
    by_cases hs : s = j
    · subst hs
      simp only [if_true] at this
      rw [if_pos rfl, if_pos (by simpa using hj), this]
      simp [hj]
    · rw [if_neg hs]
      rw [if_neg (Ne.symm hs)] at this
      simp [hj, this]
  · by_cases hs : s = j
    · subst hs; rw [if_pos rfl, if_neg (by simpa using hj)]; simp [hj]
    · rw [if_neg hs]; simp [hj]
theorem Rof_w (S : St) (V : Key → Value) (s : Nat) (hs : s < 2 * S.v + 3) (l : List Int) (v : Value) : upd (upd (Rof S V) (.w s) (v, ints l)) .wt (V .wt, ((List.range (2 * S.v + 3)).map fun j => V (.w j)).set s v) = Rof { S with wt := fun j => if j = s then l else S.wt j } (updV V (.w s) v) := by
  funext k
  cases k with
  | w j => by_cases h : j = s <;> simp [upd, Rof, updV, h]
  | wt =>
    simp only [upd, Rof, updV, if_true]
    congr 1
    · exact range_map_set _ _ _ _ _ fun j hj => by by_cases h : j = s <;> simp [h]
  | _ => simp [upd, Rof, updV]
/-- a clause is another list -/
def setcl (S : St) (a : Nat) (l : List Int) : St := { S with cl := fun j => if j = a then l else S.cl j }
theorem setcl_at (S : St) (a : Nat) (l : List Int) : (setcl S a l).cl a = l := by simp [setcl]
theorem setcl_two (S : St) (a : Nat) (l l' : List Int) : setcl (setcl S a l) a l' = setcl S a l' := by
  unfold setcl; congr 1; funext j; by_cases h : j = a <;> simp [h]
theorem setcl_same (S : St) (a : Nat) : setcl S a (S.cl a) = S := by
  unfold setcl
  have : (fun j => if j = a then S.cl a else S.cl j) = S.cl := by funext j; by_cases h : j = a <;> simp [h]
  rw [this]
/-- a list of watches is another one -/
def setwt (S : St) (s : Nat) (l : List Int) : St := { S with wt := fun j => if j = s then l else S.wt j }
section
variable {base b : Nat} {w w1 : World} {S : St} {V : Key → Value}
/-- where a clause's literals lie -/
theorem Ck.cc (h : Ck base b w S V) {a : Nat} {i : Nat} (hi : i < (S.cl a).length) : ∃ g c, V (.c a) = .slice (some ⟨g, 0, none⟩) (S.cl a).length c ∧ base ≤ g ∧ g ≠ b ∧ ∀ j, j < (S.cl a).length → w.cell? ⟨g, j, none⟩ = some (.int .i64 ((S.cl a).getD j 0)) ∧ w.frozen? ⟨g, j, none⟩ = false := by
  obtain ⟨g, c, e, _, _, hb, hn⟩ := h.mem.at (.c a) (i := i) (u := .int .i64 ((S.cl a).getD i 0)) (ints_at _ _ hi)
  have hl : (Rof S V (.c a)).2.length = (S.cl a).length := ints_len _
  rw [hl] at e
  refine ⟨g, c, e, hb, hn, fun j hj => ?_⟩
  obtain ⟨g', c', e', hc, hf, _⟩ := h.mem.at (.c a) (i := j) (u := .int .i64 ((S.cl a).getD j 0)) (ints_at _ _ hj)
  rw [hl] at e'
  have e2 := e.symm.trans e'
  cases e2
  exact ⟨hc, hf⟩
/-- a literal's cell is there, and may be written -/
theorem Ck.cf (h : Ck base b w S V) {a i : Nat} (hi : i < (S.cl a).length) {g n c : Nat} (hv : V (.c a) = .slice (some ⟨g, 0, none⟩) n c) : (∃ u, w.cell? ⟨g, i, none⟩ = some (.int .i64 u)) ∧ w.frozen? ⟨g, i, none⟩ = false := by
  obtain ⟨g', c', e, _, _, hc⟩ := h.cc hi
  have e2 := e.symm.trans hv
  cases e2
  exact ⟨⟨_, (hc i hi).1⟩, (hc i hi).2⟩
theorem Ck.cx (h : Ck base b w S V) {a i : Nat} (hi : i < (S.cl a).length) {g n c : Nat} (hv : V (.c a) = .slice (some ⟨g, 0, none⟩) n c) : w.cell? ⟨g, i, none⟩ = some (.int .i64 ((S.cl a).getD i 0)) := by
  obtain ⟨g', c', e, _, _, hc⟩ := h.cc hi
  have e2 := e.symm.trans hv
  cases e2
  exact (hc i hi).1
theorem Ck.base_le (h : Ck base b w S V) : base ≤ w.heap.size := Nat.le_trans h.mem.hb (Nat.le_of_lt h.mem.lt)
theorem Ck.drew (h : Ck base b w S V) : Ck base b w.drew S V := h.below ((Below.refl _ _).drew)
/-- the clauses' row -/
theorem Ck.clc (h : Ck base b w S V) {a : Nat} (ha : a < S.m) : ∃ g c, V .cl = .slice (some ⟨g, 0, none⟩) S.m c ∧ w.cell? ⟨g, a, none⟩ = some (V (.c a)) := by
  obtain ⟨g, c, e, hc, _⟩ := h.mem.at .cl (i := a) (u := V (.c a)) (by simp [Rof, ha])
  have hl : (Rof S V .cl).2.length = S.m := by simp [Rof]
  rw [hl] at e
  exact ⟨g, c, e, hc⟩
/-- the watches' row -/
theorem Ck.wtc (h : Ck base b w S V) {s : Nat} (hs : s < 2 * S.v + 3) : ∃ g c, V .wt = .slice (some ⟨g, 0, none⟩) (2 * S.v + 3) c ∧ w.cell? ⟨g, s, none⟩ = some (V (.w s)) ∧ w.frozen? ⟨g, s, none⟩ = false ∧ base ≤ g ∧ g ≠ b := by
  obtain ⟨g, c, e, hc, hf, hb, hn⟩ := h.mem.at .wt (i := s) (u := V (.w s)) (by simp [Rof, hs])
  have hl : (Rof S V .wt).2.length = 2 * S.v + 3 := by simp [Rof]
  rw [hl] at e
  exact ⟨g, c, e, hc, hf, hb, hn⟩
/-- a literal of a clause is written -/
theorem Ck.setc (h : Ck base b w S V) {a i : Nat} (u : Int) (hi : i < (S.cl a).length) {g n c : Nat} (hv : V (.c a) = .slice (some ⟨g, 0, none⟩) n c) : Ck base b (w.setCell ⟨g, i, none⟩ (.int .i64 u)) (setcl S a ((S.cl a).set i u)) V := by
  have hm := h.mem.set (.c a) (i := i) (.int .i64 u) (by show i < (ints (S.cl a)).length; rw [ints_len]; exact hi) hv
  have e : ((Rof S V (.c a)).1, (Rof S V (.c a)).2.set i (.int .i64 u)) = (V (.c a), ints ((S.cl a).set i u)) := by simp [Rof, ints_set]
  rw [e, Rof_c] at hm
  have hgb : g ≠ b := fun e => h.mem.nb (.c a) (by show (V (.c a)).ownBlock = _; rw [hv, e]; rfl)
  exact ⟨hm, h.blk.other (a := ⟨g, i, none⟩) _ (Ne.symm hgb)⟩
theorem Mem.appA {K : Type} {et : K → Nat} {R : K → Value × List Value} [DecidableEq K] (h : Mem et base b w R) (k : K) {n m g cap : Nat} {xs : List Value} (ha : App base (et k) 1 w (R k).1 n m xs g cap w1) : Mem et base b w1 (upd R k (.slice (some ⟨g, 0, none⟩) (n + m) cap, xs)) :=
  h.put k ha.own ha.grown.size (fun g' hg => by
    cases hg
    rcases ha.at_ with e | e
    · exact .inl e
    · exact .inr (Nat.le_of_eq e.symm)) (fun g hg hn => ha.grown.block g hg (Ne.symm hn))
/-- a watch list was appended to; its place in the watches' row is still to be written -/
theorem Ck.appw (h : Ck base b w S V) {s n m g cap : Nat} (hs : s < 2 * S.v + 3) {l : List Int} (ha : App base 3 1 w (V (.w s)) n m (ints l) g cap w1) :
    ∃ gw cw, V .wt = .slice (some ⟨gw, 0, none⟩) (2 * S.v + 3) cw ∧ w1.cell? ⟨gw, s, none⟩ = some (V (.w s)) ∧ w1.frozen? ⟨gw, s, none⟩ = false ∧ base ≤ gw ∧
      Ck base b (w1.setCell ⟨gw, s, none⟩ (.slice (some ⟨g, 0, none⟩) (n + m) cap)) (setwt S s l) (updV V (.w s) (.slice (some ⟨g, 0, none⟩) (n + m) cap)) := by
  have hm := h.mem.appA (.w s) (n := n) (m := m) (g := g) (cap := cap) (xs := ints l) ha
  have hu : upd (Rof S V) (.w s) (.slice (some ⟨g, 0, none⟩) (n + m) cap, ints l) .wt = Rof S V .wt := upd_other _ _ (by simp)
  obtain ⟨gw, cw, e, hc, hf, hb, hn⟩ := hm.at .wt (i := s) (u := V (.w s)) (by rw [hu]; simp [Rof, hs])
  rw [hu] at e
  have hl : (Rof S V .wt).2.length = 2 * S.v + 3 := by simp [Rof]
  rw [hl] at e
  refine ⟨gw, cw, e, hc, hf, hb, ?_, ?_⟩
  · have h2 := hm.set .wt (i := s) (.slice (some ⟨g, 0, none⟩) (n + m) cap) (by rw [hu, hl]; exact hs) (g := gw) (n := 2 * S.v + 3) (c := cw) (by rw [hu]; exact e)
    rw [hu] at h2
    have e2 : ((Rof S V .wt).1, (Rof S V .wt).2.set s (.slice (some ⟨g, 0, none⟩) (n + m) cap)) = (V .wt, ((List.range (2 * S.v + 3)).map fun j => V (.w j)).set s (.slice (some ⟨g, 0, none⟩) (n + m) cap)) := rfl
    rw [e2, Rof_w S V s hs] at h2
    exact h2
  · have hb1 : Blk w1 b 78 (ckCells S V) := by
      have := h.blk
      unfold Blk at this ⊢
      rw [ha.grown.block b h.mem.lt (Ne.symm (h.mem.nb (.w s)))]
      exact this
    have := hb1.other (a := ⟨gw, s, none⟩) (.slice (some ⟨g, 0, none⟩) (n + m) cap) (Ne.symm hn)
    have e3 : ckCells (setwt S s l) (updV V (.w s) (.slice (some ⟨g, 0, none⟩) (n + m) cap)) = ckCells S V := by simp [ckCells, updV, setwt]
    rw [e3]
    exact this
end
end Go.Proofs.Ytcifiibpiooeiaa
