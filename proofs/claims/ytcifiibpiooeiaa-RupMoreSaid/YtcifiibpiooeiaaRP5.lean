import Derived.Test.YtcifiibpiooeiaaRP4
namespace Go.Proofs.Ytcifiibpiooeiaa
set_option linter.unusedVariables false
open Go.RowKit

/-- what a run hands back on its state -/
def setkept (S : St) (l : List Int) : St := { S with kept := l }
theorem RI.putkept {cls : List Int → Prop} {A : Int → Prop} {S0 S : St} {W : Nat → List Int} (h : RI cls A S0 S W) (l : List Int) : RI cls A S0 (setkept S l) W :=
  ⟨⟨h.wf.vals, h.wf.lits, h.wf.sh, h.wf.sh2, h.wf.w1, h.wf.w2, h.wf.nd⟩, h.snd, h.mem, h.len, h.fix, h.sub⟩
theorem RI.puthead {cls : List Int → Prop} {A : Int → Prop} {S0 S : St} {W : Nat → List Int} (h : RI cls A S0 S W) (n : Nat) : RI cls A S0 { S with head := n } W :=
  ⟨⟨h.wf.vals, h.wf.lits, h.wf.sh, h.wf.sh2, h.wf.w1, h.wf.w2, h.wf.nd⟩, h.snd, h.mem, h.len, h.fix, h.sub⟩
theorem RI.putwt {cls : List Int → Prop} {A : Int → Prop} {S0 S : St} {s : Nat} {l : List Int} (h : RI cls A S0 S (fun j => if j = s then l else S.wt j)) : RI cls A S0 (setwt S s l) (setwt S s l).wt :=
  ⟨⟨h.wf.vals, h.wf.lits, h.wf.sh, h.wf.sh2, h.wf.w1, h.wf.w2, h.wf.nd⟩, h.snd, h.mem, h.len, h.fix, h.sub⟩
/-- a short clause -/
theorem RI.short {cls : List Int → Prop} {A : Int → Prop} {S0 S : St} {W : Nat → List Int} (h : RI cls A S0 S W) (hc : ∀ l, ClsOf S0 l → cls l) {k : Nat} (hk : k < S.short.length) (hs : Sh S k) :
    ∃ i : Nat, S.short.getD k 0 = (i : Int) ∧ i < S.m ∧ (((S.cl i).length = 0 ∧ Fails cls A) ∨ ((S.cl i).length = 1 ∧ (S.cl i).getD 0 0 ≠ 0 ∧ ((S.cl i).getD 0 0).natAbs ≤ S.v ∧ RI cls A S0 (assumeS S ((S.cl i).getD 0 0)).1 W ∧
      ((assumeS S ((S.cl i).getD 0 0)).2 = false → Fails cls A) ∧ ((assumeS S ((S.cl i).getD 0 0)).2 = true → Sh (assumeS S ((S.cl i).getD 0 0)).1 (k + 1)))) := by
  obtain ⟨i, e, hi, hl⟩ := h.wf.sh2 (S.short.getD k 0) (getD_mem hk)
  refine ⟨i, e, hi, ?_⟩
  have hci := h.cls hc (S.cl i) ⟨i, hi, fun _ => Iff.rfl⟩
  rcases (show (S.cl i).length = 0 ∨ (S.cl i).length = 1 by omega) with h0 | h1
  · refine .inl ⟨h0, .inl ⟨_, hci, fun y hy => ?_⟩⟩
    rw [List.length_eq_zero_iff.1 h0] at hy
    simp at hy
  · obtain ⟨x, hx⟩ := List.length_eq_one_iff.1 h1
    have hg : (S.cl i).getD 0 0 = x := by rw [hx]; rfl
    have hlx := (h.wf.lits i hi).1 x (by rw [hx]; simp)
    have hd : Der cls A x := .unit hci (by rw [hx]; simp) (fun y hy hne => by rw [hx] at hy; exact absurd (by simpa using hy) hne)
    rw [hg]
    refine .inr ⟨h1, hlx.1, hlx.2, h.assume hlx.1 hlx.2 hd, fun hf => ?_, fun ht => ?_⟩
    · rcases assumeS_spec h.wf.vals hlx.1 hlx.2 with ⟨e2, _⟩ | ⟨_, _, hn⟩
      · rw [e2] at hf; cases hf
      · exact .inr ⟨x, hd, h.snd _ hn⟩
    · intro j hj i2 ei2
      have heq := assumeS_eq S x
      have hcl : (assumeS S x).1.cl = S.cl := by rw [heq]
      have hsh : (assumeS S x).1.short = S.short := by rw [heq]
      rw [hsh] at ei2
      rw [hcl]
      by_cases hjk : j < k
      · obtain ⟨z, hz, hzt⟩ := hs j hjk i2 ei2
        exact ⟨z, hz, assumeS_sub h.wf.vals hlx.1 hlx.2 z hzt⟩
      · obtain rfl : j = k := by omega
        have : i2 = i := by rw [e] at ei2; omega
        subst this
        rcases assumeS_spec h.wf.vals hlx.1 hlx.2 with ⟨_, e2, _⟩ | ⟨e2, _⟩
        · exact ⟨x, by rw [hx]; simp, e2⟩
        · rw [e2] at ht; cases ht
theorem ShAll.ext {S S' : St} (h : ShAll S) (hm : S'.m = S.m) (hmem : ∀ i x, x ∈ S'.cl i ↔ x ∈ S.cl i) (hl : ∀ i, (S'.cl i).length = (S.cl i).length) (ht : ∀ x, x ∈ S.trail → x ∈ S'.trail) : ShAll S' := fun i hi h2 => by
  rw [hm] at hi
  rw [hl] at h2
  obtain ⟨x, hx, hxt⟩ := h i hi h2
  exact ⟨x, (hmem i x).2 hx, ht x hxt⟩
/-- between the literals of the trail -/
structure OuterI (cls : List Int → Prop) (A : Int → Prop) (S0 S : St) : Prop where
  ri : RI cls A S0 S S.wt
  pr : Pr S (S.trail.take S.head)
  sh : ShAll S
  le : S.head ≤ S.trail.length
  kept : S.kept = []
/-- within a literal's watches -/
structure InnerI (cls : List Int → Prop) (A : Int → Prop) (S0 : St) (lit : Int) (L : List Int) (hd i : Nat) (S : St) : Prop where
  ri : RI cls A S0 S (fun s => if s = slotN lit then S.kept ++ L.drop i else S.wt s)
  pr : Pr S (S.trail.take S.head)
  now : Now S lit S.kept
  sh : ShAll S
  hd : S.head = hd
  lt : S.head < S.trail.length
  atl : S.trail.getD S.head 0 = -lit
  L : S.wt (slotN lit) = L
theorem OuterI.inner {cls : List Int → Prop} {A : Int → Prop} {S0 S : St} (h : OuterI cls A S0 S) (hl : S.head < S.trail.length) : InnerI cls A S0 (-(S.trail.getD S.head 0)) (S.wt (slotN (-(S.trail.getD S.head 0)))) S.head 0 S := by
  refine ⟨?_, h.pr, fun i hi => ?_, h.sh, rfl, hl, by simp, rfl⟩
  · have e : (fun s => if s = slotN (-(S.trail.getD S.head 0)) then S.kept ++ (S.wt (slotN (-(S.trail.getD S.head 0)))).drop 0 else S.wt s) = S.wt := by
      funext s
      rw [h.kept]
      by_cases e : s = slotN (-(S.trail.getD S.head 0))
      · rw [if_pos e, e]; rfl
      · rw [if_neg e]
    rw [e]; exact h.ri
  · rw [h.kept] at hi; simp at hi
theorem InnerI.at {cls : List Int → Prop} {A : Int → Prop} {S0 S : St} {lit : Int} {L : List Int} {hd i : Nat} (h : InnerI cls A S0 lit L hd i S) (hi : i < L.length) : ∃ a : Nat, L.getD i 0 = (a : Int) ∧ a < S.m ∧ 2 ≤ (S.cl a).length := by
  obtain ⟨a, e, ha, h2, _⟩ := h.ri.wf.w2 (slotN lit) (L.getD i 0) (by
    simp only [if_true]
    refine List.mem_append_right _ ?_
    have e2 : L.getD i 0 = L[i] := by simp [List.getD, List.getElem?_eq_getElem hi]
    rw [List.drop_eq_getElem_cons hi, e2]
    exact List.mem_cons_self)
  exact ⟨a, e, ha, h2⟩
theorem InnerI.wtlen {cls : List Int → Prop} {A : Int → Prop} {S0 S : St} {lit : Int} {L : List Int} {hd i n : Nat} (h : InnerI cls A S0 lit L hd i S) (hl : L.length ≤ n) (hm : S.m ≤ n) : ∀ s, (S.wt s).length ≤ n := fun s => by
  by_cases e : s = slotN lit
  · rw [e, h.L]; exact hl
  · have := h.ri.wf.wlen s
    rw [if_neg e] at this
    omega
theorem InnerI.klen {cls : List Int → Prop} {A : Int → Prop} {S0 S : St} {lit : Int} {L : List Int} {hd i : Nat} (h : InnerI cls A S0 lit L hd i S) : S.kept.length + (L.length - i) ≤ S.m := by
  have := h.ri.wf.wlen (slotN lit)
  simp only [if_true, List.length_append, List.length_drop] at this
  exact this
/-- a visit -/
theorem InnerI.visit {cls : List Int → Prop} {A : Int → Prop} {S0 S S' : St} {lit : Int} {L : List Int} {hd i a : Nat} {moved fails : Bool} (hc : ∀ l, ClsOf S0 l → cls l) (h : InnerI cls A S0 lit L hd i S) (hi : i < L.length) (ha : L.getD i 0 = (a : Int)) (hp : VisitP S a lit S' moved fails) :
    S'.kept = S.kept ∧ S'.v = S.v ∧ S'.wt (slotN lit) = L ∧ RI cls A S0 S' (fun s => if s = slotN lit then (if moved then S.kept else S.kept ++ [(a : Int)]) ++ L.drop (i + 1) else S'.wt s) ∧ (fails = true → Fails cls A) ∧
      (fails = false → InnerI cls A S0 lit L hd (i + 1) (setkept S' (if moved then S.kept else S.kept ++ [(a : Int)]))) := by
  have hdrop : L.drop i = (a : Int) :: L.drop (i + 1) := by
    rw [List.drop_eq_getElem_cons hi]
    congr 1
    simpa [List.getD, List.getElem?_eq_getElem hi] using ha
  have hri := h.ri
  rw [hdrop] at hri
  have hlt := h.lt
  have hlm : -lit ∈ S.trail := by rw [← h.atl]; exact getD_mem hlt
  obtain ⟨v, r⟩ := RI.visit hlm hc hri hp (done := S.trail.take S.head) (fun j hj => List.mem_of_mem_take hj) h.pr
  obtain ⟨ext, he⟩ := v.ext
  refine ⟨v.fix.2.2.2.2.1, v.fix.1, v.fix.2.2.2.2.2.trans h.L, r, v.bad, fun hf => ?_⟩
  have hne : (a : Int) ∉ S.kept := by
    have := hri.wf.nd (slotN lit)
    simp only [if_true] at this
    rw [List.nodup_append] at this
    intro hm
    exact this.2.2 _ hm (a : Int) (by simp) rfl
  have hnow := Now.visit v h.now hne hf
  have hkp : (setkept S' (if moved then S.kept else S.kept ++ [(a : Int)])).kept = (if moved then S.kept else S.kept ++ [(a : Int)]) := rfl
  refine ⟨r.putkept _, ?_, hnow, ?_, v.fix.2.2.1.trans h.hd, ?_, ?_, v.fix.2.2.2.2.2.trans h.L⟩
  · show Pr S' (S'.trail.take S'.head)
    rw [v.fix.2.2.1, he, take_ext (by omega)]
    exact v.pr
  · exact h.sh.ext v.fix.2.1 v.mem v.len fun x hx => by
      show x ∈ S'.trail
      rw [he]; exact List.mem_append_left _ hx
  · show S'.head < S'.trail.length
    rw [v.fix.2.2.1, he]; simp; omega
  · show S'.trail.getD S'.head 0 = -lit
    rw [v.fix.2.2.1, he, ← h.atl]
    simp [List.getD, List.getElem?_append, hlt]
/-- a literal is done -/
theorem InnerI.done {cls : List Int → Prop} {A : Int → Prop} {S0 S : St} {lit : Int} {L : List Int} {hd : Nat} (h : InnerI cls A S0 lit L hd L.length S) : OuterI cls A S0 { setkept (setwt S (slotN lit) S.kept) [] with head := S.head + 1 } := by
  have hri := h.ri
  have e : (fun s => if s = slotN lit then S.kept ++ L.drop L.length else S.wt s) = (fun s => if s = slotN lit then S.kept else S.wt s) := by
    funext s
    by_cases e : s = slotN lit <;> simp [e]
  rw [e] at hri
  have hri2' := RI.putwt hri
  have hri2 : RI cls A S0 (setwt S (slotN lit) S.kept) (setwt S (slotN lit) S.kept).wt := hri2'
  have hlt := h.lt
  refine ⟨(hri2.putkept []).puthead _, ?_, fun i hi h2 => h.sh i hi h2, ?_, rfl⟩
  · have hp : Pr (setwt S (slotN lit) S.kept) (S.trail.take S.head) := fun i hi h2 => h.pr i hi h2
    have hn : Now (setwt S (slotN lit) S.kept) lit ((setwt S (slotN lit) S.kept).wt (slotN lit)) := by
      have e2 : (setwt S (slotN lit) S.kept).wt (slotN lit) = S.kept := by simp [setwt]
      rw [e2]; exact fun i hi => h.now i hi
    have hx := Pr.next hri2.wf hp hn
    have e3 : S.trail.take (S.head + 1) = S.trail.take S.head ++ [-lit] := by
      rw [List.take_add_one, ← h.atl]
      simp [List.getD, List.getElem?_eq_getElem hlt]
    show Pr _ (S.trail.take (S.head + 1))
    rw [e3]
    exact fun i hi h2 => hx i hi h2
  · show S.head + 1 ≤ S.trail.length
    omega
/-- a conflict: the rest is kept -/
theorem RI.stop {cls : List Int → Prop} {A : Int → Prop} {S0 S : St} {lit : Int} {k rest : List Int} (h : RI cls A S0 S (fun s => if s = slotN lit then k ++ rest else S.wt s)) : RI cls A S0 (setkept (setwt S (slotN lit) (k ++ rest)) []) (setkept (setwt S (slotN lit) (k ++ rest)) []).wt :=
  RI.putkept (RI.putwt h) []
end Go.Proofs.Ytcifiibpiooeiaa
