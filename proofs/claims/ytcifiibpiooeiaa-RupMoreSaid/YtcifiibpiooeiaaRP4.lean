import Derived.Test.YtcifiibpiooeiaaRP3
namespace Go.Proofs.Ytcifiibpiooeiaa
set_option linter.unusedVariables false
open Go.RowKit

/-- the checker's state under way: as it began, but for the order of literals, the watches and a longer trail -/
structure RI (cls : List Int → Prop) (A : Int → Prop) (S0 S : St) (W : Nat → List Int) : Prop where
  wf : Wf S W
  snd : Snd cls A S
  mem : ∀ i x, x ∈ S.cl i ↔ x ∈ S0.cl i
  len : ∀ i, (S.cl i).length = (S0.cl i).length
  fix : S.v = S0.v ∧ S.m = S0.m ∧ S.short = S0.short
  sub : ∀ x, x ∈ S0.trail → x ∈ S.trail
theorem RI.cls {cls : List Int → Prop} {A : Int → Prop} {S0 S : St} {W : Nat → List Int} (h : RI cls A S0 S W) (hc : ∀ l, ClsOf S0 l → cls l) : ∀ l, ClsOf S l → cls l := fun l ⟨i, hi, hm⟩ => hc l ⟨i, by rw [← h.fix.2.1]; exact hi, fun x => by rw [← h.mem]; exact hm x⟩
/-- the short clauses are looked after -/
def Sh (S : St) (n : Nat) : Prop := ∀ j, j < n → ∀ i : Nat, S.short.getD j 0 = (i : Int) → ∃ x, x ∈ S.cl i ∧ x ∈ S.trail
def ShAll (S : St) : Prop := ∀ i, i < S.m → (S.cl i).length < 2 → ∃ x, x ∈ S.cl i ∧ x ∈ S.trail
theorem Sh.all {S : St} {W : Nat → List Int} (h : Sh S S.short.length) (hw : Wf S W) : ShAll S := fun i hi hl => by
  obtain ⟨j, hj, e⟩ := List.getElem_of_mem (hw.sh i hi hl)
  exact h j hj i (by simp [List.getD, List.getElem?_eq_getElem hj, e])
/-- nothing more follows: it doesn't fail -/
theorem run_ok {cls : List Int → Prop} {A : Int → Prop} {S : St} {W : Nat → List Int} (hw : Wf S W) (hcls : ∀ l, cls l → ClsOf S l) (hA : ∀ x, A x → x ∈ S.trail) (hp : Pr S S.trail) (hs : ShAll S) : ¬ Fails cls A := by
  have one : ∀ i, i < S.m → ∀ x, x ∈ S.cl i → (S.cl i).length < 2 → ∀ y, y ∈ S.cl i → y = x := fun i hi x hx hl y hy => by
    match hc : S.cl i with
    | [] => rw [hc] at hx; simp at hx
    | [c] => rw [hc] at hx hy; simp at hx hy; rw [hx, hy]
    | _ :: _ :: _ => rw [hc] at hl; simp at hl; omega
  have two : ∀ i, i < S.m → 2 ≤ (S.cl i).length → (-((S.cl i).getD 0 0) ∈ S.trail → (S.cl i).getD 1 0 ∈ S.trail) ∧ (-((S.cl i).getD 1 0) ∈ S.trail → (S.cl i).getD 0 0 ∈ S.trail) := fun i hi hl =>
    ⟨fun h => (hp i hi hl _ h).1 (by omega), fun h => (hp i hi hl _ h).2 (by omega)⟩
  refine closed_ok (T := fun x => x ∈ S.trail) hA (fun l x hl hx hall => ?_) (fun x hx => hw.vals.cs x hx) (fun l hl => ?_)
  · obtain ⟨i, hi, hm⟩ := hcls l hl
    have hxi := (hm x).2 hx
    by_cases h2 : (S.cl i).length < 2
    · obtain ⟨z, hz, hzt⟩ := hs i hi h2
      rw [← one i hi x hxi h2 z hz]; exact hzt
    · have t := two i hi (by omega)
      have m0 : (S.cl i).getD 0 0 ∈ S.cl i := getD_mem (by omega)
      have m1 : (S.cl i).getD 1 0 ∈ S.cl i := getD_mem (by omega)
      have ne : (S.cl i).getD 0 0 ≠ (S.cl i).getD 1 0 := fun e => by
        have := getD_inj (hw.lits i hi).2 (i := 0) (j := 1) (by omega) (by omega) e
        omega
      by_cases e0 : (S.cl i).getD 0 0 = x
      · have := t.2 (hall _ ((hm _).1 m1) (fun e => ne (by rw [e0, e])))
        rw [e0] at this; exact this
      · have h1 := t.1 (hall _ ((hm _).1 m0) e0)
        by_cases e1 : (S.cl i).getD 1 0 = x
        · rw [e1] at h1; exact h1
        · exact absurd (hall _ ((hm _).1 m1) e1) (hw.vals.cs _ h1)
  · obtain ⟨i, hi, hm⟩ := hcls l hl
    by_cases h2 : (S.cl i).length < 2
    · obtain ⟨z, hz, hzt⟩ := hs i hi h2
      exact ⟨z, (hm z).1 hz, hw.vals.cs z hzt⟩
    · have t := two i hi (by omega)
      have m0 : (S.cl i).getD 0 0 ∈ S.cl i := getD_mem (by omega)
      have m1 : (S.cl i).getD 1 0 ∈ S.cl i := getD_mem (by omega)
      by_cases e0 : -((S.cl i).getD 0 0) ∈ S.trail
      · exact ⟨_, (hm _).1 m1, hw.vals.cs _ (t.1 e0)⟩
      · exact ⟨_, (hm _).1 m0, e0⟩
/-- a step of assume keeps all that -/
theorem RI.assume {cls : List Int → Prop} {A : Int → Prop} {S0 S : St} {W : Nat → List Int} (h : RI cls A S0 S W) {x : Int} (hx : x ≠ 0) (hv : x.natAbs ≤ S.v) (hd : Der cls A x) : RI cls A S0 (assumeS S x).1 W := by
  have hsp := assumeS_spec h.wf.vals hx hv
  have heq := assumeS_eq S x
  refine ⟨h.wf.assume hx hv, fun y hy => ?_, fun i y => by rw [heq]; exact h.mem i y, fun i => by rw [heq]; exact h.len i, by rw [heq]; exact h.fix, fun y hy => ?_⟩
  · rcases hsp with ⟨_, _, _, e | e⟩ | ⟨_, e, _⟩
    · rw [e] at hy; exact h.snd y hy
    · rw [e] at hy
      rcases List.mem_append.1 hy with hy | hy
      · exact h.snd y hy
      · have : y = x := by simpa using hy
        rw [this]; exact hd
    · rw [e] at hy; exact h.snd y hy
  · rcases hsp with ⟨_, _, _, e | e⟩ | ⟨_, e, _⟩
    · rw [e]; exact h.sub y hy
    · rw [e]; exact List.mem_append_left _ (h.sub y hy)
    · rw [e]; exact h.sub y hy
theorem assumeS_sub {S : St} (h : Vals S.v S.val S.trail) {x : Int} (hx : x ≠ 0) (hv : x.natAbs ≤ S.v) : ∀ y, y ∈ S.trail → y ∈ (assumeS S x).1.trail := fun y hy => by
  rcases assumeS_spec h hx hv with ⟨_, _, _, e | e⟩ | ⟨_, e, _⟩
  · rw [e]; exact hy
  · rw [e]; exact List.mem_append_left _ hy
  · rw [e]; exact hy
/-- the literals looked at so far, when the trail grows -/
theorem take_ext {t ext : List Int} {k : Nat} (h : k ≤ t.length) : (t ++ ext).take k = t.take k := by rw [List.take_append_of_le_length h]
/-- a visit within a run -/
theorem RI.visit {cls : List Int → Prop} {A : Int → Prop} {S0 S S' : St} {a : Nat} {lit : Int} {moved fails : Bool} {kept rest done : List Int} (hl : -lit ∈ S.trail) (hc : ∀ l, ClsOf S0 l → cls l)
    (h : RI cls A S0 S (fun s => if s = slotN lit then kept ++ (a : Int) :: rest else S.wt s)) (hp : VisitP S a lit S' moved fails) (hd : ∀ j, j ∈ done → j ∈ S.trail) (hpr : Pr S done) :
    VPost cls A S S' a lit kept rest moved fails done ∧ RI cls A S0 S' (fun s => if s = slotN lit then (if moved then kept else kept ++ [(a : Int)]) ++ rest else S'.wt s) := by
  have v := visit_pure hl h.wf hp (h.cls hc) h.snd hd hpr
  refine ⟨v, v.wf, v.snd, fun i x => (v.mem i x).trans (h.mem i x), fun i => (v.len i).trans (h.len i), ⟨v.fix.1.trans h.fix.1, v.fix.2.1.trans h.fix.2.1, v.fix.2.2.2.1.trans h.fix.2.2⟩, fun x hx => ?_⟩
  obtain ⟨ext, e⟩ := v.ext
  rw [e]; exact List.mem_append_left _ (h.sub x hx)
/-- what is known of the clauses that stay with a watch -/
def Now (S : St) (lit : Int) (kept : List Int) : Prop := ∀ i : Nat, (i : Int) ∈ kept → ((S.cl i).getD 0 0 = lit → (S.cl i).getD 1 0 ∈ S.trail) ∧ ((S.cl i).getD 1 0 = lit → (S.cl i).getD 0 0 ∈ S.trail)
theorem Now.visit {cls : List Int → Prop} {A : Int → Prop} {S S' : St} {a : Nat} {lit : Int} {moved fails : Bool} {kept rest done : List Int} (v : VPost cls A S S' a lit kept rest moved fails done) (h : Now S lit kept) (ha : (a : Int) ∉ kept) (hf : fails = false) :
    Now S' lit (if moved then kept else kept ++ [(a : Int)]) := by
  obtain ⟨ext, e⟩ := v.ext
  have hk : Now S' lit kept := fun i hi => by
    have hia : i ≠ a := by rintro rfl; exact ha hi
    rw [v.oth i hia, e]
    exact ⟨fun h0 => List.mem_append_left _ ((h i hi).1 h0), fun h0 => List.mem_append_left _ ((h i hi).2 h0)⟩
  cases hm : moved with
  | true => simpa using hk
  | false =>
    intro i hi
    simp only [Bool.false_eq_true, if_false] at hi
    rcases List.mem_append.1 hi with hi | hi
    · exact hk i hi
    · have hia : (i : Int) = a := by simpa using hi
      have : i = a := by omega
      subst this
      exact v.now hm hf
/-- all watches of a literal are looked after -/
theorem Pr.next {S : St} {lit : Int} {done : List Int} (hw : Wf S S.wt) (hp : Pr S done) (hn : Now S lit (S.wt (slotN lit))) : Pr S (done ++ [-lit]) := fun i hi hl j hj => by
  rcases List.mem_append.1 hj with hj | hj
  · exact hp i hi hl j hj
  · have hj' : j = -lit := by simpa using hj
    subst hj'
    rw [Int.neg_neg]
    have w1 := hw.w1 i hi hl
    refine ⟨fun e => (hn i ?_).1 e, fun e => (hn i ?_).2 e⟩
    · rw [← e]; exact w1.1
    · rw [← e]; exact w1.2
end Go.Proofs.Ytcifiibpiooeiaa
