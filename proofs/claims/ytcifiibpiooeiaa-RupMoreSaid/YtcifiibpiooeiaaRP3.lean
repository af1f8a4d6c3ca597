import Derived.Test.YtcifiibpiooeiaaRP2
namespace Go.Proofs.Ytcifiibpiooeiaa
set_option linter.unusedVariables false

def Snd (cls : List Int → Prop) (A : Int → Prop) (S : St) : Prop := ∀ x, x ∈ S.trail → Der cls A x
theorem assumeS_eq (S : St) (x : Int) : (assumeS S x).1 = { S with val := (assumeS S x).1.val, trail := (assumeS S x).1.trail } := by
  unfold assumeS; split
  · rfl
  · split <;> rfl
/-- assume, plainly -/
theorem assumeS_spec {S : St} (h : Vals S.v S.val S.trail) {x : Int} (hx : x ≠ 0) (hv : x.natAbs ≤ S.v) :
    ((assumeS S x).2 = true ∧ x ∈ (assumeS S x).1.trail ∧ Vals S.v (assumeS S x).1.val (assumeS S x).1.trail ∧ ((assumeS S x).1 = S ∨ (assumeS S x).1.trail = S.trail ++ [x])) ∨
    ((assumeS S x).2 = false ∧ (assumeS S x).1 = S ∧ -x ∈ S.trail) := by
  obtain ⟨h1, h2, h3⟩ := h.pos x hx hv
  unfold assumeS
  by_cases a : litV S.val x = 1
  · rw [if_pos a]; exact .inl ⟨rfl, h1.1 a, h, .inl rfl⟩
  · rw [if_neg a]
    by_cases b : litV S.val x = -1
    · rw [if_pos b]; exact .inr ⟨rfl, rfl, h2.1 b⟩
    · rw [if_neg b]
      have h0 : litV S.val x = 0 := by have := h.small hx hv; omega
      exact .inl ⟨rfl, by simp, h.lay hx hv h0, .inr rfl⟩
theorem Wf.assume {S : St} {W : Nat → List Int} (h : Wf S W) {x : Int} (hx : x ≠ 0) (hv : x.natAbs ≤ S.v) : Wf (assumeS S x).1 W := by
  rw [assumeS_eq S x]
  refine ⟨?_, h.lits, h.sh, h.sh2, h.w1, h.w2, h.nd⟩
  rcases assumeS_spec h.vals hx hv with ⟨_, _, hV, _⟩ | ⟨_, e, _⟩
  · exact hV
  · rw [e]; exact h.vals
/-- a clause with the same watches, the other way round -/
theorem Wf.turn {S : St} {W : Nat → List Int} (h : Wf S W) {a : Nat} (ha : a < S.m) (h2 : 2 ≤ (S.cl a).length) {C : List Int} (hl : C.length = (S.cl a).length) (hm : ∀ x, x ∈ C ↔ x ∈ S.cl a) (hn : C.Nodup)
    (hw : (C.getD 0 0 = (S.cl a).getD 0 0 ∧ C.getD 1 0 = (S.cl a).getD 1 0) ∨ (C.getD 0 0 = (S.cl a).getD 1 0 ∧ C.getD 1 0 = (S.cl a).getD 0 0)) : Wf (setcl S a C) W := by
  have hcl : ∀ i, (setcl S a C).cl i = if i = a then C else S.cl i := fun i => rfl
  refine ⟨h.vals, fun i hi => ?_, fun i hi hs => ?_, fun b hb => ?_, fun i hi hs => ?_, fun s b hb => ?_, h.nd⟩
  · rw [hcl]; split
    · rename_i e; subst e; exact ⟨fun x hx => (h.lits i hi).1 x ((hm x).1 hx), hn⟩
    · exact h.lits i hi
  · rw [hcl] at hs; split at hs
    · rename_i e; subst e; omega
    · exact h.sh i hi hs
  · obtain ⟨i, e, hi, hs⟩ := h.sh2 b hb
    refine ⟨i, e, hi, ?_⟩
    rw [hcl]; split
    · rename_i e; subst e; omega
    · exact hs
  · rw [hcl] at hs ⊢; split
    · rename_i e; subst e
      obtain ⟨w1, w2⟩ := h.w1 i hi h2
      rcases hw with ⟨e1, e2⟩ | ⟨e1, e2⟩ <;> rw [e1, e2]
      · exact ⟨w1, w2⟩
      · exact ⟨w2, w1⟩
    · rename_i e; rw [if_neg e] at hs; exact h.w1 i hi hs
  · obtain ⟨i, e, hi, hs, hw'⟩ := h.w2 s b hb
    refine ⟨i, e, hi, ?_⟩
    rw [hcl]; split
    · rename_i e; subst e
      refine ⟨by omega, ?_⟩
      rcases hw with ⟨e1, e2⟩ | ⟨e1, e2⟩ <;> rw [e1, e2]
      · exact hw'
      · exact hw'.symm
    · exact ⟨hs, hw'⟩

/-- what is known behind a visit -/
structure VPost (cls : List Int → Prop) (A : Int → Prop) (S S' : St) (a : Nat) (lit : Int) (kept rest : List Int) (moved fails : Bool) (done : List Int) : Prop where
  wf : Wf S' (fun s => if s = slotN lit then (if moved then kept else kept ++ [(a : Int)]) ++ rest else S'.wt s)
  mem : ∀ i x, x ∈ S'.cl i ↔ x ∈ S.cl i
  len : ∀ i, (S'.cl i).length = (S.cl i).length
  oth : ∀ j, j ≠ a → S'.cl j = S.cl j
  fix : S'.v = S.v ∧ S'.m = S.m ∧ S'.head = S.head ∧ S'.short = S.short ∧ S'.kept = S.kept ∧ S'.wt (slotN lit) = S.wt (slotN lit)
  ext : ∃ ext, S'.trail = S.trail ++ ext
  snd : Snd cls A S'
  pr : Pr S' done
  now : moved = false → fails = false → ((S'.cl a).getD 0 0 = lit → (S'.cl a).getD 1 0 ∈ S'.trail) ∧ ((S'.cl a).getD 1 0 = lit → (S'.cl a).getD 0 0 ∈ S'.trail)
  bad : fails = true → Fails cls A

theorem visit_pure {cls : List Int → Prop} {A : Int → Prop} {S S' : St} {a : Nat} {lit : Int} {moved fails : Bool} {kept rest done : List Int} (hl : -lit ∈ S.trail)
    (h : Wf S (fun s => if s = slotN lit then kept ++ (a : Int) :: rest else S.wt s)) (hp : VisitP S a lit S' moved fails) (hc : ∀ l, ClsOf S l → cls l) (hs : Snd cls A S) (hd : ∀ j, j ∈ done → j ∈ S.trail) (hpr : Pr S done) :
    VPost cls A S S' a lit kept rest moved fails done := by
  obtain ⟨a', ea, ha, h2, hw⟩ := h.w2 (slotN lit) (a : Int) (by simp)
  obtain rfl : a = a' := by omega
  have hlits := (h.lits a ha).1
  have hnd := (h.lits a ha).2
  have hl0 : lit ≠ 0 := by have := (h.vals.lits _ hl).1; omega
  have hw' : (S.cl a).getD 0 0 = lit ∨ (S.cl a).getD 1 0 = lit := by
    rcases hw with e | e
    · exact .inl (slotN_inj (hlits _ (getD_mem (by omega))).1 e)
    · exact .inr (slotN_inj (hlits _ (getD_mem (by omega))).1 e)
  obtain ⟨g1, gn, g0, gc0, gc1⟩ := orient_get h2 hw' hnd
  have gl := orient_len (S.cl a) lit
  have gm := orient_mem (c := S.cl a) lit h2
  obtain ⟨C, hC⟩ : ∃ C, orient (S.cl a) lit = C := ⟨_, rfl⟩
  unfold VisitP at hp
  rw [hC] at hp g1 gn g0 gc0 gc1 gl gm
  have hC0 : C.getD 0 0 ≠ lit := fun e => by
    have := getD_inj gn (i := 0) (j := 1) (by omega) (by omega) (by rw [e, g1])
    omega
  have hturn : Wf (setcl S a C) (fun s => if s = slotN lit then kept ++ (a : Int) :: rest else S.wt s) := h.turn ha h2 gl gm gn (by
    rcases g0 with e | e
    · rcases gc1 with e1 | e1
      · exact absurd (getD_inj hnd (i := 0) (j := 1) (by omega) (by omega) (by rw [← e, e1])) (by omega)
      · exact .inl ⟨e, by rw [g1, e1]⟩
    · rcases gc0 with e1 | e1
      · exact absurd (getD_inj hnd (i := 0) (j := 1) (by omega) (by omega) (by rw [e1, e])) (by omega)
      · exact .inr ⟨e, by rw [g1, e1]⟩)
  have hz := hlits _ ((gm _).1 (getD_mem (l := C) (i := 0) (by omega)))
  have hnda : (a : Int) ∉ kept ++ rest := by
    have := h.nd (slotN lit)
    simp only [if_true] at this
    rw [List.nodup_append] at this
    obtain ⟨n1, n2, n3⟩ := this
    rw [List.nodup_cons] at n2
    intro hm
    rcases List.mem_append.1 hm with hm | hm
    · exact n3 _ hm _ (by simp) rfl
    · exact n2.1 hm
  rcases hp with ⟨rfl, rfl, i, hi2, hil, hpos, rfl⟩ | ⟨rfl, hcond, rfl, rfl⟩
  · -- another literal is watched
    obtain ⟨y, hy⟩ : ∃ y, C.getD i 0 = y := ⟨_, rfl⟩
    rw [hy] at hpos ⊢
    obtain ⟨s0, s1, sl⟩ := swap_get hi2 hil
    have sm := swap_mem hi2 hil
    have sn := swap_nodup hi2 hil gn
    rw [hy] at s1
    have hyC : y ∈ C := by rw [← hy]; exact getD_mem hil
    have hyl := hlits y ((gm y).1 hyC)
    have hyn : -y ∉ S.trail := fun hm => by
      have := ((h.vals.pos y hyl.1 hyl.2).2.1).2 hm
      omega
    have hylit : y ≠ lit := fun e => hyn (by rw [e]; exact hl)
    have hyC0 : y ≠ C.getD 0 0 := fun e => by
      have := getD_inj gn (i := i) (j := 0) hil (by omega) (by rw [hy, e])
      omega
    have hsy : slotN y ≠ slotN lit := fun e => hylit (slotN_inj hyl.1 e)
    obtain ⟨sy, hsye⟩ : ∃ s, slotN y = s := ⟨_, rfl⟩
    rw [hsye] at hsy ⊢
    have hcl : ∀ j, (setwt (setcl S a (swapAt C i)) sy (S.wt sy ++ [(a : Int)])).cl j = if j = a then swapAt C i else S.cl j := fun j => rfl
    have hwt : ∀ s, (setwt (setcl S a (swapAt C i)) sy (S.wt sy ++ [(a : Int)])).wt s = if s = sy then S.wt sy ++ [(a : Int)] else S.wt s := fun s => rfl
    have hC1 : (setcl S a C).cl a = C := setcl_at _ _ _
    have hwa := hturn.w1 a ha (by rw [hC1]; omega)
    rw [hC1] at hwa
    have hsC0 : slotN (C.getD 0 0) ≠ slotN lit := fun e => hC0 (slotN_inj hz.1 e)
    have hac0 : (a : Int) ∈ S.wt (slotN (C.getD 0 0)) := by
      have := hwa.1
      rw [if_neg hsC0] at this
      exact this
    refine ⟨⟨h.vals, fun j hj => ?_, fun j hj hlt => ?_, fun b hb => ?_, fun j hj hlt => ?_, fun s b hb => ?_, fun s => ?_⟩, fun j x => ?_, fun j => ?_, fun j hj => ?_, ⟨rfl, rfl, rfl, rfl, rfl, ?_⟩, ⟨[], by simp [setwt, setcl]⟩, hs, fun j hj hlt k hk => ?_, fun hmv => by simp at hmv, fun hf => by simp at hf⟩
    · rw [hcl]; split
      · exact ⟨fun x hx => hlits x ((gm x).1 ((sm x).1 hx)), sn⟩
      · exact h.lits j hj
    · rw [hcl] at hlt; split at hlt
      · omega
      · exact h.sh j hj hlt
    · obtain ⟨j, e, hj, hlt⟩ := h.sh2 b hb
      refine ⟨j, e, hj, ?_⟩
      rw [hcl]; split
      · rename_i e; subst e; omega
      · exact hlt
    · rw [hcl] at hlt ⊢
      by_cases hja : j = a
      · subst hja
        rw [if_pos rfl, s0, s1, hsye]
        refine ⟨?_, ?_⟩
        · simp only [hsC0, if_false, hwt]
          split
          · rename_i e; rw [e] at hac0; exact List.mem_append_left _ hac0
          · exact hac0
        · simp only [hsy, if_false, hwt, if_true]
          simp
      · rw [if_neg hja] at hlt ⊢
        have hw1 := h.w1 j hj hlt
        have key : ∀ s, (j : Int) ∈ (if s = slotN lit then kept ++ (a : Int) :: rest else S.wt s) → (j : Int) ∈ (if s = slotN lit then (if (true : Bool) = true then kept else kept ++ [(a : Int)]) ++ rest else (setwt (setcl S a (swapAt C i)) sy (S.wt sy ++ [(a : Int)])).wt s) := fun s hm => by
          by_cases e : s = slotN lit
          · rw [if_pos e] at hm ⊢
            rw [if_pos rfl]
            rcases List.mem_append.1 hm with hm | hm
            · exact List.mem_append_left _ hm
            · rcases List.mem_cons.1 hm with hm | hm
              · omega
              · exact List.mem_append_right _ hm
          · rw [if_neg e] at hm ⊢
            rw [hwt]; split
            · rename_i e2; subst e2; exact List.mem_append_left _ hm
            · exact hm
        exact ⟨key _ hw1.1, key _ hw1.2⟩
    · by_cases e : s = slotN lit
      · simp only [e, if_true] at hb
        obtain ⟨j, ej, hj, hlt, hww⟩ := h.w2 (slotN lit) b (by
          simp only [if_true]
          rcases List.mem_append.1 hb with hm | hm
          · exact List.mem_append_left _ hm
          · exact List.mem_append_right _ (List.mem_cons_of_mem _ hm))
        have hja : j ≠ a := fun e => hnda (by rw [ej, e] at hb; exact hb)
        refine ⟨j, ej, hj, ?_⟩
        rw [hcl, if_neg hja, e]
        exact ⟨hlt, hww⟩
      · simp only [e, if_false, hwt] at hb
        have hin : ∀ b, b ∈ S.wt s → ∃ j : Nat, b = j ∧ j < S.m ∧ 2 ≤ (if j = a then swapAt C i else S.cl j).length ∧ (slotN ((if j = a then swapAt C i else S.cl j).getD 0 0) = s ∨ slotN ((if j = a then swapAt C i else S.cl j).getD 1 0) = s) := fun b hb => by
          obtain ⟨j, ej, hj, hlt, hww⟩ := hturn.w2 s b (by rw [if_neg e]; exact hb)
          have hc2 : (setcl S a C).cl j = if j = a then C else S.cl j := rfl
          rw [hc2] at hlt hww
          refine ⟨j, ej, hj, ?_⟩
          by_cases hja : j = a
          · rw [if_pos hja] at hlt hww ⊢
            refine ⟨by omega, .inl ?_⟩
            rw [s0]
            rcases hww with hww | hww
            · exact hww
            · rw [g1] at hww; exact absurd hww.symm e
          · rw [if_neg hja] at hlt hww ⊢
            exact ⟨hlt, hww⟩
        split at hb
        · rename_i e2
          rcases List.mem_append.1 hb with hb | hb
          · rw [← e2] at hb
            obtain ⟨j, ej, hj, h3, h4⟩ := hin b hb
            exact ⟨j, ej, hj, by rw [hcl]; exact h3, by rw [hcl]; exact h4⟩
          · have hba : b = (a : Int) := by simpa using hb
            refine ⟨a, hba, ha, ?_⟩
            rw [hcl, if_pos rfl]
            exact ⟨by omega, .inr (by rw [s1, hsye, e2])⟩
        · obtain ⟨j, ej, hj, h3, h4⟩ := hin b hb
          exact ⟨j, ej, hj, by rw [hcl]; exact h3, by rw [hcl]; exact h4⟩
    · by_cases e : s = slotN lit
      · simp only [e, if_true]
        have := h.nd (slotN lit)
        simp only [if_true] at this
        rw [List.nodup_append] at this ⊢
        obtain ⟨n1, n2, n3⟩ := this
        exact ⟨n1, (List.nodup_cons.1 n2).2, fun p hp q hq => n3 p hp q (by simp [hq])⟩
      · simp only [e, if_false, hwt]
        have hns := h.nd s
        rw [if_neg e] at hns
        split
        · rename_i e2
          rw [← e2, List.nodup_append]
          refine ⟨hns, by simp, fun p hp q hq => ?_⟩
          have hqa : q = (a : Int) := by simpa using hq
          rintro rfl
          obtain ⟨j, ej, hj, hlt, hww⟩ := hturn.w2 s p (by rw [if_neg e]; exact hp)
          have hja : j = a := by omega
          subst hja
          rw [hC1] at hww
          rcases hww with hww | hww
          · rw [e2, ← hsye] at hww
            exact hyC0 (slotN_inj hz.1 hww).symm
          · rw [g1] at hww; exact e hww.symm
        · exact hns
    · rw [hcl]; split
      · rename_i e; subst e; rw [sm, gm]
      · rfl
    · rw [hcl]; split
      · rename_i e; subst e; omega
      · rfl
    · rw [hcl, if_neg hj]
    · rw [hwt, if_neg (Ne.symm hsy)]
    · rw [hcl] at hlt ⊢
      by_cases hja : j = a
      · subst hja
        rw [if_pos rfl, s0, s1]
        have hkt := hd k hk
        have hold := hpr j hj h2 k hk
        refine ⟨fun e => ?_, fun e => absurd hkt (by rw [e] at hyn; simpa using hyn)⟩
        exfalso
        have hlt2 : lit ∈ S.trail := by
          rcases g0 with e1 | e1
          · rcases gc1 with e2 | e2
            · exact absurd (getD_inj hnd (i := 0) (j := 1) (by omega) (by omega) (by rw [← e1, e2])) (by omega)
            · have := hold.1 (by rw [← e1]; exact e)
              rw [e2] at this; exact this
          · rcases gc0 with e2 | e2
            · exact absurd (getD_inj hnd (i := 0) (j := 1) (by omega) (by omega) (by rw [e2, e1])) (by omega)
            · have := hold.2 (by rw [← e1]; exact e)
              rw [e2] at this; exact this
        exact h.vals.cs lit hlt2 hl
      · rw [if_neg hja] at hlt ⊢
        exact hpr j hj hlt k hk
  · -- the clause is looked at for its first literal
    have hor : (C.getD 0 0 = (S.cl a).getD 0 0 ∧ C.getD 1 0 = (S.cl a).getD 1 0) ∨ (C.getD 0 0 = (S.cl a).getD 1 0 ∧ C.getD 1 0 = (S.cl a).getD 0 0) := by
      rcases g0 with e | e
      · rcases gc1 with e1 | e1
        · exact absurd (getD_inj hnd (i := 0) (j := 1) (by omega) (by omega) (by rw [← e, e1])) (by omega)
        · exact .inl ⟨e, by rw [g1, e1]⟩
      · rcases gc0 with e1 | e1
        · exact absurd (getD_inj hnd (i := 0) (j := 1) (by omega) (by omega) (by rw [e1, e])) (by omega)
        · exact .inr ⟨e, by rw [g1, e1]⟩
    have hcC : cls C := hc C ⟨a, ha, fun x => (gm x).symm⟩
    have hsp := assumeS_spec (S := setcl S a C) h.vals hz.1 hz.2
    have hwa := hturn.assume hz.1 hz.2
    have heq := assumeS_eq (setcl S a C) (C.getD 0 0)
    obtain ⟨r, hr⟩ : ∃ r, assumeS (setcl S a C) (C.getD 0 0) = r := ⟨_, rfl⟩
    rw [hr] at hsp hwa heq ⊢
    have hrcl : ∀ j, r.1.cl j = if j = a then C else S.cl j := fun j => by rw [heq]; rfl
    have hrwt : ∀ s, r.1.wt s = S.wt s := fun s => by rw [heq]; rfl
    have hfalse : (∀ i, 2 ≤ i → i < C.length → litV S.val (C.getD i 0) < 0) → ∀ y, y ∈ C → y ≠ C.getD 0 0 → -y ∈ S.trail := fun hall y hy hne => by
      obtain ⟨j, hj, rfl⟩ := List.getElem_of_mem hy
      have ej : C.getD j 0 = C[j] := by simp [List.getD, List.getElem?_eq_getElem hj]
      rw [← ej] at hne ⊢
      rcases (show j = 0 ∨ j = 1 ∨ 2 ≤ j by omega) with rfl | rfl | hj2
      · exact absurd rfl hne
      · rw [g1]; exact hl
      · have hlj := hlits _ ((gm _).1 (getD_mem hj))
        have := hall j hj2 hj
        have hsm := h.vals.small hlj.1 hlj.2
        exact ((h.vals.pos _ hlj.1 hlj.2).2.1).1 (by omega)
    have hder : Der cls A (C.getD 0 0) := by
      rcases hcond with hp0 | hall
      · have hsm := h.vals.small hz.1 hz.2
        exact hs _ (((h.vals.pos _ hz.1 hz.2).1).1 (by omega))
      · exact .unit hcC (getD_mem (by omega)) fun y hy hne => hs _ (hfalse hall y hy hne)
    have hext : ∃ ext, r.1.trail = S.trail ++ ext := by
      rcases hsp with ⟨_, _, _, e | e⟩ | ⟨_, e, _⟩
      · exact ⟨[], by rw [e]; simp [setcl]⟩
      · exact ⟨_, e⟩
      · exact ⟨[], by rw [e]; simp [setcl]⟩
    have hsub : ∀ x, x ∈ S.trail → x ∈ r.1.trail := fun x hx => by
      obtain ⟨ext, e⟩ := hext
      rw [e]; exact List.mem_append_left _ hx
    refine ⟨?_, fun j x => ?_, fun j => ?_, fun j hj => ?_, ⟨?_, ?_, ?_, ?_, ?_, hrwt _⟩, hext, fun x hx => ?_, fun j hj hlt k hk => ?_, fun _ hf => ?_, fun hf => ?_⟩
    · have e : (fun s => if s = slotN lit then (if (false : Bool) = true then kept else kept ++ [(a : Int)]) ++ rest else r.1.wt s) = (fun s => if s = slotN lit then kept ++ (a : Int) :: rest else S.wt s) := by
        funext s
        by_cases e : s = slotN lit
        · simp [e]
        · simp [e, hrwt]
      rw [e]; exact hwa
    · rw [hrcl]; split
      · rename_i e; subst e; exact gm x
      · rfl
    · rw [hrcl]; split
      · rename_i e; subst e; exact gl
      · rfl
    · rw [hrcl, if_neg hj]
    · rw [heq]; rfl
    · rw [heq]; rfl
    · rw [heq]; rfl
    · rw [heq]; rfl
    · rw [heq]; rfl
    · rcases hsp with ⟨_, _, _, e | e⟩ | ⟨_, e, _⟩
      · rw [e] at hx; exact hs x hx
      · rw [e] at hx
        rcases List.mem_append.1 hx with hx | hx
        · exact hs x hx
        · have : x = C.getD 0 0 := by simpa using hx
          rw [this]; exact hder
      · rw [e] at hx; exact hs x hx
    · rw [hrcl] at hlt ⊢
      have hm : r.1.m = S.m := by rw [heq]; rfl
      rw [hm] at hj
      by_cases hja : j = a
      · subst hja
        rw [if_pos rfl]
        have hold := hpr j hj h2 k hk
        rcases hor with ⟨e0, e1⟩ | ⟨e0, e1⟩ <;> rw [e0, e1]
        · exact ⟨fun e => hsub _ (hold.1 e), fun e => hsub _ (hold.2 e)⟩
        · exact ⟨fun e => hsub _ (hold.2 e), fun e => hsub _ (hold.1 e)⟩
      · rw [if_neg hja] at hlt ⊢
        have hold := hpr j hj hlt k hk
        exact ⟨fun e => hsub _ (hold.1 e), fun e => hsub _ (hold.2 e)⟩
    · rw [hrcl, if_pos rfl]
      refine ⟨fun e => absurd e hC0, fun _ => ?_⟩
      rcases hsp with ⟨_, hx, _, _⟩ | ⟨e, _, _⟩
      · exact hx
      · rw [e] at hf; simp at hf
    · rcases hsp with ⟨e, _, _, _⟩ | ⟨_, _, hn0⟩
      · rw [e] at hf; simp at hf
      · rcases hcond with hp0 | hall
        · have := ((h.vals.pos _ hz.1 hz.2).2.1).2 hn0
          omega
        · refine .inl ⟨C, hcC, fun y hy => hs _ ?_⟩
          by_cases e : y = C.getD 0 0
          · rw [e]; exact hn0
          · exact hfalse hall y hy e
end Go.Proofs.Ytcifiibpiooeiaa
