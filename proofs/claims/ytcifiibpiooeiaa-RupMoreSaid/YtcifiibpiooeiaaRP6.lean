import Derived.Test.YtcifiibpiooeiaaR9
namespace Go.Proofs.Ytcifiibpiooeiaa
set_option linter.unusedVariables false
open Go Go.Lib Go.RowKit Go.Sort

/-! ## add, plainly -/
def growS (S : St) : St := { S with m := S.m + 1 }
def watchS (S : St) (x : Int) (a : Nat) : St := setwt S (slotN x) (S.wt (slotN x) ++ [(a : Int)])
def addC0 (S : St) (L : List Int) : St := growS (setcl S S.m L)
def addS (S : St) (L : List Int) : St :=
  if L.length < 2 then { addC0 S L with short := S.short ++ [(S.m : Int)] } else watchS (watchS (addC0 S L) (L.getD 0 0) S.m) (L.getD 1 0) S.m
theorem addS_short {S : St} {L : List Int} (h : L.length < 2) : addS S L = { addC0 S L with short := S.short ++ [(S.m : Int)] } := by unfold addS; rw [if_pos h]
theorem addS_long {S : St} {L : List Int} (h : ¬ L.length < 2) : addS S L = watchS (watchS (addC0 S L) (L.getD 0 0) S.m) (L.getD 1 0) S.m := by unfold addS; rw [if_neg h]
theorem addS_cl (S : St) (L : List Int) (i : Nat) : (addS S L).cl i = if i = S.m then L else S.cl i := by
  by_cases h : L.length < 2
  · rw [addS_short h]; rfl
  · rw [addS_long h]; rfl
theorem addS_fix (S : St) (L : List Int) : (addS S L).m = S.m + 1 ∧ (addS S L).v = S.v ∧ (addS S L).val = S.val ∧ (addS S L).trail = S.trail ∧ (addS S L).head = S.head ∧ (addS S L).kept = S.kept := by
  by_cases h : L.length < 2
  · rw [addS_short h]; exact ⟨rfl, rfl, rfl, rfl, rfl, rfl⟩
  · rw [addS_long h]; exact ⟨rfl, rfl, rfl, rfl, rfl, rfl⟩
theorem addS_short_len (S : St) (L : List Int) : (addS S L).short.length ≤ S.short.length + 1 := by
  by_cases h : L.length < 2
  · rw [addS_short h]; simp
  · rw [addS_long h]; show S.short.length ≤ _; omega
theorem addS_cls (S : St) (l l' : List Int) : ClsOf (addS S (clauseI l)) l' ↔ ClsOf S l' ∨ ∀ x, x ∈ l ↔ x ∈ l' := by
  unfold ClsOf
  rw [(addS_fix S _).1]
  constructor
  · rintro ⟨i, hi, hm⟩
    by_cases e : i = S.m
    · refine .inr fun x => ?_
      have := hm x
      rw [addS_cl, if_pos e, clauseI_mem] at this
      exact this
    · refine .inl ⟨i, by omega, fun x => ?_⟩
      have := hm x
      rw [addS_cl, if_neg e] at this
      exact this
  · rintro (⟨i, hi, hm⟩ | hm)
    · exact ⟨i, by omega, fun x => by rw [addS_cl, if_neg (by omega)]; exact hm x⟩
    · exact ⟨S.m, by omega, fun x => by rw [addS_cl, if_pos rfl, clauseI_mem]; exact hm x⟩
theorem watch_wt {S : St} {L : List Int} (hd : slotN (L.getD 0 0) ≠ slotN (L.getD 1 0)) (s : Nat) :
    (watchS (watchS (addC0 S L) (L.getD 0 0) S.m) (L.getD 1 0) S.m).wt s = if s = slotN (L.getD 0 0) ∨ s = slotN (L.getD 1 0) then S.wt s ++ [(S.m : Int)] else S.wt s := by
  simp only [watchS, setwt, addC0, growS, setcl, if_neg (Ne.symm hd)]
  by_cases h1 : s = slotN (L.getD 1 0)
  · rw [if_pos h1, if_pos (.inr h1), h1]
  · rw [if_neg h1]
    by_cases h0 : s = slotN (L.getD 0 0)
    · rw [if_pos h0, if_pos (.inl h0), h0]
    · rw [if_neg h0, if_neg (fun h => h.elim h0 h1)]
theorem Wf.add {S : St} {l : List Int} (h : Wf S S.wt) (hl : ∀ x, x ∈ l → x ≠ 0 ∧ x.natAbs ≤ S.v) : Wf (addS S (clauseI l)) (addS S (clauseI l)).wt := by
  obtain ⟨L, hL⟩ : ∃ L, clauseI l = L := ⟨_, rfl⟩
  have hnd : L.Nodup := by rw [← hL]; exact clauseI_nd l
  have hlx : ∀ x, x ∈ L → x ≠ 0 ∧ x.natAbs ≤ S.v := fun x hx => hl x (by rw [← hL] at hx; exact (clauseI_mem l x).1 hx)
  rw [hL]
  have hfix := addS_fix S L
  have hcl := addS_cl S L
  have hold : ∀ i, i ≠ S.m → (addS S L).cl i = S.cl i := fun i e => by rw [hcl, if_neg e]
  have hnew : (addS S L).cl S.m = L := by rw [hcl, if_pos rfl]
  have hvals : Vals (addS S L).v (addS S L).val (addS S L).trail := by rw [hfix.2.1, hfix.2.2.1, hfix.2.2.2.1]; exact h.vals
  have hlits : ∀ i, i < (addS S L).m → (∀ x, x ∈ (addS S L).cl i → x ≠ 0 ∧ x.natAbs ≤ (addS S L).v) ∧ ((addS S L).cl i).Nodup := fun i hi => by
    rw [hfix.1] at hi
    rw [hfix.2.1]
    by_cases e : i = S.m
    · subst e; rw [hnew]; exact ⟨hlx, hnd⟩
    · rw [hold i e]; exact h.lits i (by omega)
  by_cases h2 : L.length < 2
  · have hsh : (addS S L).short = S.short ++ [(S.m : Int)] := by rw [addS_short h2]
    have hwt : (addS S L).wt = S.wt := by rw [addS_short h2]; rfl
    refine ⟨hvals, hlits, fun i hi hlen => ?_, fun a ha => ?_, fun i hi hlen => ?_, fun s a ha => ?_, fun s => ?_⟩
    · rw [hsh]; rw [hfix.1] at hi
      by_cases e : i = S.m
      · subst e; simp
      · rw [hold i e] at hlen; exact List.mem_append_left _ (h.sh i (by omega) hlen)
    · rw [hsh] at ha
      rcases List.mem_append.1 ha with ha | ha
      · obtain ⟨i, e, hi, hlen⟩ := h.sh2 a ha
        exact ⟨i, e, by rw [hfix.1]; omega, by rw [hold i (by omega)]; exact hlen⟩
      · exact ⟨S.m, by simpa using ha, by rw [hfix.1]; omega, by rw [hnew]; exact h2⟩
    · rw [hfix.1] at hi
      by_cases e : i = S.m
      · subst e; rw [hnew] at hlen; omega
      · rw [hold i e] at hlen ⊢; rw [hwt]; exact h.w1 i (by omega) hlen
    · rw [hwt] at ha
      obtain ⟨i, e, hi, h3, h4⟩ := h.w2 s a ha
      exact ⟨i, e, by rw [hfix.1]; omega, by rw [hold i (by omega)]; exact h3, by rw [hold i (by omega)]; exact h4⟩
    · rw [hwt]; exact h.nd s
  · have hsh : (addS S L).short = S.short := by rw [addS_long h2]; rfl
    have h01 : L.getD 0 0 ≠ L.getD 1 0 := fun e => by
      have := getD_inj hnd (i := 0) (j := 1) (by omega) (by omega) e
      omega
    have hss : slotN (L.getD 0 0) ≠ slotN (L.getD 1 0) := fun e => h01 (slotN_inj (hlx _ (getD_mem (by omega))).1 e)
    have hwt : ∀ s, (addS S L).wt s = if s = slotN (L.getD 0 0) ∨ s = slotN (L.getD 1 0) then S.wt s ++ [(S.m : Int)] else S.wt s := fun s => by rw [addS_long h2]; exact watch_wt hss s
    have hsub : ∀ s a, a ∈ S.wt s → a ∈ (addS S L).wt s := fun s a ha => by
      rw [hwt]; split
      · exact List.mem_append_left _ ha
      · exact ha
    refine ⟨hvals, hlits, fun i hi hlen => ?_, fun a ha => ?_, fun i hi hlen => ?_, fun s a ha => ?_, fun s => ?_⟩
    · rw [hsh]; rw [hfix.1] at hi
      by_cases e : i = S.m
      · subst e; rw [hnew] at hlen; omega
      · rw [hold i e] at hlen; exact h.sh i (by omega) hlen
    · rw [hsh] at ha
      obtain ⟨i, e, hi, hlen⟩ := h.sh2 a ha
      exact ⟨i, e, by rw [hfix.1]; omega, by rw [hold i (by omega)]; exact hlen⟩
    · rw [hfix.1] at hi
      by_cases e : i = S.m
      · subst e
        rw [hnew, hwt, hwt, if_pos (.inl rfl), if_pos (.inr rfl)]
        simp
      · rw [hold i e] at hlen ⊢
        exact ⟨hsub _ _ (h.w1 i (by omega) hlen).1, hsub _ _ (h.w1 i (by omega) hlen).2⟩
    · have hcase : a ∈ S.wt s ∨ (a = (S.m : Int) ∧ (s = slotN (L.getD 0 0) ∨ s = slotN (L.getD 1 0))) := by
        rw [hwt] at ha
        split at ha
        · rename_i e
          rcases List.mem_append.1 ha with ha | ha
          · exact .inl ha
          · exact .inr ⟨by simpa using ha, e⟩
        · exact .inl ha
      rcases hcase with ha | ⟨ha, e⟩
      · obtain ⟨i, e, hi, h3, h4⟩ := h.w2 s a ha
        exact ⟨i, e, by rw [hfix.1]; omega, by rw [hold i (by omega)]; exact h3, by rw [hold i (by omega)]; exact h4⟩
      · refine ⟨S.m, ha, by rw [hfix.1]; omega, by rw [hnew]; omega, ?_⟩
        rw [hnew]
        exact e.elim (fun e => .inl e.symm) (fun e => .inr e.symm)
    · rw [hwt]; split
      · rw [List.nodup_append]
        refine ⟨h.nd s, by simp, fun p hp q hq => ?_⟩
        have hqa : q = (S.m : Int) := by simpa using hq
        rintro rfl
        obtain ⟨i, e, hi, _⟩ := h.w2 s p hp
        omega
      · exact h.nd s
end Go.Proofs.Ytcifiibpiooeiaa
