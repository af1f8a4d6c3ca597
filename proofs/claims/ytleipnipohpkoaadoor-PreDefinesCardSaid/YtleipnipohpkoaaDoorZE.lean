/- Texts of this claim, one behind another: P2, P3, P4, P5, P6, P7. They state lemmas; each names its own conditions. -/
import Derived.Test.YtleipnipohpkoaaDoorZ6
import Derived.Test.YtleipnipohpkoaaDoorZB
namespace Go.Proofs.YtleipnipohpkoaaDoor
set_option linter.unusedVariables false
open Go.RowKit Go.Maps
/-! # where pieces stand, the law -/
structure PA (texts : Nat → Bs) (j m : Nat) (p : Pc) : Prop where
  f : p.f = (j : Int) + 1
  l : p.l = (plTo (texts (j + 1)) m).1
  c : p.c = (plTo (texts (j + 1)) m).2
  le : m ≤ (texts (j + 1)).length
  ne : p.text ≠ []
  fx : p.fixed = true → m < (texts (j + 1)).length ∧ (texts (j + 1)).getD m 0 = 96
  own : p.fixed = false → m + p.text.length ≤ (texts (j + 1)).length ∧ ∀ i, i < p.text.length → p.text.getD i 0 = (texts (j + 1)).getD (m + i) 0 ∨ (p.text.getD i 0 = 32 ∧ (texts (j + 1)).getD (m + i) 0 ≠ 10)
structure SI (texts : Nat → Bs) (n : Nat) (S : Xs) : Prop where
  ok : S.err = 0 → ∀ p ∈ S.out, ∃ j m, j < n ∧ PA texts j m p
  bad : S.err ≠ 0 → 1 ≤ S.f
structure JI (texts : Nat → Bs) (num m : Nat) (S : Xs) (P : Fs) : Prop where
  j : S.err = 0 → P.joins = true → lastFree S.out = true → ∃ m0, PA texts num m0 (S.out.getD (S.out.length - 1) default) ∧ m0 + (S.out.getD (S.out.length - 1) default).text.length = m
section
variable {texts : Nat → Bs} {n : Nat}
theorem SI.fail {S : Xs} (h : SI texts n S) (f l c e : Int) (hf : 1 ≤ f) : SI texts n (failP S f l c e) := by
  unfold failP
  split
  · rename_i h0
    exact ⟨fun he => h.ok h0, fun _ => hf⟩
  · exact h
theorem failP_err (S : Xs) (f l c e : Int) (he : e ≠ 0) : (failP S f l c e).err ≠ 0 := (failP_facts S f l c e he).2.2
theorem mem_join {out : List Pc} {t : Bs} {p : Pc} (h : p ∈ joinP out t) : p ∈ out ∨ (0 < out.length ∧ p = { out.getD (out.length - 1) default with text := (out.getD (out.length - 1) default).text ++ t }) := by
  unfold joinP at h
  obtain ⟨i, hi, rfl⟩ := List.getElem_of_mem h
  rw [List.getElem_modify]
  have hi' : i < out.length := by simpa using hi
  split
  · rename_i e
    subst e
    right
    refine ⟨by omega, ?_⟩
    simp [List.getD, List.getElem?_eq_getElem hi']
  · left; exact List.getElem_mem _
theorem last_mem {out : List Pc} (h : 0 < out.length) : out.getD (out.length - 1) default ∈ out := by
  have : out.length - 1 < out.length := by omega
  simp [List.getD, List.getElem?_eq_getElem this]
theorem join_last (out : List Pc) (t : Bs) (h : 0 < out.length) : (joinP out t).getD ((joinP out t).length - 1) default = { out.getD (out.length - 1) default with text := (out.getD (out.length - 1) default).text ++ t } := by
  have hl : out.length - 1 < out.length := by omega
  rw [joinP_len]
  unfold joinP
  rw [List.getD, List.getElem?_modify]
  simp [List.getD, List.getElem?_eq_getElem hl]
theorem app_last (out : List Pc) (p : Pc) : (out ++ [p]).getD ((out ++ [p]).length - 1) default = p := by simp [List.getD]
theorem SI.put {S : Xs} (h : SI texts n S) (p : Pc) (f l c : Int) (joins : Bool) (hf : 1 ≤ f) (hp : p.text ≠ [] → ∃ j m, j < n ∧ PA texts j m p)
    (hj : S.err = 0 → p.text ≠ [] → joins = true → lastFree S.out = true → ∃ j m, j < n ∧ PA texts j m { S.out.getD (S.out.length - 1) default with text := (S.out.getD (S.out.length - 1) default).text ++ p.text }) :
    SI texts n (putP S p f l c joins) := by
  unfold putP
  split
  · exact h
  · rename_i h1
    have h1' : p.text ≠ [] ∧ S.err = 0 := ⟨fun e => h1 (.inl e), by by_cases he : S.err = 0; exact he; exact absurd (.inr he) h1⟩
    split
    · exact SI.fail (S := { S with size := S.size + p.text.length }) ⟨h.ok, h.bad⟩ f l c 4 hf
    · split
      · rename_i h3
        refine ⟨fun _ q hq => ?_, h.bad⟩
        rcases mem_join hq with hq | ⟨_, rfl⟩
        · exact h.ok h1'.2 q hq
        · exact hj h1'.2 h1'.1 h3.1 h3.2
      · refine ⟨fun _ q hq => ?_, h.bad⟩
        rcases List.mem_append.1 hq with hq | hq
        · exact h.ok h1'.2 q hq
        · rw [List.mem_singleton] at hq; subst hq; exact hp h1'.1
theorem PA.joins {num m : Nat} {q : Pc} {t : Bs} (h : PA texts num m q) (hq : q.fixed = false) (ht : m + q.text.length + t.length ≤ (texts (num + 1)).length)
    (hb : ∀ i, i < t.length → t.getD i 0 = (texts (num + 1)).getD (m + q.text.length + i) 0 ∨ (t.getD i 0 = 32 ∧ (texts (num + 1)).getD (m + q.text.length + i) 0 ≠ 10)) : PA texts num m { q with text := q.text ++ t } := by
  refine ⟨h.f, h.l, h.c, h.le, ?_, fun e => ?_, fun _ => ⟨?_, fun i hi => ?_⟩⟩
  · have := h.ne; simp [this]
  · rw [show ({ q with text := q.text ++ t } : Pc).fixed = q.fixed from rfl, hq] at e; cases e
  · simp only [List.length_append]; omega
  · show (q.text ++ t).getD i 0 = _ ∨ _
    by_cases hlt : i < q.text.length
    · have e : (q.text ++ t).getD i 0 = q.text.getD i 0 := by simp [List.getD, List.getElem?_append_left hlt]
      show _ ∨ ((q.text ++ t).getD i 0 = 32 ∧ _)
      rw [e]; exact (h.own hq).2 i hlt
    · have hi' : i < (q.text ++ t).length := hi
      rw [List.length_append] at hi'
      have e : (q.text ++ t).getD i 0 = t.getD (i - q.text.length) 0 := by simp only [List.getD]; rw [List.getElem?_append_right (by omega)]
      show _ ∨ ((q.text ++ t).getD i 0 = 32 ∧ _)
      rw [e]
      have := hb (i - q.text.length) (by omega)
      rwa [show m + q.text.length + (i - q.text.length) = m + i by omega] at this
/-- t is what stands at m in a blanked text -/
structure Sub (X : Bs) (t : Bs) (m : Nat) : Prop where
  le : m + t.length ≤ X.length
  at_ : ∀ i, i < t.length → t.getD i 0 = X.getD (m + i) 0
theorem ownPc_pa {num m : Nat} {X t : Bs} (hX : BlankOf X (texts (num + 1))) (hs : Sub X t m) (ht : t ≠ []) : PA texts num m (ownPc num (texts (num + 1)) t m) :=
  ⟨rfl, rfl, rfl, by have := hs.le; rw [hX.len] at this; omega, ht, fun e => (by simp [ownPc] at e), fun _ => ⟨by have := hs.le; rw [hX.len] at this; exact this, fun i hi => by
    have h1 := hs.at_ i hi
    have h2 := hX.at_ (m + i)
    show t.getD i 0 = _ ∨ (t.getD i 0 = 32 ∧ _)
    rw [h1]; exact h2⟩⟩
theorem lastFree_iff {out : List Pc} : lastFree out = true ↔ 0 < out.length ∧ (out.getD (out.length - 1) default).fixed = false := by
  unfold lastFree; simp
theorem textP_inv {num m : Nat} {S : Xs} {P : Fs} {X t : Bs} (hn : num < n) (h : SI texts n S) (hj : JI texts num m S P) (hX : BlankOf X (texts (num + 1))) (hs : Sub X t m) :
    SI texts n (textP S P (ownPc num (texts (num + 1)) t m)).1 ∧ JI texts num (m + t.length) (textP S P (ownPc num (texts (num + 1)) t m)).1 (textP S P (ownPc num (texts (num + 1)) t m)).2 := by
  have hpa := fun ht => ownPc_pa (texts := texts) hX hs ht
  have hjn : S.err = 0 → t ≠ [] → P.joins = true → lastFree S.out = true → ∃ m0, PA texts num m0 { S.out.getD (S.out.length - 1) default with text := (S.out.getD (S.out.length - 1) default).text ++ t } ∧ m0 + ((S.out.getD (S.out.length - 1) default).text ++ t).length = m + t.length := by
    intro he ht hjo hlf
    obtain ⟨m0, hp, hm⟩ := hj.j he hjo hlf
    refine ⟨m0, hp.joins (lastFree_iff.1 hlf).2 ?_ (fun i hi => ?_), ?_⟩
    · rw [hm]; have := hs.le; rw [hX.len] at this; exact this
    · rw [hm]; exact ((hpa ht).own rfl).2 i hi
    · rw [List.length_append]; omega
  refine ⟨h.put _ _ _ _ _ (by show (1 : Int) ≤ (num : Int) + 1; omega) (fun ht => ⟨num, m, hn, hpa ht⟩) (fun he ht hjo hlf => ?_), ⟨fun he hjo hlf => ?_⟩⟩
  · obtain ⟨m0, hp, _⟩ := hjn he ht hjo hlf
    exact ⟨num, m0, hn, hp⟩
  · have e1 : (textP S P (ownPc num (texts (num + 1)) t m)).1 = putP S (ownPc num (texts (num + 1)) t m) ((num : Int) + 1) (plTo (texts (num + 1)) m).1 (plTo (texts (num + 1)) m).2 P.joins := rfl
    rw [e1] at he hlf ⊢
    by_cases ht : t = []
    · have e2 : putP S (ownPc num (texts (num + 1)) t m) ((num : Int) + 1) (plTo (texts (num + 1)) m).1 (plTo (texts (num + 1)) m).2 P.joins = S := by rw [putP, if_pos (.inl ht)]
      have e3 : (textP S P (ownPc num (texts (num + 1)) t m)).2 = P := by show (if t = [] then P else _) = P; rw [if_pos ht]
      rw [e2] at he hlf ⊢
      rw [e3] at hjo
      rw [ht]
      exact hj.j he hjo hlf
    · by_cases hS : S.err = 0
      · have e2 := putP.eq_1 S (ownPc num (texts (num + 1)) t m) ((num : Int) + 1) (plTo (texts (num + 1)) m).1 (plTo (texts (num + 1)) m).2 P.joins
        rw [if_neg (by rintro (h' | h'); exact ht h'; exact h' hS)] at e2
        split at e2
        · rw [e2] at he
          exact absurd he (failP_err _ _ _ _ _ (by decide))
        · split at e2
          · rename_i h3
            obtain ⟨m0, hp, hm⟩ := hjn hS ht h3.1 h3.2
            rw [e2]
            show ∃ m0, PA texts num m0 ((joinP S.out t).getD ((joinP S.out t).length - 1) default) ∧ m0 + ((joinP S.out t).getD ((joinP S.out t).length - 1) default).text.length = _
            rw [join_last _ _ (lastFree_iff.1 h3.2).1]
            exact ⟨m0, hp, hm⟩
          · rw [e2]
            show ∃ m0, PA texts num m0 ((S.out ++ [ownPc num (texts (num + 1)) t m]).getD ((S.out ++ [ownPc num (texts (num + 1)) t m]).length - 1) default) ∧ m0 + ((S.out ++ [ownPc num (texts (num + 1)) t m]).getD ((S.out ++ [ownPc num (texts (num + 1)) t m]).length - 1) default).text.length = _
            rw [app_last]
            exact ⟨m, hpa ht, rfl⟩
      · rw [putP, if_pos (.inr hS)] at he; exact absurd he hS
/-- a use's pieces stand at a tick -/
theorem fixed_pa {num m : Nat} (hm : m < (texts (num + 1)).length) (h96 : (texts (num + 1)).getD m 0 = 96) (t : Bs) (ht : t ≠ []) : PA texts num m ⟨t, (num : Int) + 1, (plTo (texts (num + 1)) m).1, (plTo (texts (num + 1)) m).2, true⟩ :=
  ⟨rfl, rfl, rfl, Nat.le_of_lt hm, ht, fun _ => ⟨hm, h96⟩, fun e => (by cases e)⟩
theorem useL_inv {num m : Nat} {U : Xs → Bs → Xs} (hn : num < n) (hm : m < (texts (num + 1)).length) (h96 : (texts (num + 1)).getD m 0 = 96) (hU : ∀ S b, SI texts n S → SI texts n (U S b)) :
    ∀ (k : Nat) (s : Bs) (S : Xs), SI texts n S → SI texts n (useL U ((num : Int) + 1) (plTo (texts (num + 1)) m).1 (plTo (texts (num + 1)) m).2 k s S)
  | 0, _, S, h => h
  | k + 1, s, S, h => by
    have hp : ∀ t, SI texts n (putP S ⟨t, (num : Int) + 1, (plTo (texts (num + 1)) m).1, (plTo (texts (num + 1)) m).2, true⟩ ((num : Int) + 1) (plTo (texts (num + 1)) m).1 (plTo (texts (num + 1)) m).2 false) :=
      fun t => h.put _ _ _ _ _ (by omega) (fun ht => ⟨num, m, hn, fixed_pa hm h96 t ht⟩) (fun _ _ hj => by cases hj)
    unfold useL
    split
    · exact h
    · split
      · exact hp s
      · split
        · exact (hp _).fail _ _ _ _ (by omega)
        · exact useL_inv hn hm h96 hU k _ _ (hU _ _ (hp _))
theorem useP_inv {num m : Nat} (hn : num < n) (hm : m < (texts (num + 1)).length) (h96 : (texts (num + 1)).getD m 0 = 96) : ∀ (d : Nat) (S : Xs) (b : Bs), SI texts n S → SI texts n (useP ((num : Int) + 1) (plTo (texts (num + 1)) m).1 (plTo (texts (num + 1)) m).2 d S b)
  | 0, S, b, h => by
    unfold useP
    split
    · exact h.fail _ _ _ _ (by omega)
    · exact h.fail _ _ _ _ (by omega)
  | d + 1, S, b, h => by
    unfold useP
    split
    · exact h.fail _ _ _ _ (by omega)
    · exact useL_inv hn hm h96 (fun S b h => useP_inv hn hm h96 d S b h) _ _ _ h
theorem Sub.left {X x y : Bs} {c : UInt8} {m : Nat} (h : Sub X (x ++ c :: y) m) : Sub X x m ∧ m + x.length < X.length ∧ X.getD (m + x.length) 0 = c := by
  have hl := h.le
  rw [List.length_append, List.length_cons] at hl
  refine ⟨⟨by omega, fun i hi => ?_⟩, by omega, ?_⟩
  · have := h.at_ i (by rw [List.length_append]; omega)
    rw [← this]; simp [List.getD, List.getElem?_append_left hi]
  · have := h.at_ x.length (by rw [List.length_append, List.length_cons]; omega)
    rw [← this]; simp [List.getD]
theorem Sub.right {X x y : Bs} {c : UInt8} {m : Nat} (h : Sub X (x ++ c :: y) m) (k : Nat) (hk : k ≤ y.length) : Sub X (y.drop k) (m + x.length + 1 + k) := by
  have hl := h.le
  rw [List.length_append, List.length_cons] at hl
  refine ⟨by rw [List.length_drop]; omega, fun i hi => ?_⟩
  rw [List.length_drop] at hi
  have := h.at_ (x.length + 1 + k + i) (by rw [List.length_append, List.length_cons]; omega)
  rw [show m + x.length + 1 + k + i = m + (x.length + 1 + k + i) by omega, ← this]
  simp only [List.getD]
  rw [List.getElem?_append_right (by omega), show x.length + 1 + k + i - x.length = (k + i) + 1 by omega, List.getElem?_cons_succ, List.getElem?_drop]
theorem tick_of {X T : Bs} (hX : BlankOf X T) {m : Nat} (h : m < X.length) (h96 : X.getD m 0 = 96) : m < T.length ∧ T.getD m 0 = 96 := by
  refine ⟨by rw [← hX.len]; exact h, ?_⟩
  rcases hX.at_ m with e | ⟨e, _⟩
  · rw [← e]; exact h96
  · rw [h96] at e; cases e
theorem usesL_inv {num : Nat} {X : Bs} (hn : num < n) (hX : BlankOf X (texts (num + 1))) : ∀ (k : Nat) (s : Bs) (m : Nat) (S : Xs) (P : Fs), s.length < k → SI texts n S → JI texts num m S P → Sub X s m →
    SI texts n (usesL num (texts (num + 1)) k s m S P).1 ∧ JI texts num (m + s.length) (usesL num (texts (num + 1)) k s m S P).1 (usesL num (texts (num + 1)) k s m S P).2
  | 0, _, _, S, P, hk, h, hj, hs => absurd hk (Nat.not_lt_zero _)
  | k + 1, s, m, S, P, hk, h, hj, hs => by
    unfold usesL
    split
    · exact textP_inv hn h hj hX hs
    · split
      · exact textP_inv hn h hj hX hs
      · rename_i x y hc
        obtain ⟨hsx, _⟩ := cutB_some hc
        subst hsx
        obtain ⟨h1, h2, h3⟩ := hs.left
        obtain ⟨a1, a2⟩ := textP_inv hn h hj hX h1
        obtain ⟨t1, t2⟩ := tick_of hX h2 h3
        split
        · rename_i hne
          refine ⟨a1.fail _ _ _ _ (by omega), ⟨fun he => absurd he (failP_err _ _ _ _ _ (by decide))⟩⟩
        · have hb := useP_inv hn t1 t2 8 _ (name y) a1
          have hnl := name_le y
          have := usesL_inv hn hX k (y.drop (name y).length) (m + x.length + 1 + (name y).length) _ { (textP S P (ownPc num (texts (num + 1)) x m)).2 with joins := false } (by rw [List.length_append, List.length_cons] at hk; rw [List.length_drop]; omega) hb ⟨fun _ hjo => by cases hjo⟩ (hs.right _ hnl)
          rw [List.length_drop] at this
          rw [List.length_append, List.length_cons]
          rw [show m + (x.length + (y.length + 1)) = m + x.length + 1 + (name y).length + (y.length - (name y).length) by omega]
          exact this
/-! ## the directives -/
structure CI (P : Fs) : Prop where
  c : ∀ q ∈ P.conds, 1 ≤ q.f
theorem countsP_of {P P' : Fs} (h : P'.conds = P.conds) : countsP P' = countsP P := by unfold countsP; rw [h]
def JC (P : Fs) : Prop := P.joins = true → countsP P = true
theorem condP_inv {S : Xs} {P : Fs} (h : SI texts n S) (hc : CI P) (word rest : Bs) (f l c : Int) (apart : Bool) (hf : 1 ≤ f) : SI texts n (condP S P word rest f l c apart).1 ∧ CI (condP S P word rest f l c apart).2 := by
  unfold condP
  split
  · split
    · exact ⟨h.fail _ _ _ _ hf, hc⟩
    · refine ⟨h, ⟨fun q hq => ?_⟩⟩
      rcases List.mem_append.1 hq with hq | hq
      · exact hc.c q hq
      · rw [List.mem_singleton] at hq; subst hq; exact hf
  · split
    · split
      · exact ⟨h.fail _ _ _ _ hf, hc⟩
      · refine ⟨h, ⟨fun q hq => ?_⟩⟩
        obtain ⟨i, hi, rfl⟩ := List.getElem_of_mem hq
        rw [List.getElem_modify]
        have hi' : i < P.conds.length := by simpa using hi
        split
        · exact hc.c (P.conds[i]) (List.getElem_mem hi')
        · exact hc.c (P.conds[i]) (List.getElem_mem hi')
    · split
      · exact ⟨h.fail _ _ _ _ hf, hc⟩
      · exact ⟨h, ⟨fun q hq => hc.c q (List.mem_of_mem_take hq)⟩⟩
variable {file : Xs → Nat → Int → Int → Int → Xs} {find : Bs → Nat}
theorem defP_inv {S : Xs} (hfile : ∀ S num f l c, 1 ≤ num → num ≤ n → 1 ≤ f → SI texts n S → SI texts n (file S num f l c)) (hfind : ∀ b, find b ≤ n) (h : SI texts n S) (word rest : Bs) (f l c : Int) (apart : Bool) (hf : 1 ≤ f) : SI texts n (defP file find S word rest f l c apart) := by
  unfold defP
  split
  · unfold inclP
    split
    · exact h.fail _ _ _ _ hf
    · split
      · exact h.fail _ _ _ _ hf
      · exact hfile _ _ _ _ _ (by omega) (hfind _) hf h
  · split
    · exact h.fail _ _ _ _ hf
    · split
      · exact ⟨h.ok, h.bad⟩
      · exact ⟨h.ok, h.bad⟩
theorem dirP_inv {S : Xs} {P : Fs} (hfile : ∀ S num f l c, 1 ≤ num → num ≤ n → 1 ≤ f → SI texts n S → SI texts n (file S num f l c)) (hfind : ∀ b, find b ≤ n) (h : SI texts n S) (hc : CI P) (s : Bs) (f l c : Int) (hf : 1 ≤ f) :
    SI texts n (dirP file find S P s f l c).2.1 ∧ CI (dirP file find S P s f l c).2.2 ∧ ((dirP file find S P s f l c).1 = false → (dirP file find S P s f l c).2 = (S, P)) := by
  unfold dirP
  simp only
  split
  · obtain ⟨a, b⟩ := condP_inv h hc (name s) (trim (s.drop (name s).length)) f l c (decide (s.drop (name s).length = []) || isBlank ((s.drop (name s).length).getD 0 0)) hf
    exact ⟨a, b, fun e => by cases e⟩
  · split
    · refine ⟨?_, hc, fun e => by cases e⟩
      show SI texts n (if countsP P = true then _ else S)
      split
      · exact defP_inv hfile hfind h _ _ _ _ _ _ hf
      · exact h
    · exact ⟨h, hc, fun _ => rfl⟩
theorem textP_conds (S : Xs) (P : Fs) (p : Pc) : (textP S P p).2.conds = P.conds := by
  unfold textP
  split <;> rfl
theorem usesL_conds (num : Nat) (T : Bs) : ∀ (k : Nat) (s : Bs) (m : Nat) (S : Xs) (P : Fs), (usesL num T k s m S P).2.conds = P.conds
  | 0, _, _, _, _ => rfl
  | k + 1, s, m, S, P => by
    unfold usesL
    split
    · exact textP_conds _ _ _
    · split
      · exact textP_conds _ _ _
      · split
        · exact textP_conds S P _
        · rw [usesL_conds]; exact textP_conds S P _
theorem lineP_inv {num m : Nat} {X s : Bs} {ended : Bool} {S : Xs} {P : Fs} (hfile : ∀ S num f l c, 1 ≤ num → num ≤ n → 1 ≤ f → SI texts n S → SI texts n (file S num f l c)) (hfind : ∀ b, find b ≤ n) (hn : num < n) (hX : BlankOf X (texts (num + 1))) (h : SI texts n S) (hj : JI texts num m S P) (hc : CI P) (hjc : JC P) (hs : Sub X s m) (hend : ended = true → Sub X [10] (m + s.length)) :
    SI texts n (lineP file find num (texts (num + 1)) s m ended S P).1 ∧ JI texts num (m + s.length + (if ended = true then 1 else 0)) (lineP file find num (texts (num + 1)) s m ended S P).1 (lineP file find num (texts (num + 1)) s m ended S P).2 ∧ CI (lineP file find num (texts (num + 1)) s m ended S P).2 ∧ JC (lineP file find num (texts (num + 1)) s m ended S P).2 := by
  have hend' : Sub X (if ended = true then [10] else []) (m + s.length) := by
    split
    · rename_i e; exact hend e
    · exact ⟨by have := hs.le; simpa using this, fun i hi => absurd hi (Nat.not_lt_zero _)⟩
  have hlen : (if ended = true then ([10] : Bs) else []).length = if ended = true then 1 else 0 := by split <;> rfl
  unfold lineP
  simp only
  generalize hd : (if trimL s ≠ [] ∧ (trimL s).getD 0 0 = 96 then dirP file find S P ((trimL s).drop 1) ((num : Int) + 1) (plTo (texts (num + 1)) (m + s.length - (trimL s).length)).1 (plTo (texts (num + 1)) (m + s.length - (trimL s).length)).2 else (false, S, P)) = d
  have hdi : SI texts n d.2.1 ∧ CI d.2.2 ∧ (d.1 = false → d.2 = (S, P)) := by
    rw [← hd]
    split
    · exact dirP_inv hfile hfind h hc _ _ _ _ (by omega)
    · exact ⟨h, hc, fun _ => rfl⟩
  obtain ⟨d1, d2, d3⟩ := hdi
  split
  · split
    · rename_i hcn
      have := textP_inv (P := { d.2.2 with joins := false }) hn d1 ⟨fun _ hjo => by cases hjo⟩ hX hend'
      rw [hlen] at this
      refine ⟨this.1, this.2, ⟨by rw [textP_conds]; exact d2.c⟩, fun _ => ?_⟩
      rw [countsP_of (textP_conds _ _ _)]; exact hcn
    · exact ⟨d1, ⟨fun _ hjo => by cases hjo⟩, ⟨d2.c⟩, fun hjo => by cases hjo⟩
  · rename_i hf
    have e := d3 (by simpa using hf)
    have e1 : d.2.1 = S := by rw [e]
    have e2 : d.2.2 = P := by rw [e]
    rw [e1, e2]
    split
    · rename_i hcn
      obtain ⟨u1, u2⟩ := usesL_inv hn hX (s.length + 1) s m S P (Nat.lt_succ_self _) h hj hs
      have := textP_inv hn u1 u2 hX hend'
      rw [hlen] at this
      have hcs : (textP (usesP num (texts (num + 1)) s m S P).1 (usesP num (texts (num + 1)) s m S P).2 (ownPc num (texts (num + 1)) (if ended = true then [10] else []) (m + s.length))).2.conds = P.conds := by
        rw [textP_conds, usesP, usesL_conds]
      exact ⟨this.1, this.2, ⟨by rw [hcs]; exact hc.c⟩, fun _ => by rw [countsP_of hcs]; exact hcn⟩
    · rename_i hcn
      exact ⟨h, ⟨fun he hjo hlf => absurd (hjc hjo) hcn⟩, hc, hjc⟩
theorem linesL_inv {num : Nat} {X : Bs} (hfile : ∀ S num f l c, 1 ≤ num → num ≤ n → 1 ≤ f → SI texts n S → SI texts n (file S num f l c)) (hfind : ∀ b, find b ≤ n) (hn : num < n) (hX : BlankOf X (texts (num + 1))) :
    ∀ (k m : Nat) (S : Xs) (P : Fs), SI texts n S → JI texts num m S P → CI P → JC P → SI texts n (linesL file find num (texts (num + 1)) X k m S P).1 ∧ CI (linesL file find num (texts (num + 1)) X k m S P).2
  | 0, m, S, P, h, hj, hc, hjc => ⟨h, hc⟩
  | k + 1, m, S, P, h, hj, hc, hjc => by
    unfold linesL
    split
    · rename_i hm
      split
      · have hs : Sub X (X.drop m) m := ⟨by rw [List.length_drop]; omega, fun i hi => by simp [List.getD, List.getElem?_drop]⟩
        obtain ⟨a, _, b, _⟩ := lineP_inv (ended := false) hfile hfind hn hX h hj hc hjc hs (fun e => by cases e)
        exact ⟨a, b⟩
      · rename_i x y hcut
        obtain ⟨hxy, _⟩ := cutB_some hcut
        have hs0 : Sub X (x ++ 10 :: y) m := by
          rw [← hxy]
          exact ⟨by rw [List.length_drop]; omega, fun i hi => by simp [List.getD, List.getElem?_drop]⟩
        obtain ⟨h1, h2, h3⟩ := hs0.left
        have hend : Sub X [10] (m + x.length) := ⟨h2, fun i hi => by
          have : i = 0 := by simpa using hi
          subst this; rw [Nat.add_zero, h3]; rfl⟩
        obtain ⟨a, b, c, d⟩ := lineP_inv (ended := true) hfile hfind hn hX h hj hc hjc h1 (fun _ => hend)
        rw [if_pos rfl] at b
        exact linesL_inv hfile hfind hn hX k _ _ _ a b c d
    · exact ⟨h, hc⟩
theorem fileP_inv (hfind : ∀ b, find b ≤ n) : ∀ (d : Nat) (S : Xs) (num : Nat) (f l c : Int), 1 ≤ num → num ≤ n → (d = 0 → 1 ≤ f) → SI texts n S → SI texts n (fileP texts find d S num f l c)
  | 0, S, num, f, l, c, h1, h2, hf, h => SI.fail (S := { S with files := S.files + 1 }) ⟨h.ok, h.bad⟩ f l c 8 (hf rfl)
  | d + 1, S, num, f, l, c, h1, h2, hf, h => by
    have h' : SI texts n { S with files := S.files + 1 } := ⟨h.ok, h.bad⟩
    unfold fileP
    split
    · exact h'.fail _ _ _ _ (by omega)
    · rename_i X hX
      have hB := plainP_blank hX
      obtain ⟨q, rfl⟩ : ∃ q, num = q + 1 := ⟨num - 1, by omega⟩
      simp only [Nat.add_sub_cancel]
      obtain ⟨a, b⟩ := linesL_inv (file := fileP texts find d) (fun S num f l c h1 h2 hf h => fileP_inv hfind d S num f l c h1 h2 (fun _ => hf) h) hfind (by omega : q < n) hB (X.length + 1) 0 { S with files := S.files + 1 } ⟨q, [], false⟩ h' ⟨fun _ hj => by cases hj⟩ ⟨fun q hq => by cases hq⟩ (fun hj => by cases hj)
      split
      · exact ⟨a.ok, a.bad⟩
      · rename_i hlen
        have hmem : ∀ l : List Cd, ¬ l.length = 0 → l.getD (l.length - 1) default ∈ l := fun l hl => by
          have : l.length - 1 < l.length := by omega
          simp [List.getD, List.getElem?_eq_getElem this]
        have hf := a.fail _ (linesL (fileP texts find d) find q (texts (q + 1)) X (X.length + 1) 0 { S with files := S.files + 1 } ⟨q, [], false⟩).2.conds.length 0 6 (b.c _ (hmem _ hlen))
        have := a.fail _ ((linesL (fileP texts find d) find q (texts (q + 1)) X (X.length + 1) 0 { S with files := S.files + 1 } ⟨q, [], false⟩).2.conds.getD ((linesL (fileP texts find d) find q (texts (q + 1)) X (X.length + 1) 0 { S with files := S.files + 1 } ⟨q, [], false⟩).2.conds.length - 1) default).l ((linesL (fileP texts find d) find q (texts (q + 1)) X (X.length + 1) 0 { S with files := S.files + 1 } ⟨q, [], false⟩).2.conds.getD ((linesL (fileP texts find d) find q (texts (q + 1)) X (X.length + 1) 0 { S with files := S.files + 1 } ⟨q, [], false⟩).2.conds.length - 1) default).c 6 (b.c _ (hmem _ hlen))
        exact ⟨this.ok, this.bad⟩
end
/-- what Expand hands back -/
theorem expandP_inv {texts : Nat → Bs} {find : Bs → Nat} {n : Nat} (hfind : ∀ b, find b ≤ n) (top : Bs) :
    ((expandP texts find top).2.2 = 0 → ∀ p ∈ (expandP texts find top).1, ∃ j m, j < n ∧ PA texts j m p) ∧
    ((expandP texts find top).2.2 ≠ 0 → (expandP texts find top).1 = [] ∧ ((expandP texts find top).2.2 = 9 ∨ 1 ≤ (expandP texts find top).2.1.1)) := by
  unfold expandP
  split
  · refine ⟨fun h => ?_, fun _ => ⟨rfl, .inl rfl⟩⟩
    intro p hp; cases hp
  · rename_i h0
    have hx : SI texts n x0 := ⟨fun _ p hp => (by cases hp), fun h => absurd rfl h⟩
    have h := fileP_inv (texts := texts) hfind 8 x0 (find top) 0 0 0 (by omega) (hfind _) (fun h => by cases h) hx
    simp only
    split
    · rename_i he
      exact ⟨fun e => absurd e he, fun _ => ⟨rfl, .inr (h.bad he)⟩⟩
    · rename_i he
      exact ⟨fun _ => h.ok (by omega), fun e => absurd rfl e⟩
end Go.Proofs.YtleipnipohpkoaaDoor
namespace Go.Proofs.YtleipnipohpkoaaDoor
set_option linter.unusedVariables false
open Go.RowKit Go.Maps
/-! # the bytes that come out -/
def outB (l : List Pc) : Bs := l.flatMap fun p => p.text
theorem outB_app (l : List Pc) (p : Pc) : outB (l ++ [p]) = outB l ++ p.text := by simp [outB]
theorem modify_last {α : Type} (f : α → α) (q : α) : ∀ l : List α, (l ++ [q]).modify l.length f = l ++ [f q]
  | [] => rfl
  | a :: l => by simp [modify_last f q l]
theorem joinP_split (l : List Pc) (h : 0 < l.length) (t : Bs) : ∃ l' q, l = l' ++ [q] ∧ joinP l t = l' ++ [{ q with text := q.text ++ t }] := by
  obtain ⟨l', q, rfl⟩ : ∃ l' q, l = l' ++ [q] := ⟨l.dropLast, l.getLast (by intro e; subst e; simp at h), (List.dropLast_concat_getLast _).symm⟩
  refine ⟨l', q, rfl, ?_⟩
  unfold joinP
  rw [show (l' ++ [q]).length - 1 = l'.length by simp]
  exact modify_last _ _ _
theorem outB_join (l : List Pc) (h : 0 < l.length) (t : Bs) : outB (joinP l t) = outB l ++ t := by
  obtain ⟨l', q, rfl, e⟩ := joinP_split l h t
  rw [e]; simp [outB]
structure Put (S S' : Xs) (t : Bs) : Prop where
  err : S'.err = 0
  size : S'.size = S.size + t.length
  out : outB S'.out = outB S.out ++ t
  defs : S'.defs = S.defs
  texts : S'.texts = S.texts
  files : S'.files = S.files
theorem putP_put {S : Xs} (he : S.err = 0) (p : Pc) (f l c : Int) (j : Bool) (hs : S.size + p.text.length ≤ 65536) : Put S (putP S p f l c j) p.text := by
  unfold putP
  split
  · rename_i h
    rcases h with h | h
    · rw [h]; exact ⟨he, rfl, (List.append_nil _).symm, rfl, rfl, rfl⟩
    · exact absurd he h
  · rw [if_neg (by omega)]
    split
    · rename_i h
      exact ⟨he, rfl, outB_join _ (lastFree_iff.1 h.2).1 _, rfl, rfl, rfl⟩
    · exact ⟨he, rfl, outB_app _ _, rfl, rfl, rfl⟩
theorem Put.trans {S S' S'' : Xs} {t t' : Bs} (h : Put S S' t) (k : Put S' S'' t') : Put S S'' (t ++ t') :=
  ⟨k.err, by rw [k.size, h.size, List.length_append]; omega, by rw [k.out, h.out, List.append_assoc], k.defs.trans h.defs, k.texts.trans h.texts, k.files.trans h.files⟩
theorem Put.zero {S : Xs} (h : S.err = 0) : Put S S [] := ⟨h, rfl, (List.append_nil _).symm, rfl, rfl, rfl⟩
theorem putP_bad {S : Xs} (h : S.err ≠ 0) (p : Pc) (f l c : Int) (j : Bool) : putP S p f l c j = S := by rw [putP, if_pos (.inr h)]
theorem failP_bad {S : Xs} (h : S.err ≠ 0) (f l c e : Int) : failP S f l c e = S := by rw [failP, if_neg h]
/-! # lines, one at a time -/
section
variable {file : Xs → Nat → Int → Int → Int → Xs} {find : Bs → Nat} {num : Nat} {T X : Bs}
theorem linesL_fuel : ∀ (k k' m : Nat) (S : Xs) (P : Fs), X.length < m + k → X.length < m + k' → linesL file find num T X k m S P = linesL file find num T X k' m S P
  | 0, 0, m, S, P, _, _ => rfl
  | 0, k' + 1, m, S, P, h, _ => by unfold linesL; rw [if_neg (by omega)]
  | k + 1, 0, m, S, P, _, h => by unfold linesL; rw [if_neg (by omega)]
  | k + 1, k' + 1, m, S, P, h, h' => by
    unfold linesL
    split
    · split
      · rfl
      · exact linesL_fuel k k' _ _ _ (by omega) (by omega)
    · rfl
def linesX (file : Xs → Nat → Int → Int → Int → Xs) (find : Bs → Nat) (num : Nat) (T X : Bs) (m : Nat) (S : Xs) (P : Fs) : Xs × Fs := linesL file find num T X (X.length + 1) m S P
theorem cutB_app {c : UInt8} : ∀ {x : Bs} (y : Bs), (∀ b ∈ x, b ≠ c) → cutB c (x ++ c :: y) = some (x, y)
  | [], y, _ => by simp [cutB]
  | b :: r, y, h => by
    have := cutB_app (x := r) y (fun b hb => h b (List.mem_cons_of_mem _ hb))
    have hb := h b (List.mem_cons_self ..)
    simp only [List.cons_append]
    unfold cutB
    rw [if_neg hb, this]; rfl
theorem cutB_free {c : UInt8} : ∀ {x : Bs}, (∀ b ∈ x, b ≠ c) → cutB c x = none
  | [], _ => rfl
  | b :: r, h => by
    have := cutB_free (x := r) (fun b hb => h b (List.mem_cons_of_mem _ hb))
    unfold cutB
    rw [if_neg (h b (List.mem_cons_self ..)), this]; rfl
theorem linesX_step {m : Nat} {S : Xs} {P : Fs} {x y : Bs} (he : S.err = 0) (hd : X.drop m = x ++ 10 :: y) (hx : ∀ b ∈ x, b ≠ 10) :
    linesX file find num T X m S P = linesX file find num T X (m + x.length + 1) (lineP file find num T x m true S P).1 (lineP file find num T x m true S P).2 := by
  have hl : (X.drop m).length = x.length + 1 + y.length := by rw [hd]; simp; omega
  rw [List.length_drop] at hl
  unfold linesX
  conv => lhs; unfold linesL
  rw [if_pos ⟨by omega, he⟩, hd, cutB_app y hx]
  exact linesL_fuel _ _ _ _ _ (by omega) (by omega)
theorem linesX_last {m : Nat} {S : Xs} {P : Fs} {x : Bs} (he : S.err = 0) (hd : X.drop m = x) (hx : ∀ b ∈ x, b ≠ 10) (h0 : x ≠ []) :
    linesX file find num T X m S P = lineP file find num T x m false S P := by
  have hl : (X.drop m).length = x.length := by rw [hd]
  rw [List.length_drop] at hl
  have : 0 < x.length := by cases x with
    | nil => exact absurd rfl h0
    | cons _ _ => simp
  unfold linesX linesL
  rw [if_pos ⟨by omega, he⟩, hd, cutB_free hx]
theorem linesX_end {m : Nat} {S : Xs} {P : Fs} (h : X.length ≤ m ∨ S.err ≠ 0) : linesX file find num T X m S P = (S, P) := by
  unfold linesX linesL
  rw [if_neg (by rintro ⟨h1, h2⟩; rcases h with h | h; omega; exact h h2)]
/-! ## a line without ticks -/
theorem trimL_mem {x : Bs} {b : UInt8} (h : b ∈ trimL x) : b ∈ x := (List.dropWhile_suffix _).subset h
theorem lineP_free {m : Nat} {x : Bs} {ended : Bool} {S : Xs} {P : Fs} (hx : ∀ b ∈ x, b ≠ 96) :
    lineP file find num T x m ended S P = if countsP P = true then textP (textP S P (ownPc num T x m)).1 (textP S P (ownPc num T x m)).2 (ownPc num T (if ended = true then [10] else []) (m + x.length)) else (S, P) := by
  unfold lineP
  simp only
  have hno : ¬ (trimL x ≠ [] ∧ (trimL x).getD 0 0 = 96) := by
    rintro ⟨h1, h2⟩
    have : (trimL x).getD 0 0 ∈ trimL x := by cases hq : trimL x with
      | nil => exact absurd hq h1
      | cons a r => simp
    exact hx _ (trimL_mem this) h2
  generalize hd : (if trimL x ≠ [] ∧ (trimL x).getD 0 0 = 96 then dirP file find S P ((trimL x).drop 1) ((num : Int) + 1) (plTo T (m + x.length - (trimL x).length)).1 (plTo T (m + x.length - (trimL x).length)).2 else (false, S, P)) = d
  rw [if_neg hno] at hd
  subst hd
  rw [if_neg (by simp)]
  have hu : usesP num T x m S P = textP S P (ownPc num T x m) := by
    unfold usesP usesL
    split
    · rfl
    · rw [cutB_free hx]
  simp only [hu]
theorem textP_put {S : Xs} {P : Fs} (he : S.err = 0) (p : Pc) (hs : S.size + p.text.length ≤ 65536) : Put S (textP S P p).1 p.text ∧ (textP S P p).2.conds = P.conds :=
  ⟨putP_put he p _ _ _ _ hs, textP_conds _ _ _⟩
/-- one piece at most, as far as it joins -/
def One (S : Xs) (P : Fs) : Prop := (P.joins = false ∧ S.out = []) ∨ (P.joins = true ∧ ∃ q, S.out = [q] ∧ q.fixed = false)
theorem textP_one {S : Xs} {P : Fs} (he : S.err = 0) (p : Pc) (hf : p.fixed = false) (hs : S.size + p.text.length ≤ 65536) (h : One S P) : One (textP S P p).1 (textP S P p).2 := by
  unfold textP putP
  by_cases ht : p.text = []
  · rw [if_pos (.inl ht)]; simp only [if_pos ht]; exact h
  · rw [if_neg (by rintro (h | h); exact ht h; exact h he), if_neg (by omega)]
    simp only [if_neg ht]
    right
    rcases h with ⟨h1, h2⟩ | ⟨h1, q, h2, h3⟩
    · rw [h1, if_neg (by simp)]
      exact ⟨rfl, p, by simp [h2], hf⟩
    · rw [h1, if_pos ⟨rfl, by rw [h2]; simp [lastFree, h3]⟩]
      exact ⟨rfl, { q with text := q.text ++ p.text }, by simp [h2, joinP], h3⟩
/-- lines without ticks come out as they are -/
theorem linesX_free (hT : True) : ∀ (n m : Nat) (a b : Bs) (S : Xs) (P : Fs), a.length ≤ n → X.drop m = a ++ b → (∀ c ∈ a, c ≠ 96) → (b = [] ∨ a = [] ∨ ∃ a', a = a' ++ [10]) → S.err = 0 → P.conds = [] → S.size + a.length ≤ 65536 →
    ∃ S' P', linesX file find num T X m S P = linesX file find num T X (m + a.length) S' P' ∧ Put S S' a ∧ P'.conds = [] ∧ (One S P → One S' P')
  | n, m, [], b, S, P, _, _, _, _, he, hc, _ => ⟨S, P, rfl, Put.zero he, hc, fun h => h⟩
  | 0, m, a :: r, b, S, P, hn, _, _, _, _, _, _ => by simp at hn
  | n + 1, m, a :: r, b, S, P, hn, hd, h96, hb, he, hc, hs => by
    have hcn : countsP P = true := by unfold countsP; rw [hc]; rfl
    cases hq : cutB 10 (a :: r) with
    | none =>
      have hno : ∀ c ∈ a :: r, c ≠ 10 := by
        have key : ∀ l : Bs, cutB 10 l = none → ∀ c ∈ l, c ≠ 10 := by
          intro l
          induction l with
          | nil => intro _ c hc; cases hc
          | cons d l ih =>
            intro h c hc
            unfold cutB at h
            split at h
            · cases h
            · rename_i hd
              rcases List.mem_cons.1 hc with rfl | hc
              · exact hd
              · exact ih (by cases hh : cutB 10 l with
                  | none => rfl
                  | some q => rw [hh] at h; cases h) c hc
        exact key _ hq
      have hb' : b = [] := by
        rcases hb with hb | hb | ⟨a', ha⟩
        · exact hb
        · cases hb
        · exact absurd rfl (hno 10 (by rw [ha]; simp))
      subst hb'
      rw [List.append_nil] at hd
      rw [linesX_last he hd hno (by simp), lineP_free h96, if_pos hcn]
      obtain ⟨p1, c1⟩ := textP_put (P := P) he (ownPc num T (a :: r) m) hs
      obtain ⟨p2, c2⟩ := textP_put (P := (textP S P (ownPc num T (a :: r) m)).2) p1.err (ownPc num T (if false = true then [10] else []) (m + (a :: r).length)) (by rw [p1.size]; exact hs)
      refine ⟨_, _, ?_, p1.trans (t' := []) p2 |> fun h => by rw [List.append_nil] at h; exact h, by rw [c2, c1]; exact hc, fun ho => ?_⟩
      · have hl : (X.drop m).length = (a :: r).length := by rw [hd]
        rw [List.length_drop] at hl
        simp only [List.length_cons] at hl
        rw [linesX_end (.inl (by simp only [List.length_cons]; omega))]
      · exact textP_one p1.err _ rfl (by rw [p1.size]; exact hs) (textP_one he _ rfl hs ho)
    | some xy =>
      obtain ⟨x, y⟩ := xy
      obtain ⟨hxy, _⟩ := cutB_some hq
      have hno : ∀ c ∈ x, c ≠ 10 := by
        have key : ∀ (l x y : Bs), cutB 10 l = some (x, y) → ∀ c ∈ x, c ≠ 10 := by
          intro l
          induction l with
          | nil => intro x y h; cases h
          | cons d l ih =>
            intro x y h c hc
            unfold cutB at h
            split at h
            · injection h with h; injection h with h1 h2; subst h1; cases hc
            · rename_i hd
              cases hh : cutB 10 l with
              | none => rw [hh] at h; cases h
              | some q =>
                rw [hh] at h
                simp only [Option.map_some, Option.some.injEq, Prod.mk.injEq] at h
                obtain ⟨rfl, _⟩ := h
                rcases List.mem_cons.1 hc with rfl | hc
                · exact hd
                · exact ih _ _ hh c hc
        exact key _ _ _ hq
      have hd' : X.drop m = x ++ 10 :: (y ++ b) := by rw [hd, hxy]; simp
      have h96x : ∀ c ∈ x, c ≠ 96 := fun c hc => h96 c (by rw [hxy]; simp [hc])
      have hlen : (a :: r).length = x.length + 1 + y.length := by rw [hxy]; simp; omega
      rw [linesX_step he hd' hno, lineP_free h96x, if_pos hcn]
      obtain ⟨p1, c1⟩ := textP_put (P := P) he (ownPc num T x m) (by show S.size + x.length ≤ _; omega)
      obtain ⟨p2, c2⟩ := textP_put (P := (textP S P (ownPc num T x m)).2) p1.err (ownPc num T (if true = true then [10] else []) (m + x.length)) (by rw [p1.size]; show S.size + x.length + 1 ≤ _; omega)
      have p3 := p1.trans p2
      have hdy : X.drop (m + x.length + 1) = y ++ b := by
        rw [Nat.add_assoc, ← List.drop_drop, hd', ← List.drop_drop, List.drop_left]; rfl
      obtain ⟨S', P', e1, e2, e3, e4⟩ := linesX_free trivial n (m + x.length + 1) y b (textP (textP S P (ownPc num T x m)).1 (textP S P (ownPc num T x m)).2 (ownPc num T (if true = true then [10] else []) (m + x.length))).1 (textP (textP S P (ownPc num T x m)).1 (textP S P (ownPc num T x m)).2 (ownPc num T (if true = true then [10] else []) (m + x.length))).2 (by omega) hdy (fun c hc => h96 c (by rw [hxy]; simp [hc])) (by
          rcases hb with hb | hb | ⟨a', ha⟩
          · exact .inl hb
          · cases hb
          · right
            rcases List.eq_nil_or_concat y with hy | ⟨y', q, hy⟩
            · exact .inl hy
            · right
              subst hy
              have : a' ++ [10] = (x ++ 10 :: y') ++ [q] := by rw [← ha, hxy]; simp
              have := (List.append_inj' this rfl).2
              simp only [List.cons.injEq, and_true] at this
              exact ⟨y', by rw [List.concat_eq_append, ← this]⟩) p2.err (by rw [c2, c1]; exact hc) (by rw [p3.size]; show S.size + (x ++ [10]).length + y.length ≤ _; rw [List.length_append, List.length_singleton]; omega)
      refine ⟨S', P', by rw [e1, hlen, show m + x.length + 1 + y.length = m + (x.length + 1 + y.length) by omega], ?_, e3, fun ho => e4 (textP_one p1.err _ rfl (by rw [p1.size]; show S.size + x.length + 1 ≤ _; omega) (textP_one he _ rfl (by show S.size + x.length ≤ _; omega) ho))⟩
      have := p3.trans e2
      rw [hxy]
      have e : x ++ [10] ++ y = x ++ 10 :: y := by simp
      rw [← e]; exact this
end
end Go.Proofs.YtleipnipohpkoaaDoor
namespace Go.Proofs.YtleipnipohpkoaaDoor
set_option linter.unusedVariables false
open Go.RowKit Go.Maps
/-! # PrePlain, the law -/
/-- plain's loop leaves alone what is ahead of it -/
theorem plainL_take (s : Bs) (q : Nat) : ∀ (k i : Nat) (out X : Bs), q ≤ i → i ≤ s.length → out.length = s.length → plainL s k i out = (X, none) → X.take q = out.take q
  | 0, i, out, X, hq, hi, hl, h => by unfold plainL at h; cases h; rfl
  | k + 1, i, out, X, hq, hi, hl, h => by
    have hb : ∀ n, i + n ≤ s.length → (blankN i n out).take q = out.take q := by
      intro n hn
      apply List.ext_getElem?
      intro j
      by_cases hj : j < q
      · rw [List.getElem?_take_of_lt hj, List.getElem?_take_of_lt hj, blankN_get _ _ _ (by omega), if_neg (by omega)]
      · rw [List.getElem?_eq_none (by rw [List.length_take]; omega), List.getElem?_eq_none (by rw [List.length_take]; omega)]
    unfold plainL at h
    split at h
    · rename_i h1
      split at h
      · have hlen := tw_len s i hi
        rw [plainL_take s q k _ _ X (by omega) hlen (by rw [blankN_len _ _ _ (by omega)]; exact hl) h]
        exact hb _ hlen
      · split at h
        · split at h
          · cases h
          · rename_i j hj
            have := cut2_lt hj
            rw [List.length_drop] at this
            rw [plainL_take s q k _ _ X (by omega) (by omega) (by rw [blankN_len _ _ _ (by omega)]; exact hl) h]
            exact hb _ (by omega)
        · exact plainL_take s q k _ _ X (by omega) (by omega) hl h
    · cases h; rfl
theorem plainL_skip (p t : Bs) (hp : ∀ b ∈ p, b ≠ 47) (out : Bs) : ∀ (n i k : Nat), i + n = p.length → (p ++ t).length < i + (k + n) → plainL (p ++ t) (k + n) i out = plainL (p ++ t) k p.length out
  | 0, i, k, h, _ => by rw [show i = p.length by omega]; rfl
  | n + 1, i, k, h, hk => by
    rw [show k + (n + 1) = (k + n) + 1 by omega]
    conv => lhs; unfold plainL
    have h2 : (p ++ t).getD i 0 ≠ 47 := by
      rw [List.getD, List.getElem?_append_left (by omega), ← List.getD]
      exact hp _ (getD_mem' (by omega))
    by_cases h3 : i + 1 < (p ++ t).length
    · rw [if_pos h3, if_neg (fun h => h2 h.1), if_neg (fun h => h2 h.1)]
      exact plainL_skip p t hp out n (i + 1) k (by omega) (by omega)
    · rw [if_neg h3]
      rw [List.length_append] at h3
      cases k with
      | zero => rfl
      | succ k =>
        unfold plainL
        rw [if_neg (by rw [List.length_append]; omega)]
/-- a head without slashes stays -/
theorem plainP_keep (p t : Bs) (hp : ∀ b ∈ p, b ≠ 47) {X : Bs} (h : plainP (p ++ t) = (X, none)) : ∃ Y, X = p ++ Y := by
  unfold plainP at h
  rw [List.length_append, show p.length + t.length + 1 = (t.length + 1) + p.length by omega, plainL_skip p t hp (p ++ t) p.length 0 (t.length + 1) (by omega) (by rw [List.length_append]; omega)] at h
  have := plainL_take (p ++ t) p.length _ _ _ X (Nat.le_refl _) (by rw [List.length_append]; omega) rfl h
  rw [List.take_left] at this
  exact ⟨X.drop p.length, by conv => lhs; rw [← List.take_append_drop p.length X, this]⟩
/-- a file without ticks and slashes is put as it is -/
theorem file_free {texts : Nat → Bs} {find : Bs → Nat} {d : Nat} {S : Xs} {num : Nat} {text : Bs} (f l c : Int) (hp : plainP (texts num) = (text, none)) (h96 : ∀ b ∈ text, b ≠ 96) (hend : text = [] ∨ True) (he : S.err = 0) (hs : S.size + text.length ≤ 65536) :
    ∃ S', fileP texts find (d + 1) S num f l c = S' ∧ Put S S' text ∧ (text = [] → S'.out = S.out) ∧ (S.out = [] → S'.out = [] ∨ ∃ q, S'.out = [q]) := by
  unfold fileP
  rw [hp]
  simp only
  obtain ⟨S1, hS1⟩ : ∃ S1 : Xs, { S with files := S.files + 1 } = S1 := ⟨_, rfl⟩
  have he1 : S1.err = 0 := by rw [← hS1]; exact he
  have hz1 : S1.size = S.size := by rw [← hS1]
  have ho1 : S1.out = S.out := by rw [← hS1]
  have hd1 : S1.defs = S.defs := by rw [← hS1]
  have ht1 : S1.texts = S.texts := by rw [← hS1]
  have hf1 : S1.files = S.files + 1 := by rw [← hS1]
  rw [hS1]
  clear hS1
  obtain ⟨P0, hP0⟩ : ∃ P0 : Fs, ⟨num - 1, [], false⟩ = P0 := ⟨_, rfl⟩
  have hc0 : P0.conds = [] := by rw [← hP0]
  have hj0 : P0.joins = false := by rw [← hP0]
  rw [hP0]
  clear hP0
  obtain ⟨S', P', e1, e2, e3, e4⟩ := linesX_free (file := fileP texts find d) (find := find) (num := num - 1) (T := texts num) (X := text) trivial text.length 0 text [] S1 P0 (Nat.le_refl _) (by simp) h96 (.inl rfl) he1 hc0 (by omega)
  rw [Nat.zero_add, linesX_end (.inl (Nat.le_refl _))] at e1
  unfold linesX at e1
  rw [e1]
  simp only [e3, List.length_nil, if_true]
  refine ⟨_, rfl, ⟨e2.err, by rw [← hz1]; exact e2.size, by rw [← ho1]; exact e2.out, by rw [← hd1]; exact e2.defs, by rw [← ht1]; exact e2.texts, by show S'.files - 1 = _; rw [e2.files, hf1]; omega⟩, fun h0 => ?_, fun h0 => ?_⟩
  · subst h0
    have hS : linesX (fileP texts find d) find (num - 1) (texts num) [] 0 S1 P0 = (S1, P0) := linesX_end (.inl (Nat.le_refl _))
    unfold linesX at hS
    rw [e1] at hS
    injection hS with hS _
    show S'.out = _
    rw [hS, ho1]
  · rcases e4 (.inl ⟨hj0, ho1.trans h0⟩) with ⟨_, h⟩ | ⟨_, q, h, _⟩
    · exact .inl h
    · exact .inr ⟨q, h⟩
/-- a text without ticks and slashes is itself -/
theorem expand_free {texts : Nat → Bs} {find : Bs → Nat} {top text : Bs} (hf : find top = 1) (ht : texts 1 = text) (hs : ∀ b ∈ text, b ≠ 47 ∧ b ≠ 96) (hl : text.length ≤ 65536) :
    ∃ out, expandP texts find top = (out, (0, 0, 0), 0) ∧ (text = [] → out = []) ∧ (text ≠ [] → ∃ q, out = [q] ∧ q.text = text) := by
  have hp : plainP (texts 1) = (text, none) := by rw [ht]; exact plainP_free fun b hb => (hs b hb).1
  unfold expandP
  rw [hf, if_neg (by decide)]
  obtain ⟨S', hS', hout, ho⟩ := file_free (texts := texts) (find := find) (d := 7) (S := x0) (num := 1) (text := text) 0 0 0 hp (fun b hb => (hs b hb).2) (.inr trivial) rfl (by show 0 + text.length ≤ _; omega)
  rw [hS']
  simp only
  rw [if_neg (by rw [hout.err]; simp)]
  have hob : outB S'.out = text := by rw [hout.out]; rfl
  refine ⟨S'.out, rfl, fun h0 => (ho.1 h0).trans rfl, fun h0 => ?_⟩
  rcases ho.2 rfl with h | ⟨q, h⟩
  · rw [h] at hob; exact absurd hob.symm h0
  · refine ⟨q, h, ?_⟩
    rw [h] at hob
    rw [← hob]; simp [outB]
/-! ## files within one another -/
def inclLine (c : UInt8) : Bs := [96, 105, 110, 99, 108, 117, 100, 101, 32, 34, c, 34]
theorem inclLine_line {file : Xs → Nat → Int → Int → Int → Xs} {find : Bs → Nat} {num : Nat} {T : Bs} {c : UInt8} (hc : c = 109 ∨ c = 110 ∨ c = 98) {S : Xs} {P : Fs} {m k : Nat} {ended : Bool} (hP : P.conds = []) (hk : find [c] = k) (hk0 : k ≠ 0) :
    lineP file find num T (inclLine c) m ended S P = textP (file S k ((num : Int) + 1) (plTo T m).1 (plTo T m).2) { P with joins := false } (ownPc num T (if ended = true then [10] else []) (m + 12)) := by
  have e1 : trimL (inclLine c) = inclLine c := by rcases hc with rfl | rfl | rfl <;> decide
  have e2 : name ((inclLine c).drop 1) = wInclude := by rcases hc with rfl | rfl | rfl <;> decide
  have e3 : trim (((inclLine c).drop 1).drop wInclude.length) = [34, c, 34] := by rcases hc with rfl | rfl | rfl <;> decide
  have e4 : (cutB 34 (([34, c, 34] : Bs).drop 1)).map (fun q => q.1.length) = some (([34, c, 34] : Bs).length - 2) := by rcases hc with rfl | rfl | rfl <;> decide
  have e5 : (([34, c, 34] : Bs).take (([34, c, 34] : Bs).length - 1)).drop 1 = [c] := rfl
  have hcn : countsP P = true := by unfold countsP; rw [hP]; rfl
  unfold lineP
  simp only
  rw [e1, show (inclLine c).length = 12 from rfl, if_pos (show inclLine c ≠ [] ∧ (inclLine c).getD 0 0 = 96 from ⟨by unfold inclLine; simp, rfl⟩), show m + 12 - 12 = m by omega]
  have hd : dirP file find S P ((inclLine c).drop 1) ((num : Int) + 1) (plTo T m).1 (plTo T m).2 = (true, file S k ((num : Int) + 1) (plTo T m).1 (plTo T m).2, P) := by
    unfold dirP
    simp only
    rw [e2, e3, if_neg (by decide), if_pos (by decide), hcn, if_pos rfl]
    unfold defP
    rw [if_pos rfl]
    unfold inclP
    rw [e4, e5, hk, if_neg (by rintro (h | h | h); exact absurd h (by simp); exact h rfl; exact h rfl), if_neg hk0]
  rw [hd]
  simp only [if_true]
  rw [if_pos hcn]
theorem textP_err {S : Xs} {P : Fs} (p : Pc) (h : S.err ≠ 0) : (textP S P p).1 = S := putP_bad h _ _ _ _ _
def headM : Bs := inclLine 110 ++ [10]
def textN : Bs := [120, 10] ++ (inclLine 109 ++ [10])
theorem deep {texts : Nat → Bs} {find : Bs → Nat} {again : Bs} (h1 : texts 1 = headM ++ again) (h2 : texts 2 = textN) (f1 : find [109] = 1) (f2 : find [110] = 2) (hb : (plainP again).2 = none) :
    ∀ (d : Nat) (S : Xs) (f l c : Int), S.err = 0 → S.size + 2 * d ≤ 65536 → (fileP texts find d S 1 f l c).err = 8 ∧ (fileP texts find d S 2 f l c).err = 8
  | 0, S, f, l, c, he, _ => by
    have : ∀ n, (fileP texts find 0 S n f l c).err = 8 := fun n => by
      unfold fileP failP
      rw [if_pos (show ({ S with files := S.files + 1 } : Xs).err = 0 from he)]
    exact ⟨this 1, this 2⟩
  | d + 1, S, f, l, c, he, hs => by
    have hnp : ∀ b ∈ headM, b ≠ 47 := by decide
    constructor
    · have hbad : (plainP (texts 1)).2 = none := by rw [h1, plainP_head headM again hnp, hb]; rfl
      obtain ⟨X, hX⟩ : ∃ X, plainP (texts 1) = (X, none) := ⟨(plainP (texts 1)).1, by rw [← hbad]⟩
      obtain ⟨Y, rfl⟩ := plainP_keep headM again hnp (h1 ▸ hX)
      unfold fileP
      rw [hX]
      simp only
      obtain ⟨S1, hS1⟩ : ∃ S1 : Xs, { S with files := S.files + 1 } = S1 := ⟨_, rfl⟩
      have he1 : S1.err = 0 := by rw [← hS1]; exact he
      have hz1 : S1.size = S.size := by rw [← hS1]
      rw [hS1]
      clear hS1
      have hstep := linesX_step (file := fileP texts find d) (find := find) (num := 1 - 1) (T := texts 1) (X := headM ++ Y) (m := 0) (S := S1) (P := ⟨1 - 1, [], false⟩) (x := inclLine 110) (y := Y) he1 (by unfold headM; simp) (by decide)
      rw [inclLine_line (.inr (.inl rfl)) rfl f2 (by decide)] at hstep
      have ih := (deep h1 h2 f1 f2 hb d S1 (((1 - 1 : Nat) : Int) + 1) (plTo (texts 1) 0).1 (plTo (texts 1) 0).2 he1 (by omega)).2
      obtain ⟨S2, hS2⟩ : ∃ S2, fileP texts find d S1 2 (((1 - 1 : Nat) : Int) + 1) (plTo (texts 1) 0).1 (plTo (texts 1) 0).2 = S2 := ⟨_, rfl⟩
      rw [hS2] at hstep ih
      have ihe : S2.err ≠ 0 := by rw [ih]; decide
      have hstep := hstep.trans (linesX_end (.inr (by rw [textP_err _ ihe]; exact ihe)))
      rw [textP_err _ ihe] at hstep
      unfold linesX at hstep
      rw [hstep]
      simp only [textP_conds, List.length_nil, if_true]
      exact ih
    · have hX : plainP (texts 2) = (textN, none) := by rw [h2]; exact plainP_free (by decide)
      unfold fileP
      rw [hX]
      simp only
      obtain ⟨S0, hS0⟩ : ∃ S0 : Xs, { S with files := S.files + 1 } = S0 := ⟨_, rfl⟩
      have he0 : S0.err = 0 := by rw [← hS0]; exact he
      have hz0 : S0.size = S.size := by rw [← hS0]
      rw [hS0]
      clear hS0
      have hstep := linesX_step (file := fileP texts find d) (find := find) (num := 2 - 1) (T := texts 2) (X := textN) (m := 0) (S := S0) (P := ⟨2 - 1, [], false⟩) (x := [120]) (y := inclLine 109 ++ [10]) he0 rfl (by decide)
      have hc : countsP ⟨2 - 1, [], false⟩ = true := rfl
      rw [lineP_free (by decide), if_pos hc] at hstep
      obtain ⟨p1, c1⟩ := textP_put (S := S0) (P := ⟨2 - 1, [], false⟩) he0 (ownPc (2 - 1) (texts 2) [120] 0) (by show S0.size + 1 ≤ _; omega)
      obtain ⟨S1, hS1⟩ : ∃ S1, textP S0 ⟨2 - 1, [], false⟩ (ownPc (2 - 1) (texts 2) [120] 0) = S1 := ⟨_, rfl⟩
      rw [hS1] at hstep p1 c1
      have hz1 : S1.1.size = S.size + 1 := by rw [p1.size, hz0]; rfl
      obtain ⟨p2, c2⟩ := textP_put (S := S1.1) (P := S1.2) p1.err (ownPc (2 - 1) (texts 2) (if true = true then [10] else []) (0 + ([120] : Bs).length)) (by rw [hz1]; show S.size + 1 + 1 ≤ _; omega)
      obtain ⟨S2, hS2⟩ : ∃ S2, textP S1.1 S1.2 (ownPc (2 - 1) (texts 2) (if true = true then [10] else []) (0 + ([120] : Bs).length)) = S2 := ⟨_, rfl⟩
      rw [hS2] at hstep p2 c2
      have hz : S2.1.size = S.size + 2 := by rw [p2.size, hz1]; rfl
      have hstep2 := linesX_step (file := fileP texts find d) (find := find) (num := 2 - 1) (T := texts 2) (X := textN) (m := 0 + ([120] : Bs).length + 1) (S := S2.1) (P := S2.2) (x := inclLine 109) (y := []) p2.err rfl (by decide)
      rw [inclLine_line (.inl rfl) (c2.trans c1) f1 (by decide)] at hstep2
      have hall := hstep.trans hstep2
      clear hstep hstep2
      have ih := (deep h1 h2 f1 f2 hb d S2.1 (((2 - 1 : Nat) : Int) + 1) (plTo (texts 2) (0 + ([120] : Bs).length + 1)).1 (plTo (texts 2) (0 + ([120] : Bs).length + 1)).2 p2.err (by rw [hz]; omega)).1
      obtain ⟨S3, hS3⟩ : ∃ S3, fileP texts find d S2.1 1 (((2 - 1 : Nat) : Int) + 1) (plTo (texts 2) (0 + ([120] : Bs).length + 1)).1 (plTo (texts 2) (0 + ([120] : Bs).length + 1)).2 = S3 := ⟨_, rfl⟩
      rw [hS3] at hall ih
      have ihe : S3.err ≠ 0 := by rw [ih]; decide
      have hall := hall.trans (linesX_end (.inr (by rw [textP_err _ ihe]; exact ihe)))
      rw [textP_err _ ihe] at hall
      unfold linesX at hall
      rw [hall]
      simp only [textP_conds, c2, c1, List.length_nil, if_true]
      exact ih
theorem expand_deep {texts : Nat → Bs} {find : Bs → Nat} {again : Bs} (h1 : texts 1 = headM ++ again) (h2 : texts 2 = textN) (f1 : find [109] = 1) (f2 : find [110] = 2) (hb : (plainP again).2 = none) :
    (expandP texts find [109]).2.2 = 8 := by
  have := (deep h1 h2 f1 f2 hb 8 x0 0 0 0 rfl (by show 0 + 16 ≤ _; omega)).1
  unfold expandP
  rw [f1, if_neg (by decide)]
  simp only
  rw [if_pos (by rw [this]; decide)]
  exact this
theorem expand_open {texts : Nat → Bs} {find : Bs → Nat} {again : Bs} (h1 : texts 1 = headM ++ again) (f1 : find [109] = 1) {b : Nat} (hb : (plainP again).2 = some b) :
    (expandP texts find [109]).2.2 = 6 := by
  have hbad : (plainP (texts 1)).2 = some (headM.length + b) := by rw [h1, plainP_head headM again (by decide), hb]; rfl
  obtain ⟨X, hX⟩ : ∃ X, plainP (texts 1) = (X, some (headM.length + b)) := ⟨(plainP (texts 1)).1, by rw [← hbad]⟩
  have : (fileP texts find 8 x0 1 0 0 0).err = 6 := by
    unfold fileP
    rw [hX]
    rfl
  unfold expandP
  rw [f1, if_neg (by decide)]
  simp only
  rw [if_pos (by rw [this]; decide)]
  exact this
end Go.Proofs.YtleipnipohpkoaaDoor
namespace Go.Proofs.YtleipnipohpkoaaDoor
set_option linter.unusedVariables false
open Go.RowKit Go.Maps
/-! # PreFiles, the law -/
theorem expand_put {texts : Nat → Bs} {find : Bs → Nat} {top t : Bs} {S' : Xs} (hf : find top = 1) (h : fileP texts find 8 x0 1 0 0 0 = S') (hp : Put x0 S' t) : expandP texts find top = (S'.out, (0, 0, 0), 0) ∧ outB S'.out = t := by
  unfold expandP
  rw [hf, if_neg (by decide), h]
  simp only
  rw [if_neg (by rw [hp.err]; simp)]
  exact ⟨rfl, by rw [hp.out]; rfl⟩
theorem Put.bump {S S' : Xs} {t : Bs} (h : Put { S with files := S.files + 1 } S' t) : Put S { S' with files := S'.files - 1 } t :=
  ⟨h.err, h.size, h.out, h.defs, h.texts, by show S'.files - 1 = _; rw [h.files]; show S.files + 1 - 1 = _; omega⟩
theorem files_want {texts : Nat → Bs} {find : Bs → Nat} {top t : Bs} (hf : find top = 1) (h1 : texts 1 = t) (hs : ∀ b ∈ t, b ≠ 47 ∧ b ≠ 96) (hl : t.length ≤ 65536) :
    ∃ out, expandP texts find top = (out, (0, 0, 0), 0) ∧ outB out = t := by
  obtain ⟨S', hS', hp, _⟩ := file_free (texts := texts) (find := find) (d := 7) (S := x0) (num := 1) (text := t) 0 0 0 (by rw [h1]; exact plainP_free fun b hb => (hs b hb).1) (fun b hb => (hs b hb).2) (.inr trivial) rfl (by show 0 + t.length ≤ _; omega)
  exact ⟨S'.out, expand_put hf hS' hp⟩
theorem files_got {texts : Nat → Bs} {find : Bs → Nat} {top t0 t1 t2 : Bs} (hf : find top = 1) (hb : find [98] = 2) (h1 : texts 1 = t0 ++ (inclLine 98 ++ 10 :: t2)) (h2 : texts 2 = t1)
    (hs0 : ∀ b ∈ t0, b ≠ 47 ∧ b ≠ 96) (hs1 : ∀ b ∈ t1, b ≠ 47 ∧ b ≠ 96) (hs2 : ∀ b ∈ t2, b ≠ 47 ∧ b ≠ 96) (he0 : ∃ u, t0 = u ++ [10]) (he2 : ∃ u, t2 = u ++ [10]) (hl : t0.length + t1.length + t2.length ≤ 65000) :
    ∃ out, expandP texts find top = (out, (0, 0, 0), 0) ∧ outB out = t0 ++ (t1 ++ (10 :: t2)) := by
  obtain ⟨X, hX⟩ : ∃ X, t0 ++ (inclLine 98 ++ 10 :: t2) = X := ⟨_, rfl⟩
  have hp : plainP (texts 1) = (X, none) := by
    rw [h1, hX]
    refine plainP_free ?_
    rw [← hX]
    intro b hb'
    rcases List.mem_append.1 hb' with h | h
    · exact (hs0 b h).1
    · rcases List.mem_append.1 h with h | h
      · exact (show ∀ b ∈ inclLine 98, b ≠ 47 by decide) b h
      · rcases List.mem_cons.1 h with rfl | h
        · decide
        · exact (hs2 b h).1
  have key : ∃ S', fileP texts find 8 x0 1 0 0 0 = S' ∧ Put x0 S' (t0 ++ (t1 ++ (10 :: t2))) := by
    unfold fileP
    rw [hp]
    simp only
    obtain ⟨S1, hS1⟩ : ∃ S1 : Xs, { x0 with files := x0.files + 1 } = S1 := ⟨_, rfl⟩
    have hee1 : S1.err = 0 := by rw [← hS1]; rfl
    have hz1 : S1.size = 0 := by rw [← hS1]; rfl
    have hbump : ∀ S' t, Put S1 S' t → Put x0 { S' with files := S'.files - 1 } t := fun S' t h => Put.bump (by rw [hS1]; exact h)
    rw [hS1]
    clear hS1
    obtain ⟨P0, hP0⟩ : ∃ P0 : Fs, ⟨1 - 1, [], false⟩ = P0 := ⟨_, rfl⟩
    have hc0 : P0.conds = [] := by rw [← hP0]
    rw [hP0]
    clear hP0
    obtain ⟨S2, P2, e1, p2, c2, _⟩ := linesX_free (file := fileP texts find 7) (find := find) (num := 1 - 1) (T := texts 1) (X := X) trivial t0.length 0 t0 (inclLine 98 ++ 10 :: t2) S1 P0 (Nat.le_refl _) (by rw [← hX]; rfl) (fun c hc => (hs0 c hc).2) (.inr (.inr he0)) hee1 hc0 (by omega)
    rw [Nat.zero_add] at e1
    have hd : X.drop t0.length = inclLine 98 ++ 10 :: t2 := by rw [← hX, List.drop_left]
    have e2 := linesX_step (file := fileP texts find 7) (find := find) (num := 1 - 1) (T := texts 1) (X := X) (m := t0.length) (S := S2) (P := P2) p2.err hd (by decide)
    rw [inclLine_line (.inr (.inr rfl)) c2 hb (by decide)] at e2
    have hz2 : S2.size = t0.length := by rw [p2.size, hz1]; omega
    obtain ⟨S3, hS3, p3, _⟩ := file_free (texts := texts) (find := find) (d := 6) (S := S2) (num := 2) (text := t1) (((1 - 1 : Nat) : Int) + 1) (plTo (texts 1) t0.length).1 (plTo (texts 1) t0.length).2 (by rw [h2]; exact plainP_free fun b hb => (hs1 b hb).1) (fun b hb => (hs1 b hb).2) (.inr trivial) p2.err (by omega)
    rw [hS3] at e2
    have hz3 : S3.size = t0.length + t1.length := by rw [p3.size, hz2]
    obtain ⟨p4, c4⟩ := textP_put (S := S3) (P := { P2 with joins := false }) p3.err (ownPc (1 - 1) (texts 1) (if true = true then [10] else []) (t0.length + 12)) (by rw [hz3]; show _ + 1 ≤ _; omega)
    obtain ⟨S4, hS4⟩ : ∃ S4, textP S3 { P2 with joins := false } (ownPc (1 - 1) (texts 1) (if true = true then [10] else []) (t0.length + 12)) = S4 := ⟨_, rfl⟩
    rw [hS4] at e2 p4 c4
    have hz4 : S4.1.size = t0.length + t1.length + 1 := by rw [p4.size, hz3]; rfl
    have hd2 : X.drop (t0.length + (inclLine 98).length + 1) = t2 ++ [] := by
      rw [List.append_nil, ← hX, Nat.add_assoc, ← List.drop_drop, List.drop_left]
      rfl
    obtain ⟨S5, P5, e5, p5, c5, _⟩ := linesX_free (file := fileP texts find 7) (find := find) (num := 1 - 1) (T := texts 1) (X := X) trivial t2.length (t0.length + (inclLine 98).length + 1) t2 [] S4.1 S4.2 (Nat.le_refl _) hd2 (fun c hc => (hs2 c hc).2) (.inl rfl) p4.err (c4.trans c2) (by omega)
    have e6 := e1.trans (e2.trans e5)
    rw [linesX_end (.inl (by rw [← hX]; simp only [List.length_append, List.length_cons]; omega : X.length ≤ t0.length + (inclLine 98).length + 1 + t2.length))] at e6
    unfold linesX at e6
    rw [e6]
    simp only [c5, List.length_nil, if_true]
    refine ⟨_, rfl, hbump S5 _ ?_⟩
    have := (p2.trans (p3.trans (p4.trans p5)))
    exact this
  obtain ⟨S', hS', hp'⟩ := key
  exact ⟨S'.out, expand_put hf hS' hp'⟩
end Go.Proofs.YtleipnipohpkoaaDoor
namespace Go.Proofs.YtleipnipohpkoaaDoor
set_option linter.unusedVariables false
open Go.RowKit Go.Maps
/-! # PreDefines, the law -/
def noNl (l : Bs) : Bs := l.filter (· ≠ 10)
theorem noNl_app (a b : Bs) : noNl (a ++ b) = noNl a ++ noNl b := List.filter_append ..
theorem noNl_free {a : Bs} (h : ∀ b ∈ a, b ≠ 10) : noNl a = a := List.filter_eq_self.2 fun b hb => by simpa using h b hb
def flat (ls : List Bs) : Bs := ls.flatMap (· ++ [10])
theorem flat_cons (x : Bs) (ls : List Bs) : flat (x :: ls) = x ++ 10 :: flat ls := by simp [flat]
section
variable {file : Xs → Nat → Int → Int → Int → Xs} {find : Bs → Nat} {num : Nat} {T X : Bs} {R0 : Xs × Fs}
/-- the lines ls are what is left, and what comes of them is R0 -/
def At (file : Xs → Nat → Int → Int → Int → Xs) (find : Bs → Nat) (num : Nat) (T X : Bs) (R0 : Xs × Fs) (ls : List Bs) (S : Xs) (P : Fs) : Prop := ∃ m, X.drop m = flat ls ∧ linesX file find num T X m S P = R0
theorem At.step {x : Bs} {ls : List Bs} {S : Xs} {P : Fs} (h : At file find num T X R0 (x :: ls) S P) (he : S.err = 0) (hx : ∀ b ∈ x, b ≠ 10) : ∃ m, At file find num T X R0 ls (lineP file find num T x m true S P).1 (lineP file find num T x m true S P).2 := by
  obtain ⟨m, h1, h2⟩ := h
  rw [flat_cons] at h1
  refine ⟨m, m + x.length + 1, ?_, ?_⟩
  · rw [Nat.add_assoc, ← List.drop_drop, h1, ← List.drop_drop, List.drop_left]; rfl
  · rw [← h2]; exact (linesX_step he h1 hx).symm
theorem At.done {S : Xs} {P : Fs} (h : At file find num T X R0 [] S P) : R0 = (S, P) := by
  obtain ⟨m, h1, h2⟩ := h
  have hl : (X.drop m).length = 0 := by rw [h1]; rfl
  rw [List.length_drop] at hl
  rw [← h2]; exact linesX_end (.inl (by omega))
/-- a state that differs by newlines alone -/
structure Nl (S S' : Xs) : Prop where
  err : S'.err = 0
  size : S'.size ≤ S.size + 1
  out : noNl (outB S'.out) = noNl (outB S.out)
  defs : S'.defs = S.defs
  texts : S'.texts = S.texts
  files : S'.files = S.files
theorem Nl.self {S : Xs} (h : S.err = 0) : Nl S S := ⟨h, Nat.le_succ _, rfl, rfl, rfl, rfl⟩
theorem Put.nl {S S' : Xs} (h : Put S S' [10]) : Nl S S' := ⟨h.err, Nat.le_of_eq h.size, by rw [h.out, noNl_app]; exact List.append_nil _, h.defs, h.texts, h.files⟩
theorem At.dir {x : Bs} {ls : List Bs} {S S1 : Xs} {P : Fs} {C : List Cd → Prop} (h : At file find num T X R0 (x :: ls) S P) (he : S.err = 0) (hx : ∀ b ∈ x, b ≠ 10) (ht : trimL x = x ∧ x ≠ [] ∧ x.getD 0 0 = 96)
    (hd : ∀ f l c, ∃ P1, dirP file find S P (x.drop 1) f l c = (true, S1, P1) ∧ C P1.conds) (he1 : S1.err = 0) (hs : S1.size + 1 ≤ 65536) : ∃ S' P', At file find num T X R0 ls S' P' ∧ C P'.conds ∧ Nl S1 S' := by
  obtain ⟨m, hm⟩ := h.step he hx
  obtain ⟨P1, hd1, hC⟩ := hd ((num : Int) + 1) (plTo T (m + x.length - (trimL x).length)).1 (plTo T (m + x.length - (trimL x).length)).2
  have hl : lineP file find num T x m true S P = if countsP P1 = true then textP S1 { P1 with joins := false } (ownPc num T [10] (m + x.length)) else (S1, { P1 with joins := false }) := by
    unfold lineP
    simp only
    rw [if_pos (show trimL x ≠ [] ∧ (trimL x).getD 0 0 = 96 by rw [ht.1]; exact ht.2), show (trimL x).drop 1 = x.drop 1 by rw [ht.1], hd1]
    rfl
  rw [hl] at hm
  by_cases hc : countsP P1 = true
  · rw [if_pos hc] at hm
    obtain ⟨p1, c1⟩ := textP_put (S := S1) (P := { P1 with joins := false }) he1 (ownPc num T [10] (m + x.length)) hs
    exact ⟨_, _, hm, by rw [c1]; exact hC, p1.nl⟩
  · rw [if_neg hc] at hm
    exact ⟨_, _, hm, hC, Nl.self he1⟩
/-! ## the directives -/
def lIfdef : Bs := [96, 105, 102, 100, 101, 102, 32, 78]
def lIfndef : Bs := [96, 105, 102, 110, 100, 101, 102, 32, 77]
def lElse : Bs := [96, 101, 108, 115, 101]
def lEndif : Bs := [96, 101, 110, 100, 105, 102]
def lUndef : Bs := [96, 117, 110, 100, 101, 102, 32, 77]
def lNo : Bs := [96, 110, 111]
def lDefN : Bs := [96, 100, 101, 102, 105, 110, 101, 32, 78]
def lDefX (v : Bs) : Bs := [96, 100, 101, 102, 105, 110, 101, 32, 88, 32] ++ v
theorem at_ifdef {ls : List Bs} {S : Xs} {P : Fs} (h : At file find num T X R0 (lIfdef :: ls) S P) (he : S.err = 0) (hs : S.size + 1 ≤ 65536) (hc : P.conds = []) :
    ∃ S' P', At file find num T X R0 ls S' P' ∧ (∃ q : Cd, P'.conds = [q] ∧ q.counts = decide (0 < S.defs [78]) ∧ q.ahead = true ∧ q.turned = false) ∧ Nl S S' := by
  refine h.dir (C := fun l => ∃ q : Cd, l = [q] ∧ q.counts = decide (0 < S.defs [78]) ∧ q.ahead = true ∧ q.turned = false) he (by decide) ⟨by decide, by decide, rfl⟩ (fun f l c => ?_) he hs
  have e1 : name (lIfdef.drop 1) = wIfdef := by decide
  have e2 : trim ((lIfdef.drop 1).drop wIfdef.length) = [78] := by decide
  have e3 : (decide ((lIfdef.drop 1).drop wIfdef.length = []) || isBlank (((lIfdef.drop 1).drop wIfdef.length).getD 0 0)) = true := by decide
  have hcn : countsP P = true := by unfold countsP; rw [hc]; rfl
  refine ⟨_, by
    unfold dirP
    simp only
    rw [e1, e2, e3, if_pos (.inl rfl)]
    unfold condP
    rw [if_pos (.inl rfl), if_neg (by decide)], ?_⟩
  refine ⟨_, by rw [hc]; rfl, ?_, hcn, rfl⟩
  show (countsP P && _) = _
  rw [hcn]
  simp
theorem at_ifndef {ls : List Bs} {S : Xs} {P : Fs} (h : At file find num T X R0 (lIfndef :: ls) S P) (he : S.err = 0) (hs : S.size + 1 ≤ 65536) (hc : P.conds = []) (hm : S.defs [77] = 0) :
    ∃ S' P', At file find num T X R0 ls S' P' ∧ (∃ q : Cd, P'.conds = [q] ∧ q.counts = true ∧ q.ahead = true ∧ q.turned = false) ∧ Nl S S' := by
  refine h.dir (C := fun l => ∃ q : Cd, l = [q] ∧ q.counts = true ∧ q.ahead = true ∧ q.turned = false) he (by decide) ⟨by decide, by decide, rfl⟩ (fun f l c => ?_) he hs
  have e1 : name (lIfndef.drop 1) = wIfndef := by decide
  have e2 : trim ((lIfndef.drop 1).drop wIfndef.length) = [77] := by decide
  have e3 : (decide ((lIfndef.drop 1).drop wIfndef.length = []) || isBlank (((lIfndef.drop 1).drop wIfndef.length).getD 0 0)) = true := by decide
  have hcn : countsP P = true := by unfold countsP; rw [hc]; rfl
  refine ⟨_, by
    unfold dirP
    simp only
    rw [e1, e2, e3, if_pos (.inr (.inl rfl))]
    unfold condP
    rw [if_pos (.inr rfl), if_neg (by decide)], ?_⟩
  refine ⟨_, by rw [hc]; rfl, ?_, hcn, rfl⟩
  show (countsP P && _) = _
  rw [hcn, hm]
  rfl
theorem at_else {ls : List Bs} {S : Xs} {P : Fs} {q : Cd} {b : Bool} (h : At file find num T X R0 (lElse :: ls) S P) (he : S.err = 0) (hs : S.size + 1 ≤ 65536) (hc : P.conds = [q]) (h1 : q.counts = b) (h2 : q.ahead = true) (h3 : q.turned = false) :
    ∃ S' P', At file find num T X R0 ls S' P' ∧ (∃ q : Cd, P'.conds = [q] ∧ q.counts = !b ∧ q.ahead = true ∧ q.turned = true) ∧ Nl S S' := by
  refine h.dir (C := fun l => ∃ q : Cd, l = [q] ∧ q.counts = !b ∧ q.ahead = true ∧ q.turned = true) he (by decide) ⟨by decide, by decide, rfl⟩ (fun f l c => ?_) he hs
  have e1 : name (lElse.drop 1) = wElse := by decide
  have e2 : trim ((lElse.drop 1).drop wElse.length) = [] := by decide
  refine ⟨_, by
    unfold dirP
    simp only
    rw [e1, e2, if_pos (.inr (.inr (.inl rfl)))]
    unfold condP
    rw [if_neg (by decide), if_pos rfl, if_neg (by rw [hc]; rintro (h | h | h); exact h rfl; cases h; rw [show ([q].getD ([q].length - 1) default) = q from rfl, h3] at h; cases h)], ?_⟩
  refine ⟨{ q with counts := q.ahead && !q.counts, turned := true }, by rw [hc]; rfl, ?_, h2, rfl⟩
  show (q.ahead && !q.counts) = _
  rw [h1, h2]; rfl
theorem at_endif {ls : List Bs} {S : Xs} {P : Fs} {q : Cd} (h : At file find num T X R0 (lEndif :: ls) S P) (he : S.err = 0) (hs : S.size + 1 ≤ 65536) (hc : P.conds = [q]) :
    ∃ S' P', At file find num T X R0 ls S' P' ∧ P'.conds = [] ∧ Nl S S' := by
  refine h.dir (C := fun l => l = []) he (by decide) ⟨by decide, by decide, rfl⟩ (fun f l c => ?_) he hs
  have e1 : name (lEndif.drop 1) = wEndif := by decide
  have e2 : trim ((lEndif.drop 1).drop wEndif.length) = [] := by decide
  refine ⟨_, by
    unfold dirP
    simp only
    rw [e1, e2, if_pos (.inr (.inr (.inr rfl)))]
    unfold condP
    rw [if_neg (by decide), if_neg (by decide), if_neg (by rw [hc]; rintro (h | h); exact h rfl; cases h)], ?_⟩
  show P.conds.take (P.conds.length - 1) = []
  rw [hc]; rfl
theorem at_no {ls : List Bs} {S : Xs} {P : Fs} {q : Cd} (h : At file find num T X R0 (lNo :: ls) S P) (he : S.err = 0) (hs : S.size + 1 ≤ 65536) (hc : P.conds = [q]) (h1 : q.counts = false) :
    ∃ S' P', At file find num T X R0 ls S' P' ∧ P'.conds = [q] ∧ Nl S S' := by
  refine h.dir (C := fun l => l = [q]) he (by decide) ⟨by decide, by decide, rfl⟩ (fun f l c => ?_) he hs
  have e1 : name (lNo.drop 1) = [110, 111] := by decide
  have hcn : countsP P = false := by unfold countsP; rw [hc]; show (decide (1 = 0) || q.counts) = false; rw [h1]; rfl
  refine ⟨_, by
    unfold dirP
    simp only
    rw [e1, if_neg (by decide), if_neg (by decide), hcn]
    rfl, hc⟩
theorem at_undef {ls : List Bs} {S : Xs} {P : Fs} (h : At file find num T X R0 (lUndef :: ls) S P) (he : S.err = 0) (hs : S.size + 1 ≤ 65536) (hc : P.conds = []) :
    ∃ S' P', At file find num T X R0 ls S' P' ∧ P'.conds = [] ∧ Nl (setDef S [77] 0) S' := by
  refine h.dir (C := fun l => l = []) (S1 := setDef S [77] 0) he (by decide) ⟨by decide, by decide, rfl⟩ (fun f l c => ?_) he hs
  have e1 : name (lUndef.drop 1) = wUndef := by decide
  have e2 : trim ((lUndef.drop 1).drop wUndef.length) = [77] := by decide
  have e3 : (decide ((lUndef.drop 1).drop wUndef.length = []) || isBlank (((lUndef.drop 1).drop wUndef.length).getD 0 0)) = true := by decide
  have e4 : name [77] = [77] := by decide
  have hcn : countsP P = true := by unfold countsP; rw [hc]; rfl
  refine ⟨_, by
    unfold dirP
    simp only
    rw [e1, e2, e3, if_neg (by decide), if_pos (.inr (.inl rfl)), hcn, if_pos rfl]
    unfold defP
    rw [e4, if_neg (by decide), if_neg (by decide), if_pos rfl], hc⟩
/-- a line that defines a name -/
structure DefLine (x nm v : Bs) : Prop where
  nl : ∀ b ∈ x, b ≠ 10
  tr : trimL x = x ∧ x ≠ [] ∧ x.getD 0 0 = 96
  w : name (x.drop 1) = wDefine
  ap : (decide ((x.drop 1).drop wDefine.length = []) || isBlank (((x.drop 1).drop wDefine.length).getD 0 0)) = true
  n : name (trim ((x.drop 1).drop wDefine.length)) = nm
  ne : nm ≠ []
  bl : (trim ((x.drop 1).drop wDefine.length)).drop nm.length = [] ∨ isBlank (((trim ((x.drop 1).drop wDefine.length)).drop nm.length).getD 0 0) = true
  v : trim ((trim ((x.drop 1).drop wDefine.length)).drop nm.length) = v
def addDef (S : Xs) (nm v : Bs) : Xs := setDef { S with texts := S.texts ++ [v] } nm (S.texts.length + 1)
theorem at_define {x nm v : Bs} (D : DefLine x nm v) {ls : List Bs} {S : Xs} {P : Fs} {q : Cd} (h : At file find num T X R0 (x :: ls) S P) (he : S.err = 0) (hs : S.size + 1 ≤ 65536) (hc : P.conds = [q]) :
    ∃ S' P', At file find num T X R0 ls S' P' ∧ P'.conds = [q] ∧ Nl (if q.counts = true then addDef S nm v else S) S' := by
  have hcn : countsP P = q.counts := by unfold countsP; rw [hc]; show (decide (1 = 0) || q.counts) = _; rw [decide_eq_false (by decide), Bool.false_or]
  refine h.dir (C := fun l => l = [q]) (S1 := if q.counts = true then addDef S nm v else S) he D.nl D.tr (fun f l c => ?_) (by split <;> exact he) (by split <;> exact hs)
  refine ⟨P, ?_, hc⟩
  unfold dirP
  simp only
  rw [D.w, D.ap, if_neg (by decide), if_pos (.inl rfl), hcn]
  by_cases hq : q.counts = true
  · rw [if_pos hq, if_pos hq]
    unfold defP
    rw [if_neg (by decide), D.n, if_neg (by
      rintro (h | h | h)
      · cases h
      · exact D.ne h
      · rcases D.bl with hb | hb
        · exact h.1 hb
        · rcases h.2 with h | h
          · exact absurd h (by decide)
          · rw [hb] at h; cases h), if_neg (by decide), D.v]
    rfl
  · rw [if_neg hq, if_neg hq]
/-! ## a line with a use -/
theorem at_use {a z : UInt8} (ha : a ≠ 10 ∧ a ≠ 96 ∧ isBlank a = false) (hz : z ≠ 10 ∧ z ≠ 96 ∧ letterP z.toNat false = false) {body : Bs} (hbody : ∀ b ∈ body, b ≠ 96 ∧ b ≠ 10) {ls : List Bs} {S : Xs} {P : Fs} (h : At file find num T X R0 ([a, 96, 88, z] :: ls) S P) (he : S.err = 0) (hs : S.size + body.length + 3 ≤ 65536) (hcn : countsP P = true)
    (hd : S.defs [88] ≠ 0) (hb : S.texts.getD (S.defs [88] - 1) [] = body) :
    ∃ S' P', At file find num T X R0 ls S' P' ∧ P'.conds = P.conds ∧ S'.err = 0 ∧ S'.size ≤ S.size + body.length + 3 ∧ noNl (outB S'.out) = noNl (outB S.out) ++ ([a] ++ body ++ [z]) ∧ S'.defs = S.defs ∧ S'.texts = S.texts := by
  obtain ⟨m, hm⟩ := h.step he (by
    intro b hb
    simp only [List.mem_cons, List.not_mem_nil, or_false] at hb
    rcases hb with rfl | rfl | rfl | rfl
    · exact ha.1
    · decide
    · decide
    · exact hz.1)
  have et : trimL [a, 96, 88, z] = [a, 96, 88, z] := by unfold trimL; simp [List.dropWhile, ha.2.2]
  have ecut : cutB 96 [a, 96, 88, z] = some ([a], [88, z]) := by simp [cutB, ha.2.1]
  have ename : name [88, z] = [88] := by
    have hn : nameN [88, z] = 1 := by
      show (if letterP (88 : UInt8).toNat true = true then 1 + (([z] : Bs).takeWhile (fun c => letterP c.toNat false)).length else 0) = 1
      rw [if_pos (by decide)]
      simp [List.takeWhile, hz.2.2]
    unfold name
    rw [hn]; rfl
  have ecut2 : cutB 96 [z] = none := cutB_free (by intro b hb; rw [List.mem_singleton] at hb; subst hb; exact hz.2.1)
  have hl : lineP file find num T [a, 96, 88, z] m true S P = textP (usesP num T [a, 96, 88, z] m S P).1 (usesP num T [a, 96, 88, z] m S P).2 (ownPc num T [10] (m + 4)) := by
    unfold lineP
    simp only
    rw [et, if_neg (show ¬ ([a, 96, 88, z] ≠ [] ∧ ([a, 96, 88, z] : Bs).getD 0 0 = 96) from fun h => ha.2.1 h.2)]
    simp only [Bool.false_eq_true, if_false]
    have hcq : countsP (false, S, P).2.2 = true := hcn
    rw [if_pos hcn]
    rfl
  rw [hl] at hm
  clear hl
  -- the uses
  obtain ⟨p1, c1⟩ := textP_put (S := S) (P := P) he (ownPc num T [a] m) (by show S.size + 1 ≤ _; omega)
  obtain ⟨S1, hS1⟩ : ∃ S1, textP S P (ownPc num T [a] m) = S1 := ⟨_, rfl⟩
  rw [hS1] at p1 c1
  have hz1 : S1.1.size = S.size + 1 := p1.size
  have hbd : S1.1.texts.getD (S1.1.defs [88] - 1) [] = body := by rw [p1.texts, p1.defs]; exact hb
  have huse : ∀ f l c, Put S1.1 (useP f l c 8 S1.1 [88]) body := by
    intro f l c
    unfold useP
    rw [if_neg (by rw [p1.defs]; exact hd), hbd]
    unfold useL
    rw [if_neg (by rw [p1.err]; simp), cutB_free (fun b hb => (hbody b hb).1)]
    exact putP_put p1.err ⟨body, f, l, c, true⟩ f l c false (by show S1.1.size + body.length ≤ _; omega)
  have hu : usesP num T [a, 96, 88, z] m S P = textP (useP ((num : Int) + 1) (plTo T (m + 1)).1 (plTo T (m + 1)).2 8 S1.1 [88]) { S1.2 with joins := false } (ownPc num T [z] (m + 1 + 1 + 1)) := by
    unfold usesP
    show usesL num T (3 + 1 + 1) _ m S P = _
    rw [usesL, if_neg (by rw [he]; simp), ecut]
    simp only
    rw [ename, if_neg (by simp), hS1]
    show usesL num T (3 + 1) [z] _ _ _ = _
    have := (huse ((num : Int) + 1) (plTo T (m + 1)).1 (plTo T (m + 1)).2).err
    rw [usesL, if_neg (by rw [show ([a] : Bs).length = 1 from rfl, this]; simp), ecut2]
    rfl
  rw [hu] at hm
  clear hu
  have p2 := huse ((num : Int) + 1) (plTo T (m + 1)).1 (plTo T (m + 1)).2
  generalize useP ((num : Int) + 1) (plTo T (m + 1)).1 (plTo T (m + 1)).2 8 S1.1 [88] = S2 at hm p2
  have hz2 : S2.size = S.size + 1 + body.length := by rw [p2.size, hz1]
  obtain ⟨p3, c3⟩ := textP_put (S := S2) (P := { S1.2 with joins := false }) p2.err (ownPc num T [z] (m + 1 + 1 + 1)) (by show S2.size + 1 ≤ _; omega)
  generalize textP S2 { S1.2 with joins := false } (ownPc num T [z] (m + 1 + 1 + 1)) = S3 at hm p3 c3
  have hz3 : S3.1.size = S.size + 1 + body.length + 1 := by rw [p3.size, hz2]; rfl
  obtain ⟨p4, c4⟩ := textP_put (S := S3.1) (P := S3.2) p3.err (ownPc num T [10] (m + 4)) (by show S3.1.size + 1 ≤ _; omega)
  generalize textP S3.1 S3.2 (ownPc num T [10] (m + 4)) = S4 at hm p4 c4
  have p := (p1.trans p2).trans (p3.trans p4)
  refine ⟨S4.1, S4.2, hm, by rw [c4, c3]; exact c1, p.err, ?_, ?_, p.defs, p.texts⟩
  · rw [p4.size, hz3]; show _ + 1 ≤ _; omega
  · rw [p.out, noNl_app]
    congr 1
    show noNl (([a] ++ body) ++ ([z] ++ [10])) = _
    rw [← List.append_assoc, noNl_app, noNl_free (a := [a] ++ body ++ [z])]
    · exact List.append_nil _
    · intro b hb
      simp only [List.mem_append, List.mem_singleton] at hb
      rcases hb with (rfl | hb) | rfl
      · exact ha.1
      · exact (hbody b hb).2
      · exact hz.1
/-! ## a round of the law's text -/
def useLine (on : Bool) : List Bs := if on = true then [[60, 96, 88, 62]] else []
def block (b : UInt8) (on : Bool) : List Bs := [lIfdef, lDefX [b], lElse, lDefN, lDefX [b, b], lEndif] ++ (useLine on ++ [lUndef, lIfndef, [40, 96, 88, 41], lElse, lNo, lEndif])
def low (k : Nat) : UInt8 := UInt8.ofNat (97 + k)
theorem def_n : DefLine lDefN [78] [] := by constructor <;> decide
theorem def_one : ∀ k : Fin 26, DefLine (lDefX [low k.val]) [88] [low k.val] := by
  intro k
  constructor
  · revert k; decide
  · revert k; decide
  · revert k; decide
  · revert k; decide
  · revert k; decide
  · revert k; decide
  · revert k; decide
  · revert k; decide
theorem def_two : ∀ k : Fin 26, DefLine (lDefX [low k.val, low k.val]) [88] [low k.val, low k.val] := by
  intro k
  constructor
  · revert k; decide
  · revert k; decide
  · revert k; decide
  · revert k; decide
  · revert k; decide
  · revert k; decide
  · revert k; decide
  · revert k; decide
theorem low_ok : ∀ k : Fin 26, low k.val ≠ 96 ∧ low k.val ≠ 10 := by decide
/-- between the rounds -/
structure Rd (first : Bool) (S : Xs) (P : Fs) : Prop where
  err : S.err = 0
  conds : P.conds = []
  n : first = true ↔ S.defs [78] = 0
  m : S.defs [77] = 0
def bodyOf (first : Bool) (b : UInt8) : Bs := if first = true then [b, b] else [b]
def wantOf (first : Bool) (b : UInt8) (on : Bool) : Bs := (if on = true then [60] ++ bodyOf first b ++ [62] else []) ++ ([40] ++ bodyOf first b ++ [41])
theorem at_block (k : Fin 26) (on first : Bool) {ls : List Bs} {S : Xs} {P : Fs} (h : At file find num T X R0 (block (low k.val) on ++ ls) S P) (hr : Rd first S P) (hs : S.size + 100 ≤ 65536) :
    ∃ S' P', At file find num T X R0 ls S' P' ∧ Rd false S' P' ∧ S'.size ≤ S.size + 100 ∧ noNl (outB S'.out) = noNl (outB S.out) ++ wantOf first (low k.val) on := by
  obtain ⟨S1, P1, h1, ⟨q1, c1, f1, g1, t1⟩, n1⟩ := at_ifdef h hr.err (by omega) hr.conds
  have z1 := n1.size
  have hq1 : q1.counts = !first := by
    rw [f1]
    cases first with
    | true => rw [hr.n.1 rfl]; rfl
    | false =>
      have : S.defs [78] ≠ 0 := fun e => by have := hr.n.2 e; cases this
      exact decide_eq_true (by omega)
  obtain ⟨S2, P2, h2, c2, n2⟩ := at_define (def_one k) h1 n1.err (by omega) c1
  have z2 : S2.size ≤ S1.size + 1 := by have := n2.size; split at this <;> exact this
  obtain ⟨S3, P3, h3, ⟨q3, c3, f3, g3, t3⟩, n3⟩ := at_else h2 n2.err (by omega) c2 hq1 g1 t1
  have z3 := n3.size
  obtain ⟨S4, P4, h4, c4, n4⟩ := at_define def_n h3 n3.err (by omega) c3
  have z4 : S4.size ≤ S3.size + 1 := by have := n4.size; split at this <;> exact this
  obtain ⟨S5, P5, h5, c5, n5⟩ := at_define (def_two k) h4 n4.err (by omega) c4
  have z5 : S5.size ≤ S4.size + 1 := by have := n5.size; split at this <;> exact this
  obtain ⟨S6, P6, h6, c6, n6⟩ := at_endif h5 n5.err (by omega) c5
  have z6 := n6.size
  -- what is defined now
  have key : S6.defs [88] ≠ 0 ∧ S6.texts.getD (S6.defs [88] - 1) [] = bodyOf first (low k.val) ∧ S6.defs [78] ≠ 0 ∧ S6.defs [77] = 0 ∧ noNl (outB S6.out) = noNl (outB S.out) := by
    have last : ∀ (l : List Bs) (v : Bs), (l ++ [v]).getD (l.length + 1 - 1) [] = v := fun l v => by simp [List.getD]
    rw [n6.defs, n6.texts, n6.out]
    cases first with
    | true =>
      rw [hq1, if_neg (by decide)] at n2
      rw [f3] at n4 n5
      simp only [Bool.not_true, Bool.not_false, if_true] at n4 n5
      have e5 : S5.texts = S4.texts ++ [[low k.val, low k.val]] := n5.texts
      have d5 : S5.defs = fun x => if x = [88] then S4.texts.length + 1 else S4.defs x := n5.defs
      have d4 : S4.defs = fun x => if x = [78] then S3.texts.length + 1 else S3.defs x := n4.defs
      have d3 : S3.defs [77] = 0 := by rw [n3.defs, n2.defs, n1.defs]; exact hr.m
      have o5 : noNl (outB S5.out) = noNl (outB S4.out) := n5.out
      have o4 : noNl (outB S4.out) = noNl (outB S3.out) := n4.out
      refine ⟨?_, ?_, ?_, ?_, ?_⟩
      · rw [d5]; show (if ([88] : Bs) = [88] then _ else _) ≠ 0; rw [if_pos rfl]; omega
      · rw [d5, e5]
        show (S4.texts ++ [_]).getD ((if ([88] : Bs) = [88] then S4.texts.length + 1 else _) - 1) [] = _
        rw [if_pos rfl, last]; rfl
      · rw [d5]; show (if ([78] : Bs) = [88] then _ else _) ≠ 0
        rw [if_neg (by decide), d4]; show (if ([78] : Bs) = [78] then _ else _) ≠ 0
        rw [if_pos rfl]; omega
      · rw [d5]; show (if ([77] : Bs) = [88] then _ else _) = 0
        rw [if_neg (by decide), d4]; show (if ([77] : Bs) = [78] then _ else _) = 0
        rw [if_neg (by decide)]; exact d3
      · rw [o5, o4, n3.out, n2.out, n1.out]
    | false =>
      rw [hq1] at n2
      simp only [Bool.not_false, if_true] at n2
      rw [f3] at n4 n5
      simp only [Bool.not_false, Bool.not_true, Bool.false_eq_true, if_false] at n4 n5
      have e2 : S2.texts = S1.texts ++ [[low k.val]] := n2.texts
      have d2 : S2.defs = fun x => if x = [88] then S1.texts.length + 1 else S1.defs x := n2.defs
      have o2 : noNl (outB S2.out) = noNl (outB S1.out) := n2.out
      rw [n5.defs, n4.defs, n3.defs, n5.texts, n4.texts, n3.texts, n5.out, n4.out, n3.out, o2, n1.out]
      refine ⟨?_, ?_, ?_, ?_, rfl⟩
      · rw [d2]; show (if ([88] : Bs) = [88] then _ else _) ≠ 0; rw [if_pos rfl]; omega
      · rw [d2, e2]
        show (S1.texts ++ [_]).getD ((if ([88] : Bs) = [88] then S1.texts.length + 1 else _) - 1) [] = _
        rw [if_pos rfl, last]; rfl
      · rw [d2]; show (if ([78] : Bs) = [88] then _ else S1.defs [78]) ≠ 0
        rw [if_neg (by decide), n1.defs]
        exact fun e => by have := hr.n.2 e; cases this
      · rw [d2]; show (if ([77] : Bs) = [88] then _ else S1.defs [77]) = 0
        rw [if_neg (by decide), n1.defs]; exact hr.m
  obtain ⟨k1, k2, k3, k4, k5⟩ := key
  have hbl : (bodyOf first (low k.val)).length ≤ 2 := by cases first <;> simp [bodyOf]
  have hbf : ∀ b ∈ bodyOf first (low k.val), b ≠ 96 ∧ b ≠ 10 := by
    intro b hb
    have : b = low k.val := by
      unfold bodyOf at hb
      split at hb
      · simp only [List.mem_cons, List.not_mem_nil, or_false, or_self] at hb; exact hb
      · simpa using hb
    rw [this]; exact low_ok k
  -- the use, if it is on
  have hu : ∃ S7 P7, At file find num T X R0 ([lUndef, lIfndef, [40, 96, 88, 41], lElse, lNo, lEndif] ++ ls) S7 P7 ∧ P7.conds = [] ∧ S7.err = 0 ∧ S7.size ≤ S6.size + 10 ∧ noNl (outB S7.out) = noNl (outB S6.out) ++ (if on = true then [60] ++ bodyOf first (low k.val) ++ [62] else []) ∧ S7.defs = S6.defs ∧ S7.texts = S6.texts := by
    cases on with
    | true =>
      obtain ⟨S7, P7, h7, c7, e7, z7, o7, d7, t7⟩ := at_use (a := 60) (z := 62) (by decide) (by decide) hbf h6 n6.err (by omega) (by unfold countsP; rw [c6]; rfl) k1 k2
      exact ⟨S7, P7, h7, c7.trans c6, e7, by omega, o7, d7, t7⟩
    | false =>
      refine ⟨S6, P6, h6, c6, n6.err, by omega, ?_, rfl, rfl⟩
      exact (List.append_nil _).symm
  obtain ⟨S7, P7, h7, c7, e7, z7, o7, d7, t7⟩ := hu
  obtain ⟨S8, P8, h8, c8, n8⟩ := at_undef h7 e7 (by omega) c7
  have z8 : S8.size ≤ S7.size + 1 := n8.size
  have d8 : S8.defs = fun x => if x = [77] then 0 else S7.defs x := n8.defs
  have t8 : S8.texts = S7.texts := n8.texts
  have o8 : noNl (outB S8.out) = noNl (outB S7.out) := n8.out
  obtain ⟨S9, P9, h9, ⟨q9, c9, f9, g9, t9⟩, n9⟩ := at_ifndef h8 n8.err (by omega) c8 (by rw [d8]; rfl)
  have z9 := n9.size
  have d9 : S9.defs [88] = S6.defs [88] := by rw [n9.defs, d8, ← d7]; rfl
  obtain ⟨Sa, Pa, ha, ca, ea, za, oa, da, ta⟩ := at_use (a := 40) (z := 41) (by decide) (by decide) hbf h9 n9.err (by omega) (by unfold countsP; rw [c9]; show (decide (1 = 0) || q9.counts) = true; rw [f9]; rfl) (by rw [d9]; exact k1) (by rw [d9, n9.texts, t8, t7]; exact k2)
  obtain ⟨Sb, Pb, hb, ⟨qb, cb, fb, gb, tb⟩, nb⟩ := at_else ha ea (by omega) (ca.trans c9) f9 g9 t9
  have zb := nb.size
  obtain ⟨Sc, Pc, hc, cc, nc⟩ := at_no hb nb.err (by omega) cb fb
  have zc := nc.size
  obtain ⟨Sd, Pd, hd, cd, nd⟩ := at_endif hc nc.err (by omega) cc
  have zd := nd.size
  have dd : Sd.defs = fun x => if x = [77] then 0 else S6.defs x := by rw [nd.defs, nc.defs, nb.defs, da, n9.defs, d8, d7]
  refine ⟨Sd, Pd, hd, ⟨nd.err, cd, ?_, ?_⟩, by omega, ?_⟩
  · refine ⟨fun h => (by cases h), fun h => absurd h ?_⟩
    rw [dd]
    show (if ([78] : Bs) = [77] then 0 else S6.defs [78]) ≠ 0
    rw [if_neg (by decide)]; exact k3
  · rw [dd]; rfl
  · rw [nd.out, nc.out, nb.out, oa, n9.out, o8, o7, k5, List.append_assoc]; rfl
/-- all rounds -/
def blocks : List (Fin 26 × Bool) → List Bs
  | [] => []
  | (k, on) :: r => block (low k.val) on ++ blocks r
def wants : Bool → List (Fin 26 × Bool) → Bs
  | _, [] => []
  | first, (k, on) :: r => wantOf first (low k.val) on ++ wants false r
theorem at_blocks : ∀ (l : List (Fin 26 × Bool)) (first : Bool) (S : Xs) (P : Fs), At file find num T X R0 (blocks l) S P → Rd first S P → S.size + 100 * l.length ≤ 65000 →
    R0.1.err = 0 ∧ R0.2.conds = [] ∧ noNl (outB R0.1.out) = noNl (outB S.out) ++ wants first l
  | [], first, S, P, h, hr, _ => by
    rw [h.done]
    exact ⟨hr.err, hr.conds, (List.append_nil _).symm⟩
  | (k, on) :: r, first, S, P, h, hr, hs => by
    simp only [List.length_cons] at hs
    obtain ⟨S', P', h', hr', hz, ho⟩ := at_block k on first h hr (by omega)
    obtain ⟨e1, e2, e3⟩ := at_blocks r false S' P' h' hr' (by omega)
    refine ⟨e1, e2, ?_⟩
    rw [e3, ho, List.append_assoc]; rfl
end
set_option maxRecDepth 100000 in
theorem blocks_free : ∀ l : List (Fin 26 × Bool), ∀ b ∈ flat (blocks l), b ≠ 47
  | [], b, hb => by cases hb
  | (k, on) :: r, b, hb => by
    have hall : ∀ (k : Fin 26) (on : Bool), ∀ b ∈ flat (block (low k.val) on), b ≠ 47 := by decide
    unfold blocks flat at hb
    rw [List.flatMap_append] at hb
    rcases List.mem_append.1 hb with hb | hb
    · exact hall k on b hb
    · exact blocks_free r b hb
theorem expand_blocks {texts : Nat → Bs} {find : Bs → Nat} {top : Bs} (l : List (Fin 26 × Bool)) (hf : find top = 1) (h1 : texts 1 = flat (blocks l)) (hl : l.length ≤ 600) :
    ∃ out, expandP texts find top = (out, (0, 0, 0), 0) ∧ noNl (outB out) = wants true l := by
  have hp : plainP (texts 1) = (flat (blocks l), none) := by rw [h1]; exact plainP_free (blocks_free l)
  unfold expandP
  rw [hf, if_neg (by decide)]
  unfold fileP
  rw [hp]
  simp only
  obtain ⟨S1, hS1⟩ : ∃ S1 : Xs, { x0 with files := x0.files + 1 } = S1 := ⟨_, rfl⟩
  have he1 : S1.err = 0 := by rw [← hS1]; rfl
  have hz1 : S1.size = 0 := by rw [← hS1]; rfl
  have hd1 : ∀ n, S1.defs n = 0 := by rw [← hS1]; intro n; rfl
  have ho1 : S1.out = [] := by rw [← hS1]; rfl
  rw [hS1]
  clear hS1
  obtain ⟨R0, hR0⟩ : ∃ R0, linesL (fileP texts find 7) find (1 - 1) (texts 1) (flat (blocks l)) ((flat (blocks l)).length + 1) 0 S1 ⟨1 - 1, [], false⟩ = R0 := ⟨_, rfl⟩
  obtain ⟨a, b, c⟩ := at_blocks (file := fileP texts find 7) (find := find) (num := 1 - 1) (T := texts 1) (X := flat (blocks l)) (R0 := R0) l true S1 ⟨1 - 1, [], false⟩ ⟨0, rfl, hR0⟩ ⟨he1, rfl, ⟨fun _ => hd1 _, fun _ => rfl⟩, hd1 _⟩ (by omega)
  rw [hR0]
  simp only [b, List.length_nil, if_true]
  rw [if_neg (by rw [a]; simp)]
  refine ⟨_, rfl, ?_⟩
  show noNl (outB R0.1.out) = _
  rw [c, ho1]; rfl
end Go.Proofs.YtleipnipohpkoaaDoor
namespace Go.Proofs.YtleipnipohpkoaaDoor
set_option linter.unusedVariables false
open Go.RowKit Go.Maps
/-! # how many texts may come: bounds -/
section
variable {c : Nat → Nat} {find : Bs → Nat}
/-- a line that brings something is long enough -/
theorem cLine_room (hf : find [] = 0) (s : Bs) : (∀ c, cLine c find s = 0) ∨ ((∀ c, cLine c find s = 1) ∧ 9 ≤ s.length) ∨ ((∃ t, t ≠ 0 ∧ ∀ c, cLine c find s = c t) ∧ 11 ≤ s.length) := by
  have hl := trimL_le s
  unfold cLine
  split
  · rename_i ht
    have hd : ((trimL s).drop 1).length = (trimL s).length - 1 := List.length_drop
    have hp : 0 < (trimL s).length := by cases hq : trimL s with
      | nil => exact absurd hq ht.1
      | cons _ _ => simp
    generalize (trimL s).drop 1 = r at hd
    unfold cDir
    split
    · split
      · exact .inr (.inl ⟨fun _ => rfl, by omega⟩)
      · exact .inl fun _ => rfl
    · split
      · rename_i hw
        unfold cInc
        split
        · exact .inl fun _ => rfl
        · rename_i hne
          right; right
          refine ⟨⟨_, hne, fun _ => rfl⟩, ?_⟩
          have h1 : mid (trim (r.drop (name r).length)) ≠ [] := fun e => hne (by rw [e]; exact hf)
          have h2 : 3 ≤ (trim (r.drop (name r).length)).length := by
            by_cases h3 : 3 ≤ (trim (r.drop (name r).length)).length
            · exact h3
            · exfalso
              apply h1
              unfold mid
              apply List.eq_nil_of_length_eq_zero
              rw [List.length_drop, List.length_take]; omega
          have h3 := trim_le (r.drop (name r).length)
          rw [List.length_drop, hw] at h3
          rw [hw] at h2
          have h4 : wInclude.length = 7 := rfl
          omega
      · exact .inl fun _ => rfl
  · exact .inl fun _ => rfl
/-- how many includes, how many definitions a text has -/
theorem cLines_count (hf : find [] = 0) {X : Bs} : ∀ k m, ∃ I D, 12 * I + 10 * D ≤ X.length + 1 - m ∧ ∀ c M, (∀ n, c n ≤ M) → cLines c find X k m ≤ I * M + D
  | 0, m => ⟨0, 0, Nat.zero_le _, fun _ _ _ => Nat.zero_le _⟩
  | k + 1, m => by
    have step : ∀ (s : Bs) (rest : (Nat → Nat) → Nat) (I D : Nat), m + s.length + 1 ≤ X.length + 1 → 12 * I + 10 * D ≤ X.length + 1 - (m + s.length + 1) → (∀ c M, (∀ n, c n ≤ M) → rest c ≤ I * M + D) → ∃ I D, 12 * I + 10 * D ≤ X.length + 1 - m ∧ ∀ c M, (∀ n, c n ≤ M) → cLine c find s + rest c ≤ I * M + D := by
      intro s rest I D hm hb hr
      rcases cLine_room hf s with h | ⟨h, hl⟩ | ⟨⟨t, _, h⟩, hl⟩
      · exact ⟨I, D, by omega, fun c M hM => by rw [h]; have := hr c M hM; omega⟩
      · exact ⟨I, D + 1, by omega, fun c M hM => by rw [h]; have := hr c M hM; omega⟩
      · refine ⟨I + 1, D, by omega, fun c M hM => ?_⟩
        have h1 := hr c M hM
        have h2 := hM t
        rw [h, Nat.add_mul, Nat.one_mul]; omega
    by_cases hm : m < X.length
    · have hdl : (X.drop m).length = X.length - m := List.length_drop
      cases hq : cutB 10 (X.drop m) with
      | none =>
        obtain ⟨I, D, h1, h2⟩ := step (X.drop m) (fun _ => 0) 0 0 (by omega) (Nat.zero_le _) (fun _ _ _ => Nat.zero_le _)
        refine ⟨I, D, h1, fun c M hM => ?_⟩
        rw [cLines, if_pos hm, hq]
        exact h2 c M hM
      | some xy =>
        obtain ⟨x, y⟩ := xy
        have hl : (X.drop m).length = x.length + 1 + y.length := by rw [(cutB_some hq).1]; simp; omega
        obtain ⟨I0, D0, hb, hr⟩ := cLines_count hf (X := X) k (m + x.length + 1)
        obtain ⟨I, D, h1, h2⟩ := step x (fun c => cLines c find X k (m + x.length + 1)) I0 D0 (by omega) hb hr
        refine ⟨I, D, h1, fun c M hM => ?_⟩
        rw [cLines, if_pos hm, hq]
        exact h2 c M hM
    · refine ⟨0, 0, Nat.zero_le _, fun c M hM => ?_⟩
      rw [cLines, if_neg hm]
      exact Nat.zero_le _
/-- lines, each of which brings one text at most -/
theorem cLines_flat : ∀ (ls : List Bs) (X : Bs) (k m : Nat), (∀ x ∈ ls, cLine c find x ≤ 1 ∧ ∀ b ∈ x, b ≠ 10) → X.drop m = flat ls → cLines c find X k m ≤ ls.length
  | [], X, k, m, _, hd => by
    have hl : (X.drop m).length = 0 := by rw [hd]; rfl
    rw [List.length_drop] at hl
    cases k with
    | zero => exact Nat.zero_le _
    | succ k => unfold cLines; rw [if_neg (by omega)]; exact Nat.zero_le _
  | x :: ls, X, 0, m, _, _ => Nat.zero_le _
  | x :: ls, X, k + 1, m, h, hd => by
    rw [flat_cons] at hd
    have hl : (X.drop m).length = x.length + 1 + (flat ls).length := by rw [hd]; simp; omega
    rw [List.length_drop] at hl
    unfold cLines
    rw [if_pos (by omega), hd, cutB_app _ (h x (List.mem_cons_self ..)).2]
    have ih := cLines_flat ls X k (m + x.length + 1) (fun y hy => h y (List.mem_cons_of_mem _ hy)) (by rw [Nat.add_assoc, ← List.drop_drop, hd, ← List.drop_drop, List.drop_left]; rfl)
    have := (h x (List.mem_cons_self ..)).1
    show cLine c find x + _ ≤ _
    simp only [List.length_cons]; omega
/-- without ticks -/
theorem cLine_free {s : Bs} (h : ∀ b ∈ s, b ≠ 96) : cLine c find s = 0 := by
  unfold cLine
  rw [if_neg]
  rintro ⟨h1, h2⟩
  have : (trimL s).getD 0 0 ∈ trimL s := by cases hq : trimL s with
    | nil => exact absurd hq h1
    | cons a r => simp
  exact h _ (trimL_mem this) h2
theorem cLines_free {X : Bs} (h : ∀ b ∈ X, b ≠ 96) : ∀ k m, cLines c find X k m = 0
  | 0, m => rfl
  | k + 1, m => by
    unfold cLines
    split
    · split
      · exact cLine_free fun b hb => h b (List.mem_of_mem_drop hb)
      · rename_i x y hxy
        rw [cLines_free h k, cLine_free fun b hb => h b (List.mem_of_mem_drop (by rw [(cutB_some hxy).1]; exact List.mem_append_left _ hb))]
    · rfl
end
/-- files of fewer than 10 (q + 1) bytes -/
theorem cFile_room {texts : Nat → Bs} {find : Bs → Nat} (hf : find [] = 0) {q : Nat} (h1 : 1 ≤ q) (ht : ∀ n, (texts n).length + 1 < 10 * (q + 1)) : ∀ d n, cFile texts find d n ≤ q ^ d
  | 0, n => Nat.zero_le _
  | d + 1, n => by
    unfold cFile
    cases hp : plainP (texts n) with
    | mk X o =>
      cases o with
      | some b => exact Nat.zero_le _
      | none =>
        simp only
        obtain ⟨I, D, hb, hc⟩ := cLines_count (find := find) (X := X) hf (X.length + 1) 0
        have h2 := hc _ _ (cFile_room hf h1 ht d)
        have := plainP_len hp
        have := ht n
        have hp1 : 1 ≤ q ^ d := Nat.one_le_pow _ _ h1
        refine Nat.le_trans h2 ?_
        have h3 : I + D ≤ q := by omega
        calc I * q ^ d + D ≤ I * q ^ d + D * q ^ d := by
              have := Nat.le_mul_of_pos_right D hp1
              omega
          _ = (I + D) * q ^ d := by rw [Nat.add_mul]
          _ ≤ q * q ^ d := Nat.mul_le_mul_right _ h3
          _ = q ^ (d + 1) := by rw [Nat.pow_succ, Nat.mul_comm]
def bOne (I D : Nat) : Nat → Nat
  | 0 => 0
  | d + 1 => I * bOne I D d + D
theorem bOne_le {I D D' : Nat} (h : D ≤ D') : ∀ d, bOne I D d ≤ bOne I D' d
  | 0 => Nat.le_refl _
  | d + 1 => by
    have := Nat.mul_le_mul_left I (bOne_le (I := I) h d)
    unfold bOne; omega
/-- one file, and none other -/
theorem cFile_one {texts : Nat → Bs} {find : Bs → Nat} (hf : find [] = 0) {T : Bs} (ht : ∀ n, texts n = T ∨ texts n = []) (hl : T.length ≤ 600) (n : Nat) : cFile texts find 8 n ≤ bigN := by
  have main : ∀ X, plainP T = (X, none) → ∃ I D, 12 * I + 10 * D ≤ 601 ∧ ∀ d n, cFile texts find d n ≤ bOne I D d := by
    intro X hX
    obtain ⟨I, D, hb, hc⟩ := cLines_count (find := find) (X := X) hf (X.length + 1) 0
    have := plainP_len hX
    refine ⟨I, D, by omega, ?_⟩
    intro d
    induction d with
    | zero => exact fun n => Nat.zero_le _
    | succ d ih =>
      intro n
      unfold cFile
      rcases ht n with h | h
      · rw [h, hX]
        exact hc _ _ ih
      · rw [h]
        exact Nat.zero_le _
  cases hp : plainP T with
  | mk X o =>
    cases o with
    | none =>
      obtain ⟨I, D, hb, hc⟩ := main X hp
      refine Nat.le_trans (hc 8 n) ?_
      have hD : D ≤ (601 - 12 * I) / 10 := by omega
      refine Nat.le_trans (bOne_le hD 8) ?_
      have hI : I < 51 := by omega
      have : ∀ I : Fin 51, bOne I.val ((601 - 12 * I.val) / 10) 8 ≤ bigN := by decide
      exact this ⟨I, hI⟩
    | some b =>
      show cFile texts find (7 + 1) n ≤ _
      unfold cFile
      rcases ht n with h | h
      · rw [h, hp]; exact Nat.zero_le _
      · rw [h]; exact Nat.zero_le _
end Go.Proofs.YtleipnipohpkoaaDoor
