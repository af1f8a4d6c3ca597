/- Texts of this claim, one behind another: GP2. They state lemmas; each names its own conditions. -/
import Derived.Test.YtcjfelndnnhgjaaGreatDoorZ6
namespace Go.Proofs.YtcjfelndnnhgjaaGreatDoor
set_option linter.unusedVariables false
open Go.RowKit Go.Maps
/-! # where pieces stand, the law -/
structure PA (texts : Nat → Bs) (j m : Nat) (p : Pc) : Prop where
  f : p.f = (j : Int) + 1
  l : p.l = (plTo (texts (j + 1)) m).1
  c : p.c = (plTo (texts (j + 1)) m).2
  le : m ≤ (texts (j + 1)).length
  ne : p.text ≠ []
  fx : p.fixed = true → m < (texts (j + 1)).length ∧ (texts (j + 1)).getD m 0 = 96
  own : p.fixed = false → m + p.text.length ≤ (texts (j + 1)).length ∧ ∀ i, i < p.text.length → p.text.getD i 0 = (texts (j + 1)).getD (m + i) 0 ∨ (p.text.getD i 0 = 32 ∧ (texts (j + 1)).getD (m + i) 0 ≠ 10)
structure SI (texts : Nat → Bs) (n : Nat) (S : Xs) : Prop where
  ok : S.err = 0 → ∀ p ∈ S.out, ∃ j m, j < n ∧ PA texts j m p
  bad : S.err ≠ 0 → 1 ≤ S.f ∧ S.f ≤ n
structure JI (texts : Nat → Bs) (num m : Nat) (S : Xs) (P : Fs) : Prop where
  j : S.err = 0 → P.joins = true → lastFree S.out = true → ∃ m0, PA texts num m0 (S.out.getD (S.out.length - 1) default) ∧ m0 + (S.out.getD (S.out.length - 1) default).text.length = m
section
variable {texts : Nat → Bs} {n : Nat}
theorem SI.fail {S : Xs} (h : SI texts n S) (f l c e : Int) (hf : 1 ≤ f ∧ f ≤ n) : SI texts n (failP S f l c e) := by
  unfold failP
  split
  · rename_i h0
    exact ⟨fun he => h.ok h0, fun _ => hf⟩
  · exact h
theorem failP_err (S : Xs) (f l c e : Int) (he : e ≠ 0) : (failP S f l c e).err ≠ 0 := (failP_facts S f l c e he).2.2
theorem mem_join {out : List Pc} {t : Bs} {p : Pc} (h : p ∈ joinP out t) : p ∈ out ∨ (0 < out.length ∧ p = { out.getD (out.length - 1) default with text := (out.getD (out.length - 1) default).text ++ t }) := by
  unfold joinP at h
  obtain ⟨i, hi, rfl⟩ := List.getElem_of_mem h
  rw [List.getElem_modify]
  have hi' : i < out.length := by simpa using hi
  split
  · rename_i e
    subst e
    right
    refine ⟨by omega, ?_⟩
    simp [List.getD, List.getElem?_eq_getElem hi']
  · left; exact List.getElem_mem _
theorem last_mem {out : List Pc} (h : 0 < out.length) : out.getD (out.length - 1) default ∈ out := by
  have : out.length - 1 < out.length := by omega
  simp [List.getD, List.getElem?_eq_getElem this]
theorem join_last (out : List Pc) (t : Bs) (h : 0 < out.length) : (joinP out t).getD ((joinP out t).length - 1) default = { out.getD (out.length - 1) default with text := (out.getD (out.length - 1) default).text ++ t } := by
  have hl : out.length - 1 < out.length := by omega
  rw [joinP_len]
  unfold joinP
  rw [List.getD, List.getElem?_modify]
  simp [List.getD, List.getElem?_eq_getElem hl]
theorem app_last (out : List Pc) (p : Pc) : (out ++ [p]).getD ((out ++ [p]).length - 1) default = p := by simp [List.getD]
theorem SI.put {S : Xs} (h : SI texts n S) (p : Pc) (f l c : Int) (joins : Bool) (hf : 1 ≤ f ∧ f ≤ n) (hp : p.text ≠ [] → ∃ j m, j < n ∧ PA texts j m p)
    (hj : S.err = 0 → p.text ≠ [] → joins = true → lastFree S.out = true → ∃ j m, j < n ∧ PA texts j m { S.out.getD (S.out.length - 1) default with text := (S.out.getD (S.out.length - 1) default).text ++ p.text }) :
    SI texts n (putP S p f l c joins) := by
  unfold putP
  split
  · exact h
  · rename_i h1
    have h1' : p.text ≠ [] ∧ S.err = 0 := ⟨fun e => h1 (.inl e), by by_cases he : S.err = 0; exact he; exact absurd (.inr he) h1⟩
    split
    · exact SI.fail (S := { S with size := S.size + p.text.length }) ⟨h.ok, h.bad⟩ f l c 4 hf
    · split
      · rename_i h3
        refine ⟨fun _ q hq => ?_, h.bad⟩
        rcases mem_join hq with hq | ⟨_, rfl⟩
        · exact h.ok h1'.2 q hq
        · exact hj h1'.2 h1'.1 h3.1 h3.2
      · refine ⟨fun _ q hq => ?_, h.bad⟩
        rcases List.mem_append.1 hq with hq | hq
        · exact h.ok h1'.2 q hq
        · rw [List.mem_singleton] at hq; subst hq; exact hp h1'.1
theorem PA.joins {num m : Nat} {q : Pc} {t : Bs} (h : PA texts num m q) (hq : q.fixed = false) (ht : m + q.text.length + t.length ≤ (texts (num + 1)).length)
    (hb : ∀ i, i < t.length → t.getD i 0 = (texts (num + 1)).getD (m + q.text.length + i) 0 ∨ (t.getD i 0 = 32 ∧ (texts (num + 1)).getD (m + q.text.length + i) 0 ≠ 10)) : PA texts num m { q with text := q.text ++ t } := by
  refine ⟨h.f, h.l, h.c, h.le, ?_, fun e => ?_, fun _ => ⟨?_, fun i hi => ?_⟩⟩
  · have := h.ne; simp [this]
  · rw [show ({ q with text := q.text ++ t } : Pc).fixed = q.fixed from rfl, hq] at e; cases e
  · simp only [List.length_append]; omega
  · show (q.text ++ t).getD i 0 = _ ∨ _
    by_cases hlt : i < q.text.length
    · have e : (q.text ++ t).getD i 0 = q.text.getD i 0 := by simp [List.getD, List.getElem?_append_left hlt]
      show _ ∨ ((q.text ++ t).getD i 0 = 32 ∧ _)
      rw [e]; exact (h.own hq).2 i hlt
    · have hi' : i < (q.text ++ t).length := hi
      rw [List.length_append] at hi'
      have e : (q.text ++ t).getD i 0 = t.getD (i - q.text.length) 0 := by simp only [List.getD]; rw [List.getElem?_append_right (by omega)]
      show _ ∨ ((q.text ++ t).getD i 0 = 32 ∧ _)
      rw [e]
      have := hb (i - q.text.length) (by omega)
      rwa [show m + q.text.length + (i - q.text.length) = m + i by omega] at this
/-- t is what stands at m in a blanked text -/
structure Sub (X : Bs) (t : Bs) (m : Nat) : Prop where
  le : m + t.length ≤ X.length
  at_ : ∀ i, i < t.length → t.getD i 0 = X.getD (m + i) 0
theorem ownPc_pa {num m : Nat} {X t : Bs} (hX : BlankOf X (texts (num + 1))) (hs : Sub X t m) (ht : t ≠ []) : PA texts num m (ownPc num (texts (num + 1)) t m) :=
  ⟨rfl, rfl, rfl, by have := hs.le; rw [hX.len] at this; omega, ht, fun e => (by simp [ownPc] at e), fun _ => ⟨by have := hs.le; rw [hX.len] at this; exact this, fun i hi => by
    have h1 := hs.at_ i hi
    have h2 := hX.at_ (m + i)
    show t.getD i 0 = _ ∨ (t.getD i 0 = 32 ∧ _)
    rw [h1]; exact h2⟩⟩
theorem lastFree_iff {out : List Pc} : lastFree out = true ↔ 0 < out.length ∧ (out.getD (out.length - 1) default).fixed = false := by
  unfold lastFree; simp
theorem textP_inv {num m : Nat} {S : Xs} {P : Fs} {X t : Bs} (hn : num < n) (h : SI texts n S) (hj : JI texts num m S P) (hX : BlankOf X (texts (num + 1))) (hs : Sub X t m) :
    SI texts n (textP S P (ownPc num (texts (num + 1)) t m)).1 ∧ JI texts num (m + t.length) (textP S P (ownPc num (texts (num + 1)) t m)).1 (textP S P (ownPc num (texts (num + 1)) t m)).2 := by
  have hpa := fun ht => ownPc_pa (texts := texts) hX hs ht
  have hjn : S.err = 0 → t ≠ [] → P.joins = true → lastFree S.out = true → ∃ m0, PA texts num m0 { S.out.getD (S.out.length - 1) default with text := (S.out.getD (S.out.length - 1) default).text ++ t } ∧ m0 + ((S.out.getD (S.out.length - 1) default).text ++ t).length = m + t.length := by
    intro he ht hjo hlf
    obtain ⟨m0, hp, hm⟩ := hj.j he hjo hlf
    refine ⟨m0, hp.joins (lastFree_iff.1 hlf).2 ?_ (fun i hi => ?_), ?_⟩
    · rw [hm]; have := hs.le; rw [hX.len] at this; exact this
    · rw [hm]; exact ((hpa ht).own rfl).2 i hi
    · rw [List.length_append]; omega
  refine ⟨h.put _ _ _ _ _ (by show (1 : Int) ≤ (num : Int) + 1 ∧ (num : Int) + 1 ≤ (n : Int); omega) (fun ht => ⟨num, m, hn, hpa ht⟩) (fun he ht hjo hlf => ?_), ⟨fun he hjo hlf => ?_⟩⟩
  · obtain ⟨m0, hp, _⟩ := hjn he ht hjo hlf
    exact ⟨num, m0, hn, hp⟩
  · have e1 : (textP S P (ownPc num (texts (num + 1)) t m)).1 = putP S (ownPc num (texts (num + 1)) t m) ((num : Int) + 1) (plTo (texts (num + 1)) m).1 (plTo (texts (num + 1)) m).2 P.joins := rfl
    rw [e1] at he hlf ⊢
    by_cases ht : t = []
    · have e2 : putP S (ownPc num (texts (num + 1)) t m) ((num : Int) + 1) (plTo (texts (num + 1)) m).1 (plTo (texts (num + 1)) m).2 P.joins = S := by rw [putP, if_pos (.inl ht)]
      have e3 : (textP S P (ownPc num (texts (num + 1)) t m)).2 = P := by show (if t = [] then P else _) = P; rw [if_pos ht]
      rw [e2] at he hlf ⊢
      rw [e3] at hjo
      rw [ht]
      exact hj.j he hjo hlf
    · by_cases hS : S.err = 0
      · have e2 := putP.eq_1 S (ownPc num (texts (num + 1)) t m) ((num : Int) + 1) (plTo (texts (num + 1)) m).1 (plTo (texts (num + 1)) m).2 P.joins
        rw [if_neg (by rintro (h' | h'); exact ht h'; exact h' hS)] at e2
        split at e2
        · rw [e2] at he
          exact absurd he (failP_err _ _ _ _ _ (by decide))
        · split at e2
          · rename_i h3
            obtain ⟨m0, hp, hm⟩ := hjn hS ht h3.1 h3.2
            rw [e2]
            show ∃ m0, PA texts num m0 ((joinP S.out t).getD ((joinP S.out t).length - 1) default) ∧ m0 + ((joinP S.out t).getD ((joinP S.out t).length - 1) default).text.length = _
            rw [join_last _ _ (lastFree_iff.1 h3.2).1]
            exact ⟨m0, hp, hm⟩
          · rw [e2]
            show ∃ m0, PA texts num m0 ((S.out ++ [ownPc num (texts (num + 1)) t m]).getD ((S.out ++ [ownPc num (texts (num + 1)) t m]).length - 1) default) ∧ m0 + ((S.out ++ [ownPc num (texts (num + 1)) t m]).getD ((S.out ++ [ownPc num (texts (num + 1)) t m]).length - 1) default).text.length = _
            rw [app_last]
            exact ⟨m, hpa ht, rfl⟩
      · rw [putP, if_pos (.inr hS)] at he; exact absurd he hS
/-- a use's pieces stand at a tick -/
theorem fixed_pa {num m : Nat} (hm : m < (texts (num + 1)).length) (h96 : (texts (num + 1)).getD m 0 = 96) (t : Bs) (ht : t ≠ []) : PA texts num m ⟨t, (num : Int) + 1, (plTo (texts (num + 1)) m).1, (plTo (texts (num + 1)) m).2, true⟩ :=
  ⟨rfl, rfl, rfl, Nat.le_of_lt hm, ht, fun _ => ⟨hm, h96⟩, fun e => (by cases e)⟩
theorem useL_inv {num m : Nat} {U : Xs → Bs → Xs} (hn : num < n) (hm : m < (texts (num + 1)).length) (h96 : (texts (num + 1)).getD m 0 = 96) (hU : ∀ S b, SI texts n S → SI texts n (U S b)) :
    ∀ (k : Nat) (s : Bs) (S : Xs), SI texts n S → SI texts n (useL U ((num : Int) + 1) (plTo (texts (num + 1)) m).1 (plTo (texts (num + 1)) m).2 k s S)
  | 0, _, S, h => h
  | k + 1, s, S, h => by
    have hp : ∀ t, SI texts n (putP S ⟨t, (num : Int) + 1, (plTo (texts (num + 1)) m).1, (plTo (texts (num + 1)) m).2, true⟩ ((num : Int) + 1) (plTo (texts (num + 1)) m).1 (plTo (texts (num + 1)) m).2 false) :=
      fun t => h.put _ _ _ _ _ (by omega) (fun ht => ⟨num, m, hn, fixed_pa hm h96 t ht⟩) (fun _ _ hj => by cases hj)
    unfold useL
    split
    · exact h
    · split
      · exact hp s
      · split
        · exact (hp _).fail _ _ _ _ (by omega)
        · exact useL_inv hn hm h96 hU k _ _ (hU _ _ (hp _))
theorem useP_inv {num m : Nat} (hn : num < n) (hm : m < (texts (num + 1)).length) (h96 : (texts (num + 1)).getD m 0 = 96) : ∀ (d : Nat) (S : Xs) (b : Bs), SI texts n S → SI texts n (useP ((num : Int) + 1) (plTo (texts (num + 1)) m).1 (plTo (texts (num + 1)) m).2 d S b)
  | 0, S, b, h => by
    unfold useP
    split
    · exact h.fail _ _ _ _ (by omega)
    · exact h.fail _ _ _ _ (by omega)
  | d + 1, S, b, h => by
    unfold useP
    split
    · exact h.fail _ _ _ _ (by omega)
    · exact useL_inv hn hm h96 (fun S b h => useP_inv hn hm h96 d S b h) _ _ _ h
theorem Sub.left {X x y : Bs} {c : UInt8} {m : Nat} (h : Sub X (x ++ c :: y) m) : Sub X x m ∧ m + x.length < X.length ∧ X.getD (m + x.length) 0 = c := by
  have hl := h.le
  rw [List.length_append, List.length_cons] at hl
  refine ⟨⟨by omega, fun i hi => ?_⟩, by omega, ?_⟩
  · have := h.at_ i (by rw [List.length_append]; omega)
    rw [← this]; simp [List.getD, List.getElem?_append_left hi]
  · have := h.at_ x.length (by rw [List.length_append, List.length_cons]; omega)
    rw [← this]; simp [List.getD]
theorem Sub.right {X x y : Bs} {c : UInt8} {m : Nat} (h : Sub X (x ++ c :: y) m) (k : Nat) (hk : k ≤ y.length) : Sub X (y.drop k) (m + x.length + 1 + k) := by
  have hl := h.le
  rw [List.length_append, List.length_cons] at hl
  refine ⟨by rw [List.length_drop]; omega, fun i hi => ?_⟩
  rw [List.length_drop] at hi
  have := h.at_ (x.length + 1 + k + i) (by rw [List.length_append, List.length_cons]; omega)
  rw [show m + x.length + 1 + k + i = m + (x.length + 1 + k + i) by omega, ← this]
  simp only [List.getD]
  rw [List.getElem?_append_right (by omega), show x.length + 1 + k + i - x.length = (k + i) + 1 by omega, List.getElem?_cons_succ, List.getElem?_drop]
theorem tick_of {X T : Bs} (hX : BlankOf X T) {m : Nat} (h : m < X.length) (h96 : X.getD m 0 = 96) : m < T.length ∧ T.getD m 0 = 96 := by
  refine ⟨by rw [← hX.len]; exact h, ?_⟩
  rcases hX.at_ m with e | ⟨e, _⟩
  · rw [← e]; exact h96
  · rw [h96] at e; cases e
theorem usesL_inv {num : Nat} {X : Bs} (hn : num < n) (hX : BlankOf X (texts (num + 1))) : ∀ (k : Nat) (s : Bs) (m : Nat) (S : Xs) (P : Fs), s.length < k → SI texts n S → JI texts num m S P → Sub X s m →
    SI texts n (usesL num (texts (num + 1)) k s m S P).1 ∧ JI texts num (m + s.length) (usesL num (texts (num + 1)) k s m S P).1 (usesL num (texts (num + 1)) k s m S P).2
  | 0, _, _, S, P, hk, h, hj, hs => absurd hk (Nat.not_lt_zero _)
  | k + 1, s, m, S, P, hk, h, hj, hs => by
    unfold usesL
    split
    · exact textP_inv hn h hj hX hs
    · split
      · exact textP_inv hn h hj hX hs
      · rename_i x y hc
        obtain ⟨hsx, _⟩ := cutB_some hc
        subst hsx
        obtain ⟨h1, h2, h3⟩ := hs.left
        obtain ⟨a1, a2⟩ := textP_inv hn h hj hX h1
        obtain ⟨t1, t2⟩ := tick_of hX h2 h3
        split
        · rename_i hne
          refine ⟨a1.fail _ _ _ _ (by omega), ⟨fun he => absurd he (failP_err _ _ _ _ _ (by decide))⟩⟩
        · have hb := useP_inv hn t1 t2 8 _ (name y) a1
          have hnl := name_le y
          have := usesL_inv hn hX k (y.drop (name y).length) (m + x.length + 1 + (name y).length) _ { (textP S P (ownPc num (texts (num + 1)) x m)).2 with joins := false } (by rw [List.length_append, List.length_cons] at hk; rw [List.length_drop]; omega) hb ⟨fun _ hjo => by cases hjo⟩ (hs.right _ hnl)
          rw [List.length_drop] at this
          rw [List.length_append, List.length_cons]
          rw [show m + (x.length + (y.length + 1)) = m + x.length + 1 + (name y).length + (y.length - (name y).length) by omega]
          exact this
/-! ## the directives -/
structure CI (n : Nat) (P : Fs) : Prop where
  c : ∀ q ∈ P.conds, 1 ≤ q.f ∧ q.f ≤ n
theorem countsP_of {P P' : Fs} (h : P'.conds = P.conds) : countsP P' = countsP P := by unfold countsP; rw [h]
def JC (P : Fs) : Prop := P.joins = true → countsP P = true
theorem condP_inv {S : Xs} {P : Fs} (h : SI texts n S) (hc : CI n P) (word rest : Bs) (f l c : Int) (apart : Bool) (hf : 1 ≤ f ∧ f ≤ n) : SI texts n (condP S P word rest f l c apart).1 ∧ CI n (condP S P word rest f l c apart).2 := by
  unfold condP
  split
  · split
    · exact ⟨h.fail _ _ _ _ hf, hc⟩
    · refine ⟨h, ⟨fun q hq => ?_⟩⟩
      rcases List.mem_append.1 hq with hq | hq
      · exact hc.c q hq
      · rw [List.mem_singleton] at hq; subst hq; exact hf
  · split
    · split
      · exact ⟨h.fail _ _ _ _ hf, hc⟩
      · refine ⟨h, ⟨fun q hq => ?_⟩⟩
        obtain ⟨i, hi, rfl⟩ := List.getElem_of_mem hq
        rw [List.getElem_modify]
        have hi' : i < P.conds.length := by simpa using hi
        split
        · exact hc.c (P.conds[i]) (List.getElem_mem hi')
        · exact hc.c (P.conds[i]) (List.getElem_mem hi')
    · split
      · exact ⟨h.fail _ _ _ _ hf, hc⟩
      · exact ⟨h, ⟨fun q hq => hc.c q (List.mem_of_mem_take hq)⟩⟩
variable {file : Xs → Nat → Int → Int → Int → Xs} {find : Bs → Nat}
theorem defP_inv {S : Xs} (hfile : ∀ (S : Xs) (num : Nat) (f l c : Int), 1 ≤ num → num ≤ n → 1 ≤ f ∧ f ≤ n → SI texts n S → SI texts n (file S num f l c)) (hfind : ∀ b, find b ≤ n) (h : SI texts n S) (word rest : Bs) (f l c : Int) (apart : Bool) (hf : 1 ≤ f ∧ f ≤ n) : SI texts n (defP file find S word rest f l c apart) := by
  unfold defP
  split
  · unfold inclP
    split
    · exact h.fail _ _ _ _ hf
    · split
      · exact h.fail _ _ _ _ hf
      · exact hfile _ _ _ _ _ (by omega) (hfind _) hf h
  · split
    · exact h.fail _ _ _ _ hf
    · split
      · exact ⟨h.ok, h.bad⟩
      · exact ⟨h.ok, h.bad⟩
theorem dirP_inv {S : Xs} {P : Fs} (hfile : ∀ (S : Xs) (num : Nat) (f l c : Int), 1 ≤ num → num ≤ n → 1 ≤ f ∧ f ≤ n → SI texts n S → SI texts n (file S num f l c)) (hfind : ∀ b, find b ≤ n) (h : SI texts n S) (hc : CI n P) (s : Bs) (f l c : Int) (hf : 1 ≤ f ∧ f ≤ n) :
    SI texts n (dirP file find S P s f l c).2.1 ∧ CI n (dirP file find S P s f l c).2.2 ∧ ((dirP file find S P s f l c).1 = false → (dirP file find S P s f l c).2 = (S, P)) := by
  unfold dirP
  simp only
  split
  · obtain ⟨a, b⟩ := condP_inv h hc (name s) (trim (s.drop (name s).length)) f l c (decide (s.drop (name s).length = []) || isBlank ((s.drop (name s).length).getD 0 0)) hf
    exact ⟨a, b, fun e => by cases e⟩
  · split
    · refine ⟨?_, hc, fun e => by cases e⟩
      show SI texts n (if countsP P = true then _ else S)
      split
      · exact defP_inv hfile hfind h _ _ _ _ _ _ hf
      · exact h
    · exact ⟨h, hc, fun _ => rfl⟩
theorem textP_conds (S : Xs) (P : Fs) (p : Pc) : (textP S P p).2.conds = P.conds := by
  unfold textP
  split <;> rfl
theorem usesL_conds (num : Nat) (T : Bs) : ∀ (k : Nat) (s : Bs) (m : Nat) (S : Xs) (P : Fs), (usesL num T k s m S P).2.conds = P.conds
  | 0, _, _, _, _ => rfl
  | k + 1, s, m, S, P => by
    unfold usesL
    split
    · exact textP_conds _ _ _
    · split
      · exact textP_conds _ _ _
      · split
        · exact textP_conds S P _
        · rw [usesL_conds]; exact textP_conds S P _
theorem lineP_inv {num m : Nat} {X s : Bs} {ended : Bool} {S : Xs} {P : Fs} (hfile : ∀ (S : Xs) (num : Nat) (f l c : Int), 1 ≤ num → num ≤ n → 1 ≤ f ∧ f ≤ n → SI texts n S → SI texts n (file S num f l c)) (hfind : ∀ b, find b ≤ n) (hn : num < n) (hX : BlankOf X (texts (num + 1))) (h : SI texts n S) (hj : JI texts num m S P) (hc : CI n P) (hjc : JC P) (hs : Sub X s m) (hend : ended = true → Sub X [10] (m + s.length)) :
    SI texts n (lineP file find num (texts (num + 1)) s m ended S P).1 ∧ JI texts num (m + s.length + (if ended = true then 1 else 0)) (lineP file find num (texts (num + 1)) s m ended S P).1 (lineP file find num (texts (num + 1)) s m ended S P).2 ∧ CI n (lineP file find num (texts (num + 1)) s m ended S P).2 ∧ JC (lineP file find num (texts (num + 1)) s m ended S P).2 := by
  have hend' : Sub X (if ended = true then [10] else []) (m + s.length) := by
    split
    · rename_i e; exact hend e
    · exact ⟨by have := hs.le; simpa using this, fun i hi => absurd hi (Nat.not_lt_zero _)⟩
  have hlen : (if ended = true then ([10] : Bs) else []).length = if ended = true then 1 else 0 := by split <;> rfl
  unfold lineP
  simp only
  generalize hd : (if trimL s ≠ [] ∧ (trimL s).getD 0 0 = 96 then dirP file find S P ((trimL s).drop 1) ((num : Int) + 1) (plTo (texts (num + 1)) (m + s.length - (trimL s).length)).1 (plTo (texts (num + 1)) (m + s.length - (trimL s).length)).2 else (false, S, P)) = d
  have hdi : SI texts n d.2.1 ∧ CI n d.2.2 ∧ (d.1 = false → d.2 = (S, P)) := by
    rw [← hd]
    split
    · exact dirP_inv hfile hfind h hc _ _ _ _ (by omega)
    · exact ⟨h, hc, fun _ => rfl⟩
  obtain ⟨d1, d2, d3⟩ := hdi
  split
  · split
    · rename_i hcn
      have := textP_inv (P := { d.2.2 with joins := false }) hn d1 ⟨fun _ hjo => by cases hjo⟩ hX hend'
      rw [hlen] at this
      refine ⟨this.1, this.2, ⟨by rw [textP_conds]; exact d2.c⟩, fun _ => ?_⟩
      rw [countsP_of (textP_conds _ _ _)]; exact hcn
    · exact ⟨d1, ⟨fun _ hjo => by cases hjo⟩, ⟨d2.c⟩, fun hjo => by cases hjo⟩
  · rename_i hf
    have e := d3 (by simpa using hf)
    have e1 : d.2.1 = S := by rw [e]
    have e2 : d.2.2 = P := by rw [e]
    rw [e1, e2]
    split
    · rename_i hcn
      obtain ⟨u1, u2⟩ := usesL_inv hn hX (s.length + 1) s m S P (Nat.lt_succ_self _) h hj hs
      have := textP_inv hn u1 u2 hX hend'
      rw [hlen] at this
      have hcs : (textP (usesP num (texts (num + 1)) s m S P).1 (usesP num (texts (num + 1)) s m S P).2 (ownPc num (texts (num + 1)) (if ended = true then [10] else []) (m + s.length))).2.conds = P.conds := by
        rw [textP_conds, usesP, usesL_conds]
      exact ⟨this.1, this.2, ⟨by rw [hcs]; exact hc.c⟩, fun _ => by rw [countsP_of hcs]; exact hcn⟩
    · rename_i hcn
      exact ⟨h, ⟨fun he hjo hlf => absurd (hjc hjo) hcn⟩, hc, hjc⟩
theorem linesL_inv {num : Nat} {X : Bs} (hfile : ∀ (S : Xs) (num : Nat) (f l c : Int), 1 ≤ num → num ≤ n → 1 ≤ f ∧ f ≤ n → SI texts n S → SI texts n (file S num f l c)) (hfind : ∀ b, find b ≤ n) (hn : num < n) (hX : BlankOf X (texts (num + 1))) :
    ∀ (k m : Nat) (S : Xs) (P : Fs), SI texts n S → JI texts num m S P → CI n P → JC P → SI texts n (linesL file find num (texts (num + 1)) X k m S P).1 ∧ CI n (linesL file find num (texts (num + 1)) X k m S P).2
  | 0, m, S, P, h, hj, hc, hjc => ⟨h, hc⟩
  | k + 1, m, S, P, h, hj, hc, hjc => by
    unfold linesL
    split
    · rename_i hm
      split
      · have hs : Sub X (X.drop m) m := ⟨by rw [List.length_drop]; omega, fun i hi => by simp [List.getD, List.getElem?_drop]⟩
        obtain ⟨a, _, b, _⟩ := lineP_inv (ended := false) hfile hfind hn hX h hj hc hjc hs (fun e => by cases e)
        exact ⟨a, b⟩
      · rename_i x y hcut
        obtain ⟨hxy, _⟩ := cutB_some hcut
        have hs0 : Sub X (x ++ 10 :: y) m := by
          rw [← hxy]
          exact ⟨by rw [List.length_drop]; omega, fun i hi => by simp [List.getD, List.getElem?_drop]⟩
        obtain ⟨h1, h2, h3⟩ := hs0.left
        have hend : Sub X [10] (m + x.length) := ⟨h2, fun i hi => by
          have : i = 0 := by simpa using hi
          subst this; rw [Nat.add_zero, h3]; rfl⟩
        obtain ⟨a, b, c, d⟩ := lineP_inv (ended := true) hfile hfind hn hX h hj hc hjc h1 (fun _ => hend)
        rw [if_pos rfl] at b
        exact linesL_inv hfile hfind hn hX k _ _ _ a b c d
    · exact ⟨h, hc⟩
theorem fileP_inv (hfind : ∀ b, find b ≤ n) : ∀ (d : Nat) (S : Xs) (num : Nat) (f l c : Int), 1 ≤ num → num ≤ n → (d = 0 → 1 ≤ f ∧ f ≤ n) → SI texts n S → SI texts n (fileP texts find d S num f l c)
  | 0, S, num, f, l, c, h1, h2, hf, h => SI.fail (S := { S with files := S.files + 1 }) ⟨h.ok, h.bad⟩ f l c 8 (hf rfl)
  | d + 1, S, num, f, l, c, h1, h2, hf, h => by
    have h' : SI texts n { S with files := S.files + 1 } := ⟨h.ok, h.bad⟩
    unfold fileP
    split
    · exact h'.fail _ _ _ _ (by omega)
    · rename_i X hX
      have hB := plainP_blank hX
      obtain ⟨q, rfl⟩ : ∃ q, num = q + 1 := ⟨num - 1, by omega⟩
      simp only [Nat.add_sub_cancel]
      obtain ⟨a, b⟩ := linesL_inv (file := fileP texts find d) (fun S num f l c h1 h2 hf h => fileP_inv hfind d S num f l c h1 h2 (fun _ => hf) h) hfind (by omega : q < n) hB (X.length + 1) 0 { S with files := S.files + 1 } ⟨q, [], false⟩ h' ⟨fun _ hj => by cases hj⟩ ⟨fun q hq => by cases hq⟩ (fun hj => by cases hj)
      split
      · exact ⟨a.ok, a.bad⟩
      · rename_i hlen
        have hmem : ∀ l : List Cd, ¬ l.length = 0 → l.getD (l.length - 1) default ∈ l := fun l hl => by
          have : l.length - 1 < l.length := by omega
          simp [List.getD, List.getElem?_eq_getElem this]
        have hf := a.fail _ (linesL (fileP texts find d) find q (texts (q + 1)) X (X.length + 1) 0 { S with files := S.files + 1 } ⟨q, [], false⟩).2.conds.length 0 6 (b.c _ (hmem _ hlen))
        have := a.fail _ ((linesL (fileP texts find d) find q (texts (q + 1)) X (X.length + 1) 0 { S with files := S.files + 1 } ⟨q, [], false⟩).2.conds.getD ((linesL (fileP texts find d) find q (texts (q + 1)) X (X.length + 1) 0 { S with files := S.files + 1 } ⟨q, [], false⟩).2.conds.length - 1) default).l ((linesL (fileP texts find d) find q (texts (q + 1)) X (X.length + 1) 0 { S with files := S.files + 1 } ⟨q, [], false⟩).2.conds.getD ((linesL (fileP texts find d) find q (texts (q + 1)) X (X.length + 1) 0 { S with files := S.files + 1 } ⟨q, [], false⟩).2.conds.length - 1) default).c 6 (b.c _ (hmem _ hlen))
        exact ⟨this.ok, this.bad⟩
end
/-- what Expand hands back -/
theorem expandP_inv {texts : Nat → Bs} {find : Bs → Nat} {n : Nat} (hfind : ∀ b, find b ≤ n) (top : Bs) :
    ((expandP texts find top).2.2 = 0 → ∀ p ∈ (expandP texts find top).1, ∃ j m, j < n ∧ PA texts j m p) ∧
    ((expandP texts find top).2.2 ≠ 0 → (expandP texts find top).1 = [] ∧ ((expandP texts find top).2.2 = 9 ∧ (expandP texts find top).2.1 = (0, 0, 0) ∨ 1 ≤ (expandP texts find top).2.1.1 ∧ (expandP texts find top).2.1.1 ≤ n)) := by
  unfold expandP
  split
  · refine ⟨fun h => ?_, fun _ => ⟨rfl, .inl ⟨rfl, rfl⟩⟩⟩
    intro p hp; cases hp
  · rename_i h0
    have hx : SI texts n x0 := ⟨fun _ p hp => (by cases hp), fun h => absurd rfl h⟩
    have h := fileP_inv (texts := texts) hfind 8 x0 (find top) 0 0 0 (by omega) (hfind _) (fun h => by cases h) hx
    simp only
    split
    · rename_i he
      exact ⟨fun e => absurd e he, fun _ => ⟨rfl, .inr (h.bad he)⟩⟩
    · rename_i he
      exact ⟨fun _ => h.ok (by omega), fun e => absurd rfl e⟩
end Go.Proofs.YtcjfelndnnhgjaaGreatDoor
