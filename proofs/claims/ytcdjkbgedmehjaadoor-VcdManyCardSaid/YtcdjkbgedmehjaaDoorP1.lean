namespace Go.Proofs.YtcdjkbgedmehjaaDoor
set_option linter.unusedVariables false

/-! # plain: a text's words -/
def blankB (c : UInt8) : Bool := c == 32 || c == 9 || c == 13 || c == 10
structure Spl where
  frm : Nat
  line : Nat
  last : Nat
  out : List (List UInt8 × Nat)
def Spl.step (s : List UInt8) (i : Nat) (t : Spl) : Spl :=
  if i < s.length ∧ blankB (s.getD i 0) = false then { t with last := t.line }
  else { frm := i + 1, line := if i < s.length ∧ s.getD i 0 = 10 then t.line + 1 else t.line, last := if i < s.length then t.line else t.last,
         out := if t.frm < i then t.out ++ [((s.drop t.frm).take (i - t.frm), t.line)] else t.out }
def spTo (s : List UInt8) : Nat → Spl
  | 0 => ⟨0, 1, 1, []⟩
  | i + 1 => (spTo s i).step s i
theorem spTo_frm (s : List UInt8) : ∀ i, (spTo s i).frm ≤ i
  | 0 => Nat.le_refl _
  | i + 1 => by
    have := spTo_frm s i
    unfold spTo Spl.step
    split
    · exact Nat.le_succ_of_le this
    · exact Nat.le_refl _
theorem spTo_line (s : List UInt8) : ∀ i, 1 ≤ (spTo s i).line ∧ (spTo s i).line ≤ i + 1 ∧ 1 ≤ (spTo s i).last ∧ (spTo s i).last ≤ i + 1
  | 0 => by simp [spTo]
  | i + 1 => by
    have := spTo_line s i
    unfold spTo Spl.step
    split
    · simp only; omega
    · simp only
      refine ⟨?_, ?_, ?_, ?_⟩
      · split <;> omega
      · split <;> omega
      · split <;> omega
      · split <;> omega
theorem spTo_out (s : List UInt8) : ∀ i, (spTo s i).out.length ≤ i
  | 0 => by simp [spTo]
  | i + 1 => by
    have := spTo_out s i
    unfold spTo Spl.step
    split
    · exact Nat.le_succ_of_le this
    · simp only
      split
      · rw [List.length_append]; simp only [List.length_cons, List.length_nil]; omega
      · omega
/-- within a word nothing happens -/
theorem sp_word {s w r : List UInt8} {a : Nat} (hs : s.drop a = w ++ r) (hw : ∀ c ∈ w, blankB c = false) : ∀ k, k ≤ w.length → (spTo s (a + k)).frm = (spTo s a).frm ∧ (spTo s (a + k)).line = (spTo s a).line ∧ (spTo s (a + k)).out = (spTo s a).out
  | 0, _ => ⟨rfl, rfl, rfl⟩
  | k + 1, h => by
    have ih := sp_word hs hw k (by omega)
    have hk : k < w.length := h
    have hl : a + k < s.length := by
      have := congrArg List.length hs
      rw [List.length_drop, List.length_append] at this
      omega
    have hg : s.getD (a + k) 0 = w[k] := by
      have : (s.drop a)[k]? = some w[k] := by rw [hs, List.getElem?_append_left hk, List.getElem?_eq_getElem hk]
      rw [List.getElem?_drop] at this
      rw [List.getD_eq_getElem?_getD, this]; rfl
    have hb : blankB (s.getD (a + k) 0) = false := by rw [hg]; exact hw _ (List.getElem_mem _)
    show ((spTo s (a + k)).step s (a + k)).frm = _ ∧ ((spTo s (a + k)).step s (a + k)).line = _ ∧ ((spTo s (a + k)).step s (a + k)).out = _
    unfold Spl.step
    rw [if_pos ⟨hl, hb⟩]
    exact ih
/-- a word and the blank behind it -/
theorem sp_next {s w r : List UInt8} {c : UInt8} {a L : Nat} {o : List (List UInt8 × Nat)} (hs : s.drop a = w ++ c :: r) (hw : ∀ c ∈ w, blankB c = false) (h0 : w ≠ []) (hc : blankB c = true)
    (h1 : (spTo s a).frm = a) (h2 : (spTo s a).line = L) (h3 : (spTo s a).out = o) :
    (spTo s (a + w.length + 1)).frm = a + w.length + 1 ∧ (spTo s (a + w.length + 1)).line = (if c = 10 then L + 1 else L) ∧ (spTo s (a + w.length + 1)).out = o ++ [(w, L)] := by
  have h := sp_word hs hw w.length (Nat.le_refl _)
  have hp : 0 < w.length := List.length_pos_iff.2 h0
  have hl : a + w.length < s.length := by
    have := congrArg List.length hs
    rw [List.length_drop, List.length_append, List.length_cons] at this
    omega
  have hg : s.getD (a + w.length) 0 = c := by
    have : (s.drop a)[w.length]? = some c := by rw [hs, List.getElem?_append_right (Nat.le_refl _), Nat.sub_self]; rfl
    rw [List.getElem?_drop] at this
    rw [List.getD_eq_getElem?_getD, this]; rfl
  show ((spTo s (a + w.length)).step s (a + w.length)).frm = _ ∧ ((spTo s (a + w.length)).step s (a + w.length)).line = _ ∧ ((spTo s (a + w.length)).step s (a + w.length)).out = _
  unfold Spl.step
  rw [if_neg (by rw [hg, hc]; simp)]
  refine ⟨rfl, ?_, ?_⟩ <;> simp only [h.1, h.2.1, h.2.2, h1, h2, h3, hg]
  · by_cases h10 : c = 10
    · rw [if_pos ⟨hl, h10⟩, if_pos h10]
    · rw [if_neg (fun h => h10 h.2), if_neg h10]
  · rw [if_pos (by omega), hs, show a + w.length - a = w.length by omega, List.take_left]
/-- the words of a line: blanks between them, a line feed behind -/
def lineW : List (List UInt8) → List UInt8
  | [] => []
  | [w] => w ++ [10]
  | w :: v :: r => w ++ 32 :: lineW (v :: r)
def okW (w : List UInt8) : Prop := w ≠ [] ∧ ∀ c ∈ w, blankB c = false
theorem sp_line {s : List UInt8} : ∀ (ws : List (List UInt8)) (r : List UInt8) (a L : Nat) (o : List (List UInt8 × Nat)), ws ≠ [] → (∀ w ∈ ws, okW w) → s.drop a = lineW ws ++ r → (spTo s a).frm = a → (spTo s a).line = L → (spTo s a).out = o →
    (spTo s (a + (lineW ws).length)).frm = a + (lineW ws).length ∧ (spTo s (a + (lineW ws).length)).line = L + 1 ∧ (spTo s (a + (lineW ws).length)).out = o ++ ws.map fun w => (w, L)
  | [], _, _, _, _, h0, _, _, _, _, _ => absurd rfl h0
  | [w], r, a, L, o, _, hw, hs, h1, h2, h3 => by
    have hk := hw w (by simp)
    have hs' : s.drop a = w ++ 10 :: r := by rw [hs]; simp [lineW]
    have h := sp_next hs' hk.2 hk.1 (by decide) h1 h2 h3
    have e : (lineW [w]).length = w.length + 1 := by simp [lineW]
    rw [e, ← Nat.add_assoc]
    exact ⟨h.1, by rw [h.2.1, if_pos rfl], h.2.2⟩
  | w :: v :: q, r, a, L, o, _, hw, hs, h1, h2, h3 => by
    have hk := hw w (by simp)
    have hs' : s.drop a = w ++ 32 :: (lineW (v :: q) ++ r) := by rw [hs]; simp [lineW]
    have h := sp_next hs' hk.2 hk.1 (by decide) h1 h2 h3
    rw [if_neg (by decide)] at h
    have hs2 : s.drop (a + w.length + 1) = lineW (v :: q) ++ r := by
      rw [Nat.add_assoc, ← List.drop_drop, hs', Nat.add_comm, List.drop_append]
      simp
    have ih := sp_line (v :: q) r (a + w.length + 1) L (o ++ [(w, L)]) (by simp) (fun x hx => hw x (by simp [List.mem_cons] at hx ⊢; right; exact hx)) hs2 h.1 h.2.1 h.2.2
    have e : (lineW (w :: v :: q)).length = w.length + 1 + (lineW (v :: q)).length := by simp [lineW]; omega
    rw [e, ← Nat.add_assoc, ← Nat.add_assoc]
    refine ⟨ih.1, ih.2.1, ?_⟩
    rw [ih.2.2]; simp
/-- the lines of a text -/
def linesW (ls : List (List (List UInt8))) : List UInt8 := (ls.map lineW).flatten
theorem sp_lines {s : List UInt8} : ∀ (ls : List (List (List UInt8))) (r : List UInt8) (a : Nat) (o : List (List UInt8 × Nat)), (∀ l ∈ ls, l ≠ [] ∧ ∀ w ∈ l, okW w) → s.drop a = linesW ls ++ r → (spTo s a).frm = a → (spTo s a).out = o →
    (spTo s (a + (linesW ls).length)).frm = a + (linesW ls).length ∧ (spTo s (a + (linesW ls).length)).out.map Prod.fst = o.map Prod.fst ++ ls.flatten
  | [], r, a, o, _, _, h1, h2 => ⟨h1, by simp [linesW, h2]⟩
  | l :: ls, r, a, o, hl, hs, h1, h2 => by
    have hk := hl l (by simp)
    have hs' : s.drop a = lineW l ++ (linesW ls ++ r) := by rw [hs]; simp [linesW]
    have h := sp_line l _ a _ o hk.1 hk.2 hs' h1 rfl h2
    have hs2 : s.drop (a + (lineW l).length) = linesW ls ++ r := by rw [← List.drop_drop, hs', List.drop_left]
    have ih := sp_lines ls r _ _ (fun x hx => hl x (by simp [hx])) hs2 h.1 h.2.2
    have e : (linesW (l :: ls)).length = (lineW l).length + (linesW ls).length := by simp [linesW]
    rw [e, ← Nat.add_assoc]
    refine ⟨ih.1, ?_⟩
    rw [ih.2, List.map_append, List.map_map, show (Prod.fst ∘ fun w => (w, (spTo s a).line)) = (id : List UInt8 → List UInt8) from rfl, List.map_id, List.append_assoc]
    rfl
/-- a text of lines: its words -/
theorem sp_text (ls : List (List (List UInt8))) (h : ∀ l ∈ ls, l ≠ [] ∧ ∀ w ∈ l, okW w) : (spTo (linesW ls) ((linesW ls).length + 1)).out.map Prod.fst = ls.flatten := by
  have h := sp_lines (s := linesW ls) ls [] 0 [] h (by simp) rfl rfl
  rw [Nat.zero_add] at h
  show ((spTo (linesW ls) (linesW ls).length).step _ _).out.map _ = _
  unfold Spl.step
  rw [if_neg (by simp)]
  simp only
  rw [h.1, if_neg (by omega), h.2]
  rfl
end Go.Proofs.YtcdjkbgedmehjaaDoor
