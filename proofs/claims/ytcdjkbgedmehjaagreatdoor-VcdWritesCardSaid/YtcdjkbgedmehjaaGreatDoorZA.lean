/- Texts of this claim, one behind another: P1, P2, P3, P4. They state lemmas; each names its own conditions. -/
import Derived.Lib.ItoaLen
namespace Go.Proofs.YtcdjkbgedmehjaaGreatDoor
set_option linter.unusedVariables false

/-! # plain: a text's words -/
def blankB (c : UInt8) : Bool := c == 32 || c == 9 || c == 13 || c == 10
structure Spl where
  frm : Nat
  line : Nat
  last : Nat
  out : List (List UInt8 × Nat)
def Spl.step (s : List UInt8) (i : Nat) (t : Spl) : Spl :=
  if i < s.length ∧ blankB (s.getD i 0) = false then { t with last := t.line }
  else { frm := i + 1, line := if i < s.length ∧ s.getD i 0 = 10 then t.line + 1 else t.line, last := if i < s.length then t.line else t.last,
         out := if t.frm < i then t.out ++ [((s.drop t.frm).take (i - t.frm), t.line)] else t.out }
def spTo (s : List UInt8) : Nat → Spl
  | 0 => ⟨0, 1, 1, []⟩
  | i + 1 => (spTo s i).step s i
theorem spTo_frm (s : List UInt8) : ∀ i, (spTo s i).frm ≤ i
  | 0 => Nat.le_refl _
  | i + 1 => by
    have := spTo_frm s i
    unfold spTo Spl.step
    split
    · exact Nat.le_succ_of_le this
    · exact Nat.le_refl _
theorem spTo_line (s : List UInt8) : ∀ i, 1 ≤ (spTo s i).line ∧ (spTo s i).line ≤ i + 1 ∧ 1 ≤ (spTo s i).last ∧ (spTo s i).last ≤ i + 1
  | 0 => by simp [spTo]
  | i + 1 => by
    have := spTo_line s i
    unfold spTo Spl.step
    split
    · simp only; omega
    · simp only
      refine ⟨?_, ?_, ?_, ?_⟩
      · split <;> omega
      · split <;> omega
      · split <;> omega
      · split <;> omega
theorem spTo_out (s : List UInt8) : ∀ i, (spTo s i).out.length ≤ i
  | 0 => by simp [spTo]
  | i + 1 => by
    have := spTo_out s i
    unfold spTo Spl.step
    split
    · exact Nat.le_succ_of_le this
    · simp only
      split
      · rw [List.length_append]; simp only [List.length_cons, List.length_nil]; omega
      · omega
/-- within a word nothing happens -/
theorem sp_word {s w r : List UInt8} {a : Nat} (hs : s.drop a = w ++ r) (hw : ∀ c ∈ w, blankB c = false) : ∀ k, k ≤ w.length → (spTo s (a + k)).frm = (spTo s a).frm ∧ (spTo s (a + k)).line = (spTo s a).line ∧ (spTo s (a + k)).out = (spTo s a).out
  | 0, _ => ⟨rfl, rfl, rfl⟩
  | k + 1, h => by
    have ih := sp_word hs hw k (by omega)
    have hk : k < w.length := h
    have hl : a + k < s.length := by
      have := congrArg List.length hs
      rw [List.length_drop, List.length_append] at this
      omega
    have hg : s.getD (a + k) 0 = w[k] := by
      have : (s.drop a)[k]? = some w[k] := by rw [hs, List.getElem?_append_left hk, List.getElem?_eq_getElem hk]
      rw [List.getElem?_drop] at this
      rw [List.getD_eq_getElem?_getD, this]; rfl
    have hb : blankB (s.getD (a + k) 0) = false := by rw [hg]; exact hw _ (List.getElem_mem _)
    show ((spTo s (a + k)).step s (a + k)).frm = _ ∧ ((spTo s (a + k)).step s (a + k)).line = _ ∧ ((spTo s (a + k)).step s (a + k)).out = _
    unfold Spl.step
    rw [if_pos ⟨hl, hb⟩]
    exact ih
/-- a word and the blank behind it -/
theorem sp_next {s w r : List UInt8} {c : UInt8} {a L : Nat} {o : List (List UInt8 × Nat)} (hs : s.drop a = w ++ c :: r) (hw : ∀ c ∈ w, blankB c = false) (h0 : w ≠ []) (hc : blankB c = true)
    (h1 : (spTo s a).frm = a) (h2 : (spTo s a).line = L) (h3 : (spTo s a).out = o) :
    (spTo s (a + w.length + 1)).frm = a + w.length + 1 ∧ (spTo s (a + w.length + 1)).line = (if c = 10 then L + 1 else L) ∧ (spTo s (a + w.length + 1)).out = o ++ [(w, L)] := by
  have h := sp_word hs hw w.length (Nat.le_refl _)
  have hp : 0 < w.length := List.length_pos_iff.2 h0
  have hl : a + w.length < s.length := by
    have := congrArg List.length hs
    rw [List.length_drop, List.length_append, List.length_cons] at this
    omega
  have hg : s.getD (a + w.length) 0 = c := by
    have : (s.drop a)[w.length]? = some c := by rw [hs, List.getElem?_append_right (Nat.le_refl _), Nat.sub_self]; rfl
    rw [List.getElem?_drop] at this
    rw [List.getD_eq_getElem?_getD, this]; rfl
  show ((spTo s (a + w.length)).step s (a + w.length)).frm = _ ∧ ((spTo s (a + w.length)).step s (a + w.length)).line = _ ∧ ((spTo s (a + w.length)).step s (a + w.length)).out = _
  unfold Spl.step
  rw [if_neg (by rw [hg, hc]; simp)]
  refine ⟨rfl, ?_, ?_⟩ <;> simp only [h.1, h.2.1, h.2.2, h1, h2, h3, hg]
  · by_cases h10 : c = 10
    · rw [if_pos ⟨hl, h10⟩, if_pos h10]
    · rw [if_neg (fun h => h10 h.2), if_neg h10]
  · rw [if_pos (by omega), hs, show a + w.length - a = w.length by omega, List.take_left]
/-- the words of a line: blanks between them, a line feed behind -/
def lineW : List (List UInt8) → List UInt8
  | [] => []
  | [w] => w ++ [10]
  | w :: v :: r => w ++ 32 :: lineW (v :: r)
def okW (w : List UInt8) : Prop := w ≠ [] ∧ ∀ c ∈ w, blankB c = false
theorem sp_line {s : List UInt8} : ∀ (ws : List (List UInt8)) (r : List UInt8) (a L : Nat) (o : List (List UInt8 × Nat)), ws ≠ [] → (∀ w ∈ ws, okW w) → s.drop a = lineW ws ++ r → (spTo s a).frm = a → (spTo s a).line = L → (spTo s a).out = o →
    (spTo s (a + (lineW ws).length)).frm = a + (lineW ws).length ∧ (spTo s (a + (lineW ws).length)).line = L + 1 ∧ (spTo s (a + (lineW ws).length)).out = o ++ ws.map fun w => (w, L)
  | [], _, _, _, _, h0, _, _, _, _, _ => absurd rfl h0
  | [w], r, a, L, o, _, hw, hs, h1, h2, h3 => by
    have hk := hw w (by simp)
    have hs' : s.drop a = w ++ 10 :: r := by rw [hs]; simp [lineW]
    have h := sp_next hs' hk.2 hk.1 (by decide) h1 h2 h3
    have e : (lineW [w]).length = w.length + 1 := by simp [lineW]
    rw [e, ← Nat.add_assoc]
    exact ⟨h.1, by rw [h.2.1, if_pos rfl], h.2.2⟩
  | w :: v :: q, r, a, L, o, _, hw, hs, h1, h2, h3 => by
    have hk := hw w (by simp)
    have hs' : s.drop a = w ++ 32 :: (lineW (v :: q) ++ r) := by rw [hs]; simp [lineW]
    have h := sp_next hs' hk.2 hk.1 (by decide) h1 h2 h3
    rw [if_neg (by decide)] at h
    have hs2 : s.drop (a + w.length + 1) = lineW (v :: q) ++ r := by
      rw [Nat.add_assoc, ← List.drop_drop, hs', Nat.add_comm, List.drop_append]
      simp
    have ih := sp_line (v :: q) r (a + w.length + 1) L (o ++ [(w, L)]) (by simp) (fun x hx => hw x (by simp [List.mem_cons] at hx ⊢; right; exact hx)) hs2 h.1 h.2.1 h.2.2
    have e : (lineW (w :: v :: q)).length = w.length + 1 + (lineW (v :: q)).length := by simp [lineW]; omega
    rw [e, ← Nat.add_assoc, ← Nat.add_assoc]
    refine ⟨ih.1, ih.2.1, ?_⟩
    rw [ih.2.2]; simp
/-- the lines of a text -/
def linesW (ls : List (List (List UInt8))) : List UInt8 := (ls.map lineW).flatten
theorem sp_lines {s : List UInt8} : ∀ (ls : List (List (List UInt8))) (r : List UInt8) (a : Nat) (o : List (List UInt8 × Nat)), (∀ l ∈ ls, l ≠ [] ∧ ∀ w ∈ l, okW w) → s.drop a = linesW ls ++ r → (spTo s a).frm = a → (spTo s a).out = o →
    (spTo s (a + (linesW ls).length)).frm = a + (linesW ls).length ∧ (spTo s (a + (linesW ls).length)).out.map Prod.fst = o.map Prod.fst ++ ls.flatten
  | [], r, a, o, _, _, h1, h2 => ⟨h1, by simp [linesW, h2]⟩
  | l :: ls, r, a, o, hl, hs, h1, h2 => by
    have hk := hl l (by simp)
    have hs' : s.drop a = lineW l ++ (linesW ls ++ r) := by rw [hs]; simp [linesW]
    have h := sp_line l _ a _ o hk.1 hk.2 hs' h1 rfl h2
    have hs2 : s.drop (a + (lineW l).length) = linesW ls ++ r := by rw [← List.drop_drop, hs', List.drop_left]
    have ih := sp_lines ls r _ _ (fun x hx => hl x (by simp [hx])) hs2 h.1 h.2.2
    have e : (linesW (l :: ls)).length = (lineW l).length + (linesW ls).length := by simp [linesW]
    rw [e, ← Nat.add_assoc]
    refine ⟨ih.1, ?_⟩
    rw [ih.2, List.map_append, List.map_map, show (Prod.fst ∘ fun w => (w, (spTo s a).line)) = (id : List UInt8 → List UInt8) from rfl, List.map_id, List.append_assoc]
    rfl
/-- a text of lines: its words -/
theorem sp_text (ls : List (List (List UInt8))) (h : ∀ l ∈ ls, l ≠ [] ∧ ∀ w ∈ l, okW w) : (spTo (linesW ls) ((linesW ls).length + 1)).out.map Prod.fst = ls.flatten := by
  have h := sp_lines (s := linesW ls) ls [] 0 [] h (by simp) rfl rfl
  rw [Nat.zero_add] at h
  show ((spTo (linesW ls) (linesW ls).length).step _ _).out.map _ = _
  unfold Spl.step
  rw [if_neg (by simp)]
  simp only
  rw [h.1, if_neg (by omega), h.2]
  rfl
end Go.Proofs.YtcdjkbgedmehjaaGreatDoor
namespace Go.Proofs.YtcdjkbgedmehjaaGreatDoor
set_option linter.unusedVariables false

/-! # plain: a trace and its lines -/
def kTs : List UInt8 := [36, 116, 105, 109, 101, 115, 99, 97, 108, 101]
def kOne : List UInt8 := [49]
def kNs : List UInt8 := [110, 115]
def kEnd : List UInt8 := [36, 101, 110, 100]
def kScope : List UInt8 := [36, 115, 99, 111, 112, 101]
def kModule : List UInt8 := [109, 111, 100, 117, 108, 101]
def kVar : List UInt8 := [36, 118, 97, 114]
def kWire : List UInt8 := [119, 105, 114, 101]
def kUp : List UInt8 := [36, 117, 112, 115, 99, 111, 112, 101]
def kEd : List UInt8 := [36, 101, 110, 100, 100, 101, 102, 105, 110, 105, 116, 105, 111, 110, 115]
def kCom : List UInt8 := [36, 99, 111, 109, 109, 101, 110, 116]
def idL (n : Nat) : List UInt8 := if h : n < 94 then [UInt8.ofNat (33 + n)] else UInt8.ofNat (33 + n % 94) :: idL (n / 94)
termination_by n
decreasing_by omega
/-- a trace: the rows' values with their widths -/
structure Trc where
  top : List UInt8
  vars : List (List UInt8 × Nat)
  rows : List (List (Nat × Nat))
def bitL (n x : Nat) : List UInt8 := (List.range n).map fun j => if x.testBit (n - 1 - j) then 49 else 48
def varLine (i : Nat) (v : List UInt8 × Nat) : List (List UInt8) := [kVar, kWire, Lib.itoa (v.2 : Int), idL i, v.1, kEnd]
def varLines : Nat → List (List UInt8 × Nat) → List (List (List UInt8))
  | _, [] => []
  | i, v :: r => varLine i v :: varLines (i + 1) r
def headLines (T : Trc) : List (List (List UInt8)) := [[kTs, kOne, kNs, kEnd], [kScope, kModule, T.top, kEnd]] ++ varLines 0 T.vars ++ [[kUp, kEnd], [kEd, kEnd]]
/-- what changes: i the first one's number; a the values before (none: all change) -/
def chLines : Nat → Option (List (Nat × Nat)) → List (Nat × Nat) → List (List (List UInt8))
  | _, _, [] => []
  | i, none, v :: r => [98 :: bitL v.1 v.2, idL i] :: chLines (i + 1) none r
  | i, some [], v :: r => [98 :: bitL v.1 v.2, idL i] :: chLines (i + 1) (some []) r
  | i, some (u :: q), v :: r => (if u = v then [] else [[98 :: bitL v.1 v.2, idL i]]) ++ chLines (i + 1) (some q) r
def rowLines (n : Nat) (a : Option (List (Nat × Nat))) (r : List (Nat × Nat)) : List (List (List UInt8)) := [35 :: Lib.itoa (n : Int)] :: chLines 0 a r
def prev (rows : List (List (Nat × Nat))) : Nat → Option (List (Nat × Nat))
  | 0 => none
  | n + 1 => some (rows.getD n [])
/-- the lines of the first n rows -/
def rowsTo (rows : List (List (Nat × Nat))) : Nat → List (List (List UInt8))
  | 0 => []
  | n + 1 => rowsTo rows n ++ rowLines n (prev rows n) (rows.getD n [])
def trcLines (T : Trc) : List (List (List UInt8)) := headLines T ++ rowsTo T.rows T.rows.length
def trcText (T : Trc) : List UInt8 := linesW (trcLines T)
end Go.Proofs.YtcdjkbgedmehjaaGreatDoor
namespace Go.Proofs.YtcdjkbgedmehjaaGreatDoor
set_option linter.unusedVariables false

/-! # plain: where the words of a head stand -/
def decDs (n : Nat) : List Nat := if h : n < 10 then [n] else decDs (n / 10) ++ [n % 10]
termination_by n
decreasing_by omega
theorem decDs_ne (n : Nat) : decDs n ≠ [] := by rw [decDs]; split <;> simp
theorem decDs_lt (n : Nat) : ∀ d ∈ decDs n, d < 10 := by
  induction n using Nat.strongRecOn with
  | ind n ih =>
    rw [decDs]
    split
    · intro d hd; simp at hd; omega
    · intro d hd
      rcases List.mem_append.1 hd with h | h
      · exact ih (n / 10) (by omega) d h
      · simp at h; omega
theorem decDs_len (n : Nat) : ∀ k, n < 10 ^ (k + 1) → (decDs n).length ≤ k + 1 := by
  induction n using Nat.strongRecOn with
  | ind n ih =>
    intro k hk
    rw [decDs]
    split
    · simp
    · cases k with
      | zero => simp at hk; omega
      | succ k =>
        have h := ih (n / 10) (by omega) k (by rw [Nat.pow_succ] at hk; omega)
        rw [List.length_append]; simp only [List.length_cons, List.length_nil]; omega
def decVal (ds : List Nat) : Nat := ds.foldl (fun n d => 10 * n + d) 0
theorem decDs_val (n : Nat) : decVal (decDs n) = n := by
  induction n using Nat.strongRecOn with
  | ind n ih =>
    rw [decDs]
    split
    · simp [decVal]
    · have h := ih (n / 10) (by omega)
      unfold decVal at h ⊢
      rw [List.foldl_append, h]
      simp only [List.foldl_cons, List.foldl_nil]
      omega
theorem decDigits_ds (n : Nat) : Lib.decDigits n = (decDs n).map fun d => UInt8.ofNat (48 + d) := by
  induction n using Nat.strongRecOn with
  | ind n ih =>
    rw [decDs, Lib.decDigits]
    split
    · rfl
    · rw [ih (n / 10) (by omega)]; simp
theorem itoa_ds (n : Nat) : Lib.itoa (n : Int) = (decDs n).map fun d => UInt8.ofNat (48 + d) := by rw [Lib.itoa_nonneg]; exact decDigits_ds n
theorem varLines_at : ∀ (l : List (List UInt8 × Nat)) (i0 i : Nat) (v : List UInt8 × Nat), l[i]? = some v → ∀ k, k < 6 → (varLines i0 l).flatten[6 * i + k]? = (varLine (i0 + i) v)[k]?
  | [], _, _, _, h => by simp at h
  | a :: l, i0, 0, v, h => by
    simp at h; subst h
    intro k hk
    simp only [varLines, List.flatten_cons, Nat.mul_zero, Nat.zero_add, Nat.add_zero]
    rw [List.getElem?_append_left (by simpa [varLine] using hk)]
  | a :: l, i0, i + 1, v, h => by
    intro k hk
    have ih := varLines_at l (i0 + 1) i v (by simpa using h) k hk
    simp only [varLines, List.flatten_cons]
    have e : 6 * (i + 1) + k = (varLine i0 a).length + (6 * i + k) := by simp [varLine]; omega
    rw [e, List.getElem?_append_right (by omega), Nat.add_sub_cancel_left, ih]
    congr 2; omega
theorem varLines_len : ∀ (l : List (List UInt8 × Nat)) (i0 : Nat), (varLines i0 l).flatten.length = 6 * l.length
  | [], _ => rfl
  | a :: l, i0 => by
    have ih := varLines_len l (i0 + 1)
    simp only [varLines, List.flatten_cons, List.length_append, ih, varLine, List.length_cons, List.length_nil]
    omega
def headA (T : Trc) : List (List UInt8) := [kTs, kOne, kNs, kEnd, kScope, kModule, T.top, kEnd]
def headB : List (List UInt8) := [kUp, kEnd, kEd, kEnd]
theorem head_words (T : Trc) : (headLines T).flatten = headA T ++ ((varLines 0 T.vars).flatten ++ headB) := by
  unfold headLines headA headB
  simp
/-- word j of a text that begins with this head -/
theorem hw_a {T : Trc} {R : List (List UInt8)} (j : Nat) (hj : j < 8) : ((headLines T).flatten ++ R)[j]? = (headA T)[j]? := by
  rw [head_words, List.append_assoc, List.getElem?_append_left (by simpa [headA] using hj)]
theorem hw_v {T : Trc} {R : List (List UInt8)} (i : Nat) (v : List UInt8 × Nat) (hi : T.vars[i]? = some v) (k : Nat) (hk : k < 6) : ((headLines T).flatten ++ R)[8 + 6 * i + k]? = (varLine i v)[k]? := by
  have hl : i < T.vars.length := (List.getElem?_eq_some_iff.1 hi).1
  have h := varLines_at T.vars 0 i v hi k hk
  rw [head_words, List.append_assoc, List.getElem?_append_right (by simp [headA]; omega), show 8 + 6 * i + k - (headA T).length = 6 * i + k by simp [headA]; omega, List.append_assoc, List.getElem?_append_left (by rw [varLines_len]; omega), h]
  simp
theorem hw_b {T : Trc} {R : List (List UInt8)} (k : Nat) (hk : k < 4) : ((headLines T).flatten ++ R)[8 + 6 * T.vars.length + k]? = headB[k]? := by
  rw [head_words, List.append_assoc, List.getElem?_append_right (by simp [headA]; omega), show 8 + 6 * T.vars.length + k - (headA T).length = 6 * T.vars.length + k by simp [headA]; omega, List.append_assoc, List.getElem?_append_right (by rw [varLines_len]; omega), varLines_len, Nat.add_sub_cancel_left, List.getElem?_append_left (by simpa [headB] using hk)]
theorem hw_r {T : Trc} {R : List (List UInt8)} (k : Nat) : ((headLines T).flatten ++ R)[12 + 6 * T.vars.length + k]? = R[k]? := by
  have hl : (headLines T).flatten.length = 12 + 6 * T.vars.length := by rw [head_words]; simp only [List.length_append, varLines_len, headA, headB, List.length_cons, List.length_nil]; omega
  rw [List.getElem?_append_right (by omega), hl, Nat.add_sub_cancel_left]
/-! # the names of Vars -/
theorem idL_inj : ∀ (n m : Nat), idL n = idL m → n = m := by
  intro n
  induction n using Nat.strongRecOn with
  | ind n ih =>
    intro m h
    rw [idL, idL.eq_1 m] at h
    split at h
    · split at h
      · simp only [List.cons.injEq, and_true] at h
        have := congrArg UInt8.toNat h
        simp only [UInt8.toNat_ofNat'] at this
        omega
      · rw [idL] at h
        split at h <;> simp at h
    · split at h
      · rw [idL] at h
        split at h <;> simp at h
      · simp only [List.cons.injEq] at h
        have h1 := congrArg UInt8.toNat h.1
        have h2 := ih (n / 94) (by omega) (m / 94) h.2
        simp only [UInt8.toNat_ofNat'] at h1
        omega
theorem idL_seen (n : Nat) : ∀ c ∈ idL n, 33 ≤ c.toNat ∧ c.toNat < 127 := by
  induction n using Nat.strongRecOn with
  | ind n ih =>
    rw [idL]
    split
    · intro c hc
      simp only [List.mem_cons, List.not_mem_nil, or_false] at hc
      subst hc
      simp only [UInt8.toNat_ofNat']; omega
    · intro c hc
      rcases List.mem_cons.1 hc with h | h
      · subst h; simp only [UInt8.toNat_ofNat']; omega
      · exact ih (n / 94) (by omega) c h
theorem idL_len (n : Nat) (h : n < 8836) : 1 ≤ (idL n).length ∧ (idL n).length ≤ 2 := by
  rw [idL]
  split
  · simp
  · rw [idL, dif_pos (by omega)]; simp
end Go.Proofs.YtcdjkbgedmehjaaGreatDoor
namespace Go.Proofs.YtcdjkbgedmehjaaGreatDoor
set_option linter.unusedVariables false

/-! # plain: the words of the times -/
/-- what changes: a Var's number, its width and value -/
def chL : Nat → Option (List (Nat × Nat)) → List (Nat × Nat) → List (Nat × (Nat × Nat))
  | _, _, [] => []
  | i, none, v :: r => (i, v) :: chL (i + 1) none r
  | i, some [], v :: r => (i, v) :: chL (i + 1) (some []) r
  | i, some (u :: q), v :: r => (if u = v then [] else [(i, v)]) ++ chL (i + 1) (some q) r
def chWords (c : Nat × (Nat × Nat)) : List (List UInt8) := [98 :: bitL c.2.1 c.2.2, idL c.1]
theorem chLines_eq : ∀ (r : List (Nat × Nat)) (i : Nat) (a : Option (List (Nat × Nat))), chLines i a r = (chL i a r).map chWords
  | [], _, _ => by simp [chLines, chL]
  | v :: r, i, none => by simp [chLines, chL, chLines_eq r (i + 1) none, chWords]
  | v :: r, i, some [] => by simp [chLines, chL, chLines_eq r (i + 1) (some []), chWords]
  | v :: r, i, some (u :: q) => by
    simp only [chLines, chL, chLines_eq r (i + 1) (some q), List.map_append]
    by_cases h : u = v
    · simp [h]
    · simp [h, chWords]
def apT (r : List Nat) (cs : List (Nat × (Nat × Nat))) : List Nat := cs.foldl (fun r c => r.set c.1 c.2.2) r
theorem apT_app (r : List Nat) (a b : List (Nat × (Nat × Nat))) : apT r (a ++ b) = apT (apT r a) b := by simp [apT]
theorem apT_none : ∀ (r : List (Nat × Nat)) (pre old : List Nat), old.length = r.length → apT (pre ++ old) (chL pre.length none r) = pre ++ r.map Prod.snd
  | [], pre, old, h => by
    have : old = [] := List.eq_nil_of_length_eq_zero h
    subst this; simp [chL, apT]
  | v :: r, pre, [], h => by simp at h
  | v :: r, pre, o :: old, h => by
    have ih := apT_none r (pre ++ [v.2]) old (by simpa using h)
    rw [List.length_append, List.length_cons, List.length_nil, Nat.zero_add] at ih
    have e : chL pre.length none (v :: r) = [(pre.length, v)] ++ chL (pre.length + 1) none r := rfl
    have e2 : apT (pre ++ o :: old) [(pre.length, v)] = (pre ++ [v.2]) ++ old := by
      simp [apT, List.set_append_right]
    rw [e, apT_app, e2, ih]
    simp
theorem apT_some : ∀ (r : List (Nat × Nat)) (pre : List Nat) (old : List (Nat × Nat)), old.length = r.length → apT (pre ++ old.map Prod.snd) (chL pre.length (some old) r) = pre ++ r.map Prod.snd
  | [], pre, old, h => by
    have : old = [] := List.eq_nil_of_length_eq_zero h
    subst this; simp [chL, apT]
  | v :: r, pre, [], h => by simp at h
  | v :: r, pre, o :: old, h => by
    have ih := apT_some r (pre ++ [v.2]) old (by simpa using h)
    rw [List.length_append, List.length_cons, List.length_nil, Nat.zero_add] at ih
    have e : chL pre.length (some (o :: old)) (v :: r) = (if o = v then [] else [(pre.length, v)]) ++ chL (pre.length + 1) (some old) r := rfl
    have e2 : apT (pre ++ (o :: old).map Prod.snd) (if o = v then [] else [(pre.length, v)]) = (pre ++ [v.2]) ++ old.map Prod.snd := by
      by_cases ho : o = v
      · subst ho; simp [apT]
      · simp [ho, apT, List.set_append_right]
    rw [e, apT_app, e2, ih]
    simp
theorem chL_mem : ∀ (r : List (Nat × Nat)) (i : Nat) (a : Option (List (Nat × Nat))) (c : Nat × (Nat × Nat)), c ∈ chL i a r → i ≤ c.1 ∧ r[c.1 - i]? = some c.2
  | [], _, _, _, h => by simp [chL] at h
  | v :: r, i, none, c, h => by
    simp only [chL, List.mem_cons] at h
    rcases h with rfl | h
    · simp
    · obtain ⟨h1, h2⟩ := chL_mem r (i + 1) none c h
      refine ⟨by omega, ?_⟩
      rw [show c.1 - i = c.1 - (i + 1) + 1 by omega, List.getElem?_cons_succ]; exact h2
  | v :: r, i, some [], c, h => by
    simp only [chL, List.mem_cons] at h
    rcases h with rfl | h
    · simp
    · obtain ⟨h1, h2⟩ := chL_mem r (i + 1) (some []) c h
      refine ⟨by omega, ?_⟩
      rw [show c.1 - i = c.1 - (i + 1) + 1 by omega, List.getElem?_cons_succ]; exact h2
  | v :: r, i, some (u :: q), c, h => by
    simp only [chL, List.mem_append] at h
    rcases h with h | h
    · by_cases hu : u = v
      · simp [hu] at h
      · simp [hu] at h; subst h; simp
    · obtain ⟨h1, h2⟩ := chL_mem r (i + 1) (some q) c h
      refine ⟨by omega, ?_⟩
      rw [show c.1 - i = c.1 - (i + 1) + 1 by omega, List.getElem?_cons_succ]; exact h2
/-- row n's changes -/
def rowCh (T : Trc) (n : Nat) : List (Nat × (Nat × Nat)) := chL 0 (prev T.rows n) (T.rows.getD n [])
def rowW (T : Trc) (n : Nat) : List (List UInt8) := (35 :: Lib.itoa (n : Int)) :: ((rowCh T n).map chWords).flatten
theorem rowLines_flat (T : Trc) (n : Nat) : (rowLines n (prev T.rows n) (T.rows.getD n [])).flatten = rowW T n := by
  unfold rowLines rowW rowCh
  rw [chLines_eq]
  rfl
def rowsW (T : Trc) : Nat → List (List UInt8)
  | 0 => []
  | n + 1 => rowsW T n ++ rowW T n
theorem rowsTo_flat (T : Trc) : ∀ n, (rowsTo T.rows n).flatten = rowsW T n
  | 0 => rfl
  | n + 1 => by
    unfold rowsTo rowsW
    rw [List.flatten_append, rowsTo_flat T n, rowLines_flat]
theorem flat2_at (l : List (Nat × (Nat × Nat))) (j : Nat) (c : Nat × (Nat × Nat)) (h : l[j]? = some c) : ((l.map chWords).flatten)[2 * j]? = some (98 :: bitL c.2.1 c.2.2) ∧ ((l.map chWords).flatten)[2 * j + 1]? = some (idL c.1) := by
  induction l generalizing j with
  | nil => simp at h
  | cons a l ih =>
    cases j with
    | zero => simp at h; subst h; exact ⟨rfl, rfl⟩
    | succ j =>
      have hh := ih j (by simpa using h)
      have e : ((a :: l).map chWords).flatten = (98 :: bitL a.2.1 a.2.2) :: idL a.1 :: (l.map chWords).flatten := rfl
      rw [e, show 2 * (j + 1) = 2 * j + 1 + 1 by omega, List.getElem?_cons_succ, List.getElem?_cons_succ, List.getElem?_cons_succ]
      exact hh
theorem flat2_len (l : List (Nat × (Nat × Nat))) : ((l.map chWords).flatten).length = 2 * l.length := by
  induction l with
  | nil => rfl
  | cons a l ih =>
    have e : ((a :: l).map chWords).flatten = (98 :: bitL a.2.1 a.2.2) :: idL a.1 :: (l.map chWords).flatten := rfl
    rw [e, List.length_cons, List.length_cons, ih, List.length_cons]; omega
theorem rowW_len (T : Trc) (n : Nat) : (rowW T n).length = 1 + 2 * (rowCh T n).length := by unfold rowW; rw [List.length_cons, flat2_len]; omega
/-- where row n begins, behind the head -/
def rowPos (T : Trc) (n : Nat) : Nat := (rowsW T n).length
theorem rowPos_succ (T : Trc) (n : Nat) : rowPos T (n + 1) = rowPos T n + 1 + 2 * (rowCh T n).length := by
  unfold rowPos
  rw [show rowsW T (n + 1) = rowsW T n ++ rowW T n from rfl, List.length_append, rowW_len]; omega
/-- the words of row n, in all of them -/
theorem rowsW_at (T : Trc) : ∀ (N n : Nat), n < N → ∀ k, k < (rowW T n).length → (rowsW T N)[rowPos T n + k]? = (rowW T n)[k]?
  | 0, _, h, _, _ => absurd h (Nat.not_lt_zero _)
  | N + 1, n, h, k, hk => by
    show (rowsW T N ++ rowW T N)[rowPos T n + k]? = _
    by_cases hn : n = N
    · subst hn
      rw [List.getElem?_append_right (by unfold rowPos; omega)]
      unfold rowPos
      rw [Nat.add_sub_cancel_left]
    · have ih := rowsW_at T N n (by omega) k hk
      rw [List.getElem?_append_left, ih]
      by_cases hh : rowPos T n + k < (rowsW T N).length
      · exact hh
      · rw [List.getElem?_eq_none (by omega), List.getElem?_eq_getElem hk] at ih; cases ih
theorem rowsW_end (T : Trc) (N n : Nat) (h : n ≤ N) : (rowsW T N)[rowPos T n]? = if n < N then some (35 :: Lib.itoa (n : Int)) else none := by
  by_cases hn : n < N
  · have := rowsW_at T N n hn 0 (by rw [rowW_len]; omega)
    rw [Nat.add_zero] at this
    rw [this, if_pos hn]; rfl
  · obtain rfl : n = N := by omega
    rw [if_neg hn, List.getElem?_eq_none (by unfold rowPos; omega)]
theorem trc_words (T : Trc) : (trcLines T).flatten = (headLines T).flatten ++ rowsW T T.rows.length := by
  unfold trcLines
  rw [List.flatten_append, rowsTo_flat]
/-! # plain: words have no blanks -/
theorem okW_of {w : List UInt8} (h0 : w ≠ []) (h : ∀ c ∈ w, 33 ≤ c.toNat ∧ c.toNat < 127) : okW w := by
  refine ⟨h0, fun c hc => ?_⟩
  have := h c hc
  unfold blankB
  have e : ∀ k : UInt8, k.toNat ≤ 32 → (c == k) = false := fun k hk => by
    rw [beq_eq_false_iff_ne]; rintro rfl; omega
  rw [e 32 (by decide), e 9 (by decide), e 13 (by decide), e 10 (by decide)]; rfl
theorem itoa_seen (n : Nat) : Lib.itoa (n : Int) ≠ [] ∧ ∀ c ∈ Lib.itoa (n : Int), 33 ≤ c.toNat ∧ c.toNat < 127 := by
  rw [itoa_ds]
  refine ⟨by simpa using decDs_ne n, fun c hc => ?_⟩
  obtain ⟨d, hd, rfl⟩ := List.mem_map.1 hc
  have := decDs_lt n d hd
  simp only [UInt8.toNat_ofNat']; omega
theorem bitL_seen (n x : Nat) : ∀ c ∈ bitL n x, 33 ≤ c.toNat ∧ c.toNat < 127 := by
  intro c hc
  obtain ⟨j, _, rfl⟩ := List.mem_map.1 hc
  split <;> decide
theorem idL_ne (n : Nat) : idL n ≠ [] := by rw [idL]; split <;> simp
theorem okW_id (n : Nat) : okW (idL n) := okW_of (idL_ne n) (idL_seen n)
theorem okW_cons {c : UInt8} {w : List UInt8} (hc : 33 ≤ c.toNat ∧ c.toNat < 127) (h : ∀ c ∈ w, 33 ≤ c.toNat ∧ c.toNat < 127) : okW (c :: w) :=
  okW_of (by simp) (fun d hd => by
    rcases List.mem_cons.1 hd with rfl | hd
    · exact hc
    · exact h d hd)
theorem lines_ok (T : Trc) (ht : okW T.top) (hv : ∀ v ∈ T.vars, okW v.1) : ∀ l ∈ trcLines T, l ≠ [] ∧ ∀ w ∈ l, okW w := by
  have hvl : ∀ (vs : List (List UInt8 × Nat)) (i : Nat), (∀ v ∈ vs, okW v.1) → ∀ l ∈ varLines i vs, l ≠ [] ∧ ∀ w ∈ l, okW w := by
    intro vs
    induction vs with
    | nil => intro i _ l hl; simp [varLines] at hl
    | cons v vs ih =>
      intro i hv l hl
      simp only [varLines, List.mem_cons] at hl
      rcases hl with rfl | hl
      · refine ⟨by simp [varLine], fun w hw => ?_⟩
        simp only [varLine, List.mem_cons, List.not_mem_nil, or_false] at hw
        rcases hw with rfl | rfl | rfl | rfl | rfl | rfl
        · exact okW_of (by decide) (by decide)
        · exact okW_of (by decide) (by decide)
        · exact okW_of (itoa_seen _).1 (itoa_seen _).2
        · exact okW_id _
        · exact hv v (by simp)
        · exact okW_of (by decide) (by decide)
      · exact ih (i + 1) (fun u hu => hv u (by simp [hu])) l hl
  have hch : ∀ (r : List (Nat × Nat)) (i : Nat) (a : Option (List (Nat × Nat))), ∀ l ∈ chLines i a r, l ≠ [] ∧ ∀ w ∈ l, okW w := by
    intro r i a l hl
    rw [chLines_eq] at hl
    obtain ⟨c, _, rfl⟩ := List.mem_map.1 hl
    refine ⟨by simp [chWords], fun w hw => ?_⟩
    simp only [chWords, List.mem_cons, List.not_mem_nil, or_false] at hw
    rcases hw with rfl | rfl
    · exact okW_cons (by decide) (bitL_seen _ _)
    · exact okW_id _
  have hrw : ∀ n, ∀ l ∈ rowsTo T.rows n, l ≠ [] ∧ ∀ w ∈ l, okW w := by
    intro n
    induction n with
    | zero => intro l hl; simp [rowsTo] at hl
    | succ n ih =>
      intro l hl
      simp only [rowsTo, rowLines, List.mem_append, List.mem_cons] at hl
      rcases hl with hl | rfl | hl
      · exact ih l hl
      · refine ⟨by simp, fun w hw => ?_⟩
        simp only [List.mem_cons, List.not_mem_nil, or_false] at hw
        subst hw
        exact okW_cons (by decide) (itoa_seen _).2
      · exact hch _ _ _ l hl
  intro l hl
  simp only [trcLines, headLines, List.mem_append, List.mem_cons, List.not_mem_nil, or_false] at hl
  rcases hl with (((rfl | rfl) | hl) | rfl | rfl) | hl
  · exact ⟨by simp, fun w hw => by
      simp only [List.mem_cons, List.not_mem_nil, or_false] at hw
      rcases hw with rfl | rfl | rfl | rfl <;> exact okW_of (by decide) (by decide)⟩
  · exact ⟨by simp, fun w hw => by
      simp only [List.mem_cons, List.not_mem_nil, or_false] at hw
      rcases hw with rfl | rfl | rfl | rfl
      · exact okW_of (by decide) (by decide)
      · exact okW_of (by decide) (by decide)
      · exact ht
      · exact okW_of (by decide) (by decide)⟩
  · exact hvl T.vars 0 hv l hl
  · exact ⟨by simp, fun w hw => by
      simp only [List.mem_cons, List.not_mem_nil, or_false] at hw
      rcases hw with rfl | rfl <;> exact okW_of (by decide) (by decide)⟩
  · exact ⟨by simp, fun w hw => by
      simp only [List.mem_cons, List.not_mem_nil, or_false] at hw
      rcases hw with rfl | rfl <;> exact okW_of (by decide) (by decide)⟩
  · exact hrw _ l hl
end Go.Proofs.YtcdjkbgedmehjaaGreatDoor
