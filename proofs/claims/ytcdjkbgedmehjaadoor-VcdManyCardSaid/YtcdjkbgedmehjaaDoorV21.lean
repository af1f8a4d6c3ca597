import Derived.Test.YtcdjkbgedmehjaaDoorV20
namespace Go.Proofs.YtcdjkbgedmehjaaDoor
set_option linter.unusedVariables false
open Go.RowKit Go.Sort

/-! # plain: the lines as Write makes them -/
theorem lineG_eq : ∀ (ws : List Bs), ws ≠ [] → lineG ws = lineW ws
  | [], h => absurd rfl h
  | [w], _ => by simp [lineG, lineW, Lib.join]
  | w :: v :: r, _ => by
    have ih := lineG_eq (v :: r) (by simp)
    unfold lineG at ih ⊢
    rw [lineW, ← ih]
    simp [Lib.join]
def PreT (T : Trc) (ls : List (List Bs)) : Prop := ∃ rest, trcLines T = ls ++ rest
theorem PreT.len {T : Trc} {ls : List (List Bs)} (h : PreT T ls) : (linesW ls).length ≤ (trcText T).length := by
  obtain ⟨rest, hr⟩ := h
  unfold trcText linesW
  rw [hr, List.map_append, List.flatten_append, List.length_append]
  exact Nat.le_add_right _ _
theorem linesW_snoc (ls : List (List Bs)) (l : List Bs) : linesW (ls ++ [l]) = linesW ls ++ lineW l := by simp [linesW]
theorem varLines_snoc : ∀ (l : List (Bs × Nat)) (i : Nat) (v : Bs × Nat), varLines i (l ++ [v]) = varLines i l ++ [varLine (i + l.length) v]
  | [], i, v => by simp [varLines]
  | a :: l, i, v => by
    simp only [List.cons_append, varLines, varLines_snoc l (i + 1) v, List.length_cons]
    rw [show i + 1 + l.length = i + (l.length + 1) by omega]
theorem varLines_pre : ∀ (l : List (Bs × Nat)) (i k : Nat), ∃ rest, varLines i l = varLines i (l.take k) ++ rest
  | l, i, 0 => ⟨varLines i l, by simp [varLines]⟩
  | [], i, k + 1 => ⟨[], by simp [varLines]⟩
  | a :: l, i, k + 1 => by
    obtain ⟨r, hr⟩ := varLines_pre l (i + 1) k
    exact ⟨r, by simp only [List.take_succ_cons, varLines, List.cons_append, hr]⟩
def chOne (i : Nat) (v : Nat × Nat) : List Bs := [98 :: bitL v.1 v.2, idL i]
def chStep (a : Option (List (Nat × Nat))) (k i : Nat) (v : Nat × Nat) : List (List Bs) :=
  match a with
  | none => [chOne i v]
  | some old => if old[k]? = some v then [] else [chOne i v]
theorem chLines_snoc : ∀ (l : List (Nat × Nat)) (i : Nat) (a : Option (List (Nat × Nat))) (v : Nat × Nat), chLines i a (l ++ [v]) = chLines i a l ++ chStep a l.length (i + l.length) v
  | [], i, none, v => rfl
  | [], i, some [], v => by simp [chLines, chStep, chOne]
  | [], i, some (u :: q), v => by
    simp only [List.nil_append, chLines, chStep, List.append_nil, List.length_nil, Nat.add_zero, List.getElem?_cons_zero, Option.some.injEq]
    rfl
  | b :: l, i, none, v => by
    simp only [List.cons_append, chLines, chLines_snoc l (i + 1) none v, chStep, List.length_cons]
    rw [show i + 1 + l.length = i + (l.length + 1) by omega]
  | b :: l, i, some [], v => by
    simp only [List.cons_append, chLines, chLines_snoc l (i + 1) (some []) v, chStep, List.length_cons, List.getElem?_nil]
    rw [show i + 1 + l.length = i + (l.length + 1) by omega]
  | b :: l, i, some (u :: q), v => by
    simp only [List.cons_append, chLines, chLines_snoc l (i + 1) (some q) v, chStep, List.length_cons, List.getElem?_cons_succ]
    rw [show i + 1 + l.length = i + (l.length + 1) by omega, List.append_assoc]
theorem chLines_pre (l : List (Nat × Nat)) (i k : Nat) (a : Option (List (Nat × Nat))) : ∃ rest, chLines i a l = chLines i a (l.take k) ++ rest := by
  induction l generalizing i k a with
  | nil => exact ⟨[], by simp [chLines]⟩
  | cons b l ih =>
    cases k with
    | zero => exact ⟨chLines i a (b :: l), by simp [chLines]⟩
    | succ k =>
      cases a with
      | none => obtain ⟨r, hr⟩ := ih (i + 1) k none; exact ⟨r, by simp only [List.take_succ_cons, chLines, hr, List.cons_append]⟩
      | some old =>
        cases old with
        | nil => obtain ⟨r, hr⟩ := ih (i + 1) k (some []); exact ⟨r, by simp only [List.take_succ_cons, chLines, hr, List.cons_append]⟩
        | cons u q => obtain ⟨r, hr⟩ := ih (i + 1) k (some q); exact ⟨r, by simp only [List.take_succ_cons, chLines, hr, List.append_assoc]⟩
theorem rowsTo_pre (rows : List (List (Nat × Nat))) : ∀ (d n : Nat), ∃ rest, rowsTo rows (n + d) = rowsTo rows n ++ rest
  | 0, n => ⟨[], by simp⟩
  | d + 1, n => by
    obtain ⟨r, hr⟩ := rowsTo_pre rows d n
    exact ⟨r ++ rowLines (n + d) (prev rows (n + d)) (rows.getD (n + d) []), by rw [← Nat.add_assoc, rowsTo, hr, List.append_assoc]⟩
def l1 : List Bs := [kTs, kOne, kNs, kEnd]
def l2 (T : Trc) : List Bs := [kScope, kModule, T.top, kEnd]
def l3 : List Bs := [kUp, kEnd]
def l4 : List Bs := [kEd, kEnd]
theorem head_eq (T : Trc) : headLines T = [l1, l2 T] ++ varLines 0 T.vars ++ [l3, l4] := rfl
theorem pre_1 (T : Trc) : PreT T [l1] := ⟨_, by unfold trcLines; rw [head_eq]; rfl⟩
theorem pre_2 (T : Trc) : PreT T [l1, l2 T] := ⟨_, by unfold trcLines; rw [head_eq]; simp only [List.append_assoc, List.cons_append, List.nil_append]; rfl⟩
theorem pre_v (T : Trc) (k : Nat) : PreT T ([l1, l2 T] ++ varLines 0 (T.vars.take k)) := by
  obtain ⟨r, hr⟩ := varLines_pre T.vars 0 k
  exact ⟨_, by unfold trcLines; rw [head_eq, hr]; simp only [List.append_assoc]; rfl⟩
theorem pre_3 (T : Trc) : PreT T ([l1, l2 T] ++ varLines 0 T.vars ++ [l3]) := ⟨_, by unfold trcLines; rw [head_eq]; simp only [List.append_assoc, List.cons_append, List.nil_append]; rfl⟩
theorem pre_r (T : Trc) (n : Nat) (hn : n ≤ T.rows.length) : PreT T (headLines T ++ rowsTo T.rows n) := by
  obtain ⟨r, hr⟩ := rowsTo_pre T.rows (T.rows.length - n) n
  rw [show n + (T.rows.length - n) = T.rows.length by omega] at hr
  exact ⟨r, by unfold trcLines; rw [hr, List.append_assoc]⟩
theorem pre_c (T : Trc) (n k : Nat) (hn : n < T.rows.length) : PreT T (headLines T ++ rowsTo T.rows n ++ [35 :: Lib.itoa (n : Int)] :: chLines 0 (prev T.rows n) ((T.rows.getD n []).take k)) := by
  obtain ⟨r1, h1⟩ := pre_r T (n + 1) hn
  obtain ⟨r2, h2⟩ := chLines_pre (T.rows.getD n []) 0 k (prev T.rows n)
  refine ⟨r2 ++ r1, ?_⟩
  rw [h1, rowsTo, rowLines, h2]
  simp only [List.append_assoc, List.cons_append]
/-- a line is written -/
theorem line_step {b g n : Nat} {T : Trc} {ls : List (List Bs)} {ws : List Bs} {wsG : List Bs} {w : World} (h : IsB b (linesW ls) w) (hB : Blk w g 9 (strCells wsG)) (hn : wsG.length = n) (hl : n ≤ 1000) (hG : lineG wsG = lineW ws) (hp : PreT T (ls ++ [ws])) (ht : (trcText T).length ≤ 1000000) (hb : b ≤ w.heap.size) :
    Calls Tryd.prog 14 #[.slice (some ⟨g, 0, none⟩) n n, .pointer (some ⟨b, 0, none⟩)] w fun e w' => e = .returned (.tuple #[]) ∧ IsB b (linesW (ls ++ [ws])) w' ∧ Below b w w' := by
  have hpl := hp.len
  rw [linesW_snoc, List.length_append] at hpl
  have hj : (Lib.join wsG [32]).length ≤ (lineW ws).length := by rw [← hG]; unfold lineG; rw [List.length_append]; omega
  rw [linesW_snoc, ← hG]
  exact line_any h hB hn hl (by omega) (by omega) hb
end Go.Proofs.YtcdjkbgedmehjaaDoor
