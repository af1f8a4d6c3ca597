/- Texts of this claim, one behind another: E11, E12, E13, P1, E14. They state lemmas; each names its own conditions. -/
import Derived.Test.YtcjfelndnnhgjaaGreatDoorZ5
import Derived.Lib.ConvBytes
import Derived.Laws.IdiomStrings
namespace Go.Proofs.YtcjfelndnnhgjaaGreatDoor
set_option linter.unusedVariables false
open Go.RowKit Go.Maps

/-! # the rest of pre, plainly -/
def wIfdef : Bs := [105, 102, 100, 101, 102]
def wIfndef : Bs := [105, 102, 110, 100, 101, 102]
def wElse : Bs := [101, 108, 115, 101]
def wEndif : Bs := [101, 110, 100, 105, 102]
def wDefine : Bs := [100, 101, 102, 105, 110, 101]
def wUndef : Bs := [117, 110, 100, 101, 102]
def wInclude : Bs := [105, 110, 99, 108, 117, 100, 101]
/-- n bytes from the i-th on are blanked, but for newlines -/
def blankN (i n : Nat) (l : Bs) : Bs := l.take i ++ ((l.drop i).take n).map (fun b => if b = 10 then b else 32) ++ l.drop (i + n)
/-- two bytes: their first place -/
def cut2 (c d : UInt8) : Bs → Option Nat
  | [] => none
  | b :: r => if b = c ∧ r.head? = some d then some 0 else (cut2 c d r).map (· + 1)
/-- plain's loop: the text without comments, or where one has no end -/
def plainL (s : Bs) : Nat → Nat → Bs → Bs × Option Nat
  | 0, _, out => (out, none)
  | k + 1, i, out =>
    if i + 1 < s.length then
      if s.getD i 0 = 47 ∧ s.getD (i + 1) 0 = 47 then
        plainL s k (i + (((s.drop i).takeWhile (· ≠ 10)).length)) (blankN i (((s.drop i).takeWhile (· ≠ 10)).length) out)
      else if s.getD i 0 = 47 ∧ s.getD (i + 1) 0 = 42 then
        match cut2 42 47 (s.drop (i + 2)) with
        | none => ([], some i)
        | some j => plainL s k (i + 2 + j + 2) (blankN i (2 + j + 2) out)
      else plainL s k (i + 1) out
    else (out, none)
def plainP (s : Bs) : Bs × Option Nat := plainL s (s.length + 1) 0 s
def condP (S : Xs) (P : Fs) (word rest : Bs) (f l c : Int) (apart : Bool) : Xs × Fs :=
  if word = wIfdef ∨ word = wIfndef then
    if apart = false ∨ rest = [] ∨ name rest ≠ rest then (failP S f l c 5, P)
    else (S, { P with conds := P.conds ++ [⟨f, l, c, countsP P && (decide (0 < S.defs rest) == decide (word = wIfdef)), countsP P, false⟩] })
  else if word = wElse then
    if rest ≠ [] ∨ P.conds.length = 0 ∨ (P.conds.getD (P.conds.length - 1) default).turned = true then (failP S f l c 5, P)
    else (S, { P with conds := P.conds.modify (P.conds.length - 1) fun q => { q with counts := q.ahead && !q.counts, turned := true } })
  else if rest ≠ [] ∨ P.conds.length = 0 then (failP S f l c 5, P)
  else (S, { P with conds := P.conds.take (P.conds.length - 1) })
def setDef (S : Xs) (n : Bs) (k : Nat) : Xs := { S with defs := fun x => if x = n then k else S.defs x }
/-- include, given how a file is expanded and how a name is found (0: not) -/
def inclP (file : Xs → Nat → Int → Int → Int → Xs) (find : Bs → Nat) (S : Xs) (rest : Bs) (f l c : Int) : Xs :=
  if rest.length < 2 ∨ rest.getD 0 0 ≠ 34 ∨ (cutB 34 (rest.drop 1)).map (fun q => q.1.length) ≠ some (rest.length - 2) then failP S f l c 5
  else if find ((rest.take (rest.length - 1)).drop 1) = 0 then failP S f l c 9
  else file S (find ((rest.take (rest.length - 1)).drop 1)) f l c
def defP (file : Xs → Nat → Int → Int → Int → Xs) (find : Bs → Nat) (S : Xs) (word rest : Bs) (f l c : Int) (apart : Bool) : Xs :=
  if word = wInclude then inclP file find S rest f l c
  else if apart = false ∨ name rest = [] ∨ (rest.drop (name rest).length ≠ [] ∧ (word = wUndef ∨ isBlank ((rest.drop (name rest).length).getD 0 0) = false)) then failP S f l c 5
  else if word = wUndef then setDef S (name rest) 0
  else setDef { S with texts := S.texts ++ [trim (rest.drop (name rest).length)] } (name rest) (S.texts.length + 1)
/-- directive: is it one, and what it does -/
def dirP (file : Xs → Nat → Int → Int → Int → Xs) (find : Bs → Nat) (S : Xs) (P : Fs) (s : Bs) (f l c : Int) : Bool × Xs × Fs :=
  let word := name s
  let tail := s.drop word.length
  let rest := trim tail
  let apart := decide (tail = []) || isBlank (tail.getD 0 0)
  if word = wIfdef ∨ word = wIfndef ∨ word = wElse ∨ word = wEndif then (true, condP S P word rest f l c apart)
  else if word = wDefine ∨ word = wUndef ∨ word = wInclude then (true, if countsP P = true then defP file find S word rest f l c apart else S, P)
  else (!countsP P, S, P)
def lineP (file : Xs → Nat → Int → Int → Int → Xs) (find : Bs → Nat) (num : Nat) (T : Bs) (s : Bs) (m : Nat) (ended : Bool) (S : Xs) (P : Fs) : Xs × Fs :=
  let rest := trimL s
  let at_ := m + s.length - rest.length
  let pc := ownPc num T (if ended = true then [10] else []) (m + s.length)
  let d := if rest ≠ [] ∧ rest.getD 0 0 = 96 then dirP file find S P (rest.drop 1) ((num : Int) + 1) (plTo T at_).1 (plTo T at_).2 else (false, S, P)
  if d.1 = true then
    if countsP d.2.2 = true then textP d.2.1 { d.2.2 with joins := false } pc else (d.2.1, { d.2.2 with joins := false })
  else if countsP d.2.2 = true then textP (usesP num T s m d.2.1 d.2.2).1 (usesP num T s m d.2.1 d.2.2).2 pc
  else (d.2.1, d.2.2)
/-- the lines of a text without comments (X) of a file (T) -/
def linesL (file : Xs → Nat → Int → Int → Int → Xs) (find : Bs → Nat) (num : Nat) (T X : Bs) : Nat → Nat → Xs → Fs → Xs × Fs
  | 0, _, S, P => (S, P)
  | k + 1, m, S, P => if m < X.length ∧ S.err = 0 then
      match cutB 10 (X.drop m) with
      | none => lineP file find num T (X.drop m) m false S P
      | some (x, y) => linesL file find num T X k (m + x.length + 1) (lineP file find num T x m true S P).1 (lineP file find num T x m true S P).2
    else (S, P)
def fileP (texts : Nat → Bs) (find : Bs → Nat) : Nat → Xs → Nat → Int → Int → Int → Xs
  | 0, S, _, f, l, c => failP { S with files := S.files + 1 } f l c 8
  | d + 1, S, num, f, l, c =>
    match plainP (texts num) with
    | (_, some bad) => failP { S with files := S.files + 1 } num (plTo (texts num) bad).1 (plTo (texts num) bad).2 6
    | (X, none) =>
      let r := linesL (fileP texts find d) find (num - 1) (texts num) X (X.length + 1) 0 { S with files := S.files + 1 } ⟨num - 1, [], false⟩
      let S3 := if r.2.conds.length = 0 then r.1 else failP r.1 (r.2.conds.getD (r.2.conds.length - 1) default).f (r.2.conds.getD (r.2.conds.length - 1) default).l (r.2.conds.getD (r.2.conds.length - 1) default).c 6
      { S3 with files := S3.files - 1 }
def x0 : Xs := ⟨fun _ => 0, [], [], 0, 0, 0, 0, 0, 0⟩
/-- Expand: the pieces, the place, the error -/
def expandP (texts : Nat → Bs) (find : Bs → Nat) (top : Bs) : List Pc × (Int × Int × Int) × Int :=
  if find top = 0 then ([], (0, 0, 0), 9)
  else let S := fileP texts find 8 x0 (find top) 0 0 0
    if S.err ≠ 0 then ([], (S.f, S.l, S.c), S.err) else (S.out, (0, 0, 0), 0)
end Go.Proofs.YtcjfelndnnhgjaaGreatDoor
namespace Go.Proofs.YtcjfelndnnhgjaaGreatDoor
set_option linter.unusedVariables false
open Go.RowKit Go.Maps

/-! # plain: what the library's searches say of the model -/
theorem tw_cut (c : UInt8) : ∀ l : Bs, (l.takeWhile (fun b => decide (b ≠ c))).length = match cutB c l with
    | none => l.length
    | some (x, _) => x.length
  | [] => rfl
  | b :: r => by
    have ih := tw_cut c r
    unfold cutB
    by_cases h : b = c
    · simp [h]
    · rw [if_neg h, List.takeWhile_cons, if_pos (by simpa using h), List.length_cons, ih]
      cases cutB c r with
      | none => rfl
      | some q => rfl
theorem cut2_index (c d : UInt8) : ∀ l : Bs, Lib.index l [c, d] = match cut2 c d l with
    | none => -1
    | some j => (j : Int)
  | [] => rfl
  | b :: r => by
    have ih := cut2_index c d r
    have hpre : List.isPrefixOf [c, d] (b :: r) = decide (b = c ∧ r.head? = some d) := by
      cases r with
      | nil => simp [List.isPrefixOf]
      | cons e r' =>
        simp only [List.isPrefixOf, List.head?_cons, Option.some.injEq]
        by_cases h1 : b = c
        · by_cases h2 : e = d
          · subst h1 h2; simp
          · have h2' : ¬ d = e := fun h => h2 h.symm
            simp [h1, h2, h2']
        · have h1' : ¬ c = b := fun h => h1 h.symm
          simp [h1, h1']
    unfold cut2 Lib.index
    rw [hpre]
    by_cases h : b = c ∧ r.head? = some d
    · rw [if_pos h, decide_eq_true h, if_pos rfl]; rfl
    · rw [if_neg h, decide_eq_false h, if_neg (by simp), ih]
      cases cut2 c d r with
      | none => simp
      | some j =>
        simp only [Option.map_some]
        have : ¬ (((j : Int) == -1) = true) := by simp
        rw [if_neg this]; rfl
theorem cut2_lt {c d : UInt8} : ∀ {l : Bs} {j : Nat}, cut2 c d l = some j → j + 2 ≤ l.length
  | [], _, h => by cases h
  | b :: r, j, h => by
    unfold cut2 at h
    split at h
    · rename_i hh
      cases h
      cases r with
      | nil => simp at hh
      | cons _ _ => simp
    · cases hq : cut2 c d r with
      | none => rw [hq] at h; cases h
      | some q =>
        rw [hq] at h
        simp only [Option.map_some, Option.some.injEq] at h
        have := cut2_lt hq
        simp only [List.length_cons]; omega
theorem blankN_len (i n : Nat) (l : Bs) (h : i + n ≤ l.length) : (blankN i n l).length = l.length := by
  unfold blankN
  simp only [List.length_append, List.length_map, List.length_take, List.length_drop]
  omega
end Go.Proofs.YtcjfelndnnhgjaaGreatDoor
namespace Go.Proofs.YtcjfelndnnhgjaaGreatDoor
set_option linter.unusedVariables false
open Go.RowKit Go.Maps

theorem infoCd : (Tryz.prog.info? 90).map (fun i => (i.zero, i.size)) = some (some (.agg #[.int .i64 0, .int .i64 0, .int .i64 0, .bool false, .bool false, .bool false]), 6) := by kernel_rfl
/-- a condition is appended -/
theorem FAt.app {base bx bf : Nat} {w1 w3 : World} {P : Fs} {vc : Value} (h : FAt base bx bf w1 P vc) (p : Cd) {o : Obj} {n g cap : Nat} (hn : P.conds.length = n) (hbd : n + 1 ≤ 100000)
    (happ : App base 90 6 (w1.alloc o).drew vc n 1 (condCells P.conds ++ cdCells p) g cap w3) :
    FAt base bx bf (w3.setCell ⟨bf, 2, none⟩ (.slice (some ⟨g, 0, none⟩) (n + 1) cap)) { P with conds := P.conds ++ [p] } (.slice (some ⟨g, 0, none⟩) (n + 1) cap) ∧
      Upd (fFoot bf vc) (fFoot bf (.slice (some ⟨g, 0, none⟩) (n + 1) cap)) w1 (w3.setCell ⟨bf, 2, none⟩ (.slice (some ⟨g, 0, none⟩) (n + 1) cap)) := by
  subst hn
  have hlt := h.lt
  have hgn : g ≠ bf := by
    rcases happ.at_ with hg | hg
    · exact fun e => h.ne (e ▸ hg)
    · have hg' : g = (w1.alloc o).heap.size := hg
      rw [World.size_alloc] at hg'
      have := (hlt bf (.inl rfl)).2; omega
  have hold : ∀ j, j < w1.heap.size → vc.ownBlock ≠ some j → w3.heap[j]? = w1.heap[j]? := fun j hj hne =>
    (happ.old (by show j < (w1.alloc o).heap.size; rw [World.size_alloc]; omega) hne).trans (heap_alloc_old _ _ hj)
  have hset : ∀ j, j ≠ bf → (w3.setCell ⟨bf, 2, none⟩ (.slice (some ⟨g, 0, none⟩) (P.conds.length + 1) cap)).heap[j]? = w3.heap[j]? := fun j hj => Below.heap_setCell _ _ _ _ hj
  have hU : Upd (fFoot bf vc) (fFoot bf (.slice (some ⟨g, 0, none⟩) (P.conds.length + 1) cap)) w1 (w3.setCell ⟨bf, 2, none⟩ (.slice (some ⟨g, 0, none⟩) (P.conds.length + 1) cap)) := by
    refine ⟨happ.grown.os, happ.grown.tape, happ.grown.output, ?_, fun j hj hn => ?_, fun j hj => ?_⟩
    · have := happ.grown.size
      simp at this ⊢; omega
    · rw [hset j (fun e => hn (.inl e))]
      exact hold j hj (fun e => hn (.inr e))
    · rcases hj with rfl | hj
      · exact .inl (.inl rfl)
      · simp only [Value.ownBlock, Option.some.injEq] at hj; subst hj
        rcases happ.at_ with hg | hg
        · exact .inl (.inr hg)
        · right; have : g = (w1.alloc o).heap.size := hg; rw [World.size_alloc] at this; omega
  refine ⟨⟨?_, ?_, ?_, h.gf, ?_⟩, hU⟩
  · have hb3 : Blk w3 bf 86 _ := (hold bf (hlt bf (.inl rfl)).2 h.ne).trans h.blk
    exact hb3.set 2 _
  · rw [show ({ P with conds := P.conds ++ [p] } : Fs).conds.length = P.conds.length + 1 by simp, show ({ P with conds := P.conds ++ [p] } : Fs).conds = P.conds ++ [p] from rfl, condCells_snoc]
    exact ownsRow_keep happ.own fun q hq => by
      simp only [Value.ownBlock, Option.some.injEq] at hq; subst hq
      exact hset _ hgn
  · simp only [Value.ownBlock, ne_eq, Option.some.injEq]; exact hgn
  · show (P.conds ++ [p]).length ≤ 100000
    simp only [List.length_append, List.length_cons, List.length_nil]; omega
end Go.Proofs.YtcjfelndnnhgjaaGreatDoor
namespace Go.Proofs.YtcjfelndnnhgjaaGreatDoor
set_option linter.unusedVariables false
open Go.RowKit Go.Maps
theorem blankN_get (i n : Nat) (l : Bs) (h : i + n ≤ l.length) (k : Nat) : (blankN i n l)[k]? = if i ≤ k ∧ k < i + n then l[k]?.map (fun b => if b = 10 then b else 32) else l[k]? := by
  unfold blankN
  have hl1 : (l.take i).length = i := by rw [List.length_take]; omega
  have hl2 : (((l.drop i).take n).map (fun b : UInt8 => if b = 10 then b else 32)).length = n := by rw [List.length_map, List.length_take, List.length_drop]; omega
  by_cases h1 : k < i
  · rw [if_neg (by omega), List.append_assoc, List.getElem?_append_left (by omega), List.getElem?_take_of_lt h1]
  · by_cases h2 : k < i + n
    · rw [if_pos ⟨by omega, h2⟩, List.getElem?_append_left (by rw [List.length_append]; omega), List.getElem?_append_right (by omega), hl1, List.getElem?_map, List.getElem?_take_of_lt (by omega), List.getElem?_drop, show i + (k - i) = k by omega]
    · rw [if_neg (by omega), List.getElem?_append_right (by rw [List.length_append]; omega), List.length_append, hl1, hl2, List.getElem?_drop, show i + n + (k - (i + n)) = k by omega]
theorem two_at (s : Bs) (i : Nat) (h : i + 1 < s.length) : (s.take (i + 2)).drop i = [s.getD i 0, s.getD (i + 1) 0] := by
  rw [List.drop_take, show i + 2 - i = 2 by omega]
  have h1 : s.drop i = s.getD i 0 :: s.drop (i + 1) := by
    rw [List.drop_eq_getElem_cons (by omega : i < s.length)]
    simp [List.getD, List.getElem?_eq_getElem (by omega : i < s.length)]
  have h2 : s.drop (i + 1) = s.getD (i + 1) 0 :: s.drop (i + 2) := by
    rw [List.drop_eq_getElem_cons h]
    simp [List.getD, List.getElem?_eq_getElem h]
  rw [h1, h2]; rfl
theorem blankN_zero (i : Nat) (l : Bs) : blankN i 0 l = l := by simp [blankN]
theorem blankN_step (i n : Nat) (l : Bs) (h : i + n < l.length) : blankN i (n + 1) l = if l.getD (i + n) 0 = 10 then blankN i n l else (blankN i n l).set (i + n) 32 := by
  have hg : l[i + n]? = some (l.getD (i + n) 0) := by simp [List.getD, List.getElem?_eq_getElem h]
  split
  · rename_i h1
    apply List.ext_getElem?
    intro k
    rw [blankN_get _ _ _ (by omega), blankN_get _ _ _ (by omega)]
    by_cases hk : k = i + n
    · subst hk
      rw [if_pos (by omega), if_neg (by omega), hg, Option.map_some, if_pos h1]
    · by_cases h2 : i ≤ k ∧ k < i + n
      · rw [if_pos (by omega), if_pos h2]
      · rw [if_neg (by omega), if_neg h2]
  · rename_i h1
    apply List.ext_getElem?
    intro k
    rw [blankN_get _ _ _ (by omega), List.getElem?_set]
    by_cases hk : k = i + n
    · subst hk
      rw [if_pos (by omega), if_pos rfl, if_pos (by rw [blankN_len _ _ _ (by omega)]; exact h), hg]
      simp only [Option.map_some]
      rw [if_neg h1]
    · rw [if_neg (Ne.symm hk), blankN_get _ _ _ (by omega)]
      by_cases h2 : i ≤ k ∧ k < i + n
      · rw [if_pos (by omega), if_pos h2]
      · rw [if_neg (by omega), if_neg h2]
theorem blankN_at (i n : Nat) (l : Bs) (h : i + n < l.length) : (blankN i n l).getD (i + n) 0 = l.getD (i + n) 0 := by
  rw [List.getD, blankN_get _ _ _ (by omega), if_neg (by omega), List.getD]
/-! # plain, the law -/
/-- x is t with some bytes blanked, but no newline -/
structure BlankOf (x t : Bs) : Prop where
  len : x.length = t.length
  at_ : ∀ j, x.getD j 0 = t.getD j 0 ∨ (x.getD j 0 = 32 ∧ t.getD j 0 ≠ 10)
theorem BlankOf.refl (t : Bs) : BlankOf t t := ⟨rfl, fun _ => .inl rfl⟩
theorem BlankOf.blank {x t : Bs} (h : BlankOf x t) (i n : Nat) (hn : i + n ≤ x.length) : BlankOf (blankN i n x) t := by
  refine ⟨by rw [blankN_len _ _ _ hn]; exact h.len, fun j => ?_⟩
  have ha := h.at_ j
  rw [List.getD, blankN_get _ _ _ hn]
  by_cases hj : i ≤ j ∧ j < i + n
  · rw [if_pos hj]
    have hg : x[j]? = some (x.getD j 0) := by simp [List.getD, List.getElem?_eq_getElem (show j < x.length by omega)]
    rw [hg, Option.map_some, Option.getD_some]
    split
    · exact ha
    · rename_i h10
      refine .inr ⟨rfl, ?_⟩
      rcases ha with e | ⟨_, e⟩
      · rw [← e]; exact h10
      · exact e
  · rw [if_neg hj]; exact ha
theorem tw_len (s : Bs) (i : Nat) : i ≤ s.length → i + ((s.drop i).takeWhile (· ≠ 10)).length ≤ s.length := by
  intro hi
  have := (List.takeWhile_prefix (l := s.drop i) (fun b : UInt8 => decide (b ≠ 10))).length_le
  rw [List.length_drop] at this; omega
theorem plainL_blank (s : Bs) : ∀ (k i : Nat) (out X : Bs), i ≤ s.length → BlankOf out s → plainL s k i out = (X, none) → BlankOf X s
  | 0, i, out, X, hi, hb, h => by unfold plainL at h; cases h; exact hb
  | k + 1, i, out, X, hi, hb, h => by
    unfold plainL at h
    split at h
    · rename_i h1
      split at h
      · have hl := tw_len s i hi
        exact plainL_blank s k _ _ X hl (hb.blank _ _ (by rw [hb.len]; exact hl)) h
      · split at h
        · split at h
          · cases h
          · rename_i j hj
            have := cut2_lt hj
            rw [List.length_drop] at this
            exact plainL_blank s k _ _ X (by omega) (hb.blank _ _ (by rw [hb.len]; omega)) h
        · exact plainL_blank s k _ _ X (by omega) hb h
    · cases h; exact hb
theorem plainP_blank {s X : Bs} (h : plainP s = (X, none)) : BlankOf X s := plainL_blank s _ 0 s X (Nat.zero_le _) (BlankOf.refl s) h
theorem getD_mem' {s : Bs} {i : Nat} (h : i < s.length) : s.getD i 0 ∈ s := by
  simp [List.getD, List.getElem?_eq_getElem h]
theorem plainL_free (s : Bs) (hs : ∀ b ∈ s, b ≠ 47) : ∀ (k i : Nat) (out : Bs), plainL s k i out = (out, none)
  | 0, _, _ => rfl
  | k + 1, i, out => by
    unfold plainL
    split
    · rename_i h1
      have h2 : s.getD i 0 ≠ 47 := hs _ (getD_mem' (by omega))
      rw [if_neg (fun h => h2 h.1), if_neg (fun h => h2 h.1)]
      exact plainL_free s hs k _ out
    · rfl
theorem plainP_free {s : Bs} (hs : ∀ b ∈ s, b ≠ 47) : plainP s = (s, none) := plainL_free s hs _ _ _
/-- where a comment has no end -/
def badL (s : Bs) : Nat → Nat → Option Nat
  | 0, _ => none
  | k + 1, i =>
    if i + 1 < s.length then
      if s.getD i 0 = 47 ∧ s.getD (i + 1) 0 = 47 then badL s k (i + (((s.drop i).takeWhile (· ≠ 10)).length))
      else if s.getD i 0 = 47 ∧ s.getD (i + 1) 0 = 42 then
        match cut2 42 47 (s.drop (i + 2)) with
        | none => some i
        | some j => badL s k (i + 2 + j + 2)
      else badL s k (i + 1)
    else none
theorem plainL_bad (s : Bs) : ∀ (k i : Nat) (out : Bs), (plainL s k i out).2 = badL s k i
  | 0, _, _ => rfl
  | k + 1, i, out => by
    unfold plainL badL
    split
    · split
      · exact plainL_bad s k _ _
      · split
        · split
          · rename_i h; first | rfl | rw [h]
          · rename_i j h; first | exact plainL_bad s k _ _ | (rw [h]; exact plainL_bad s k _ _)
        · exact plainL_bad s k _ _
    · rfl
theorem tw_pos {s : Bs} {i : Nat} (h : i < s.length) (h1 : s.getD i 0 = 47) : 0 < ((s.drop i).takeWhile (· ≠ 10)).length := by
  have : s.drop i = s.getD i 0 :: s.drop (i + 1) := by
    rw [List.drop_eq_getElem_cons h]
    simp [List.getD, List.getElem?_eq_getElem h]
  rw [this, h1]; simp
theorem badL_fuel (s : Bs) : ∀ (k k' i : Nat), s.length < i + k → s.length < i + k' → badL s k i = badL s k' i
  | 0, 0, _, _, _ => rfl
  | 0, k' + 1, i, h, _ => by unfold badL; rw [if_neg (by omega)]
  | k + 1, 0, i, _, h => by unfold badL; rw [if_neg (by omega)]
  | k + 1, k' + 1, i, h, h' => by
    unfold badL
    split
    · rename_i hi
      split
      · rename_i h1
        have := tw_pos (by omega : i < s.length) h1.1
        exact badL_fuel s k k' _ (by omega) (by omega)
      · split
        · split
          · rfl
          · exact badL_fuel s k k' _ (by omega) (by omega)
        · exact badL_fuel s k k' _ (by omega) (by omega)
    · rfl
theorem plainP_bad (s : Bs) : (plainP s).2 = badL s (s.length + 1) 0 := plainL_bad _ _ _ _
theorem badL_app (p t : Bs) : ∀ (k i : Nat), badL (p ++ t) k (p.length + i) = (badL t k i).map (p.length + ·)
  | 0, _ => rfl
  | k + 1, i => by
    have e0 : (p ++ t).getD (p.length + i) 0 = t.getD i 0 := by
      rw [List.getD, List.getElem?_append_right (by omega), Nat.add_sub_cancel_left, List.getD]
    have e1 : (p ++ t).getD (p.length + i + 1) 0 = t.getD (i + 1) 0 := by
      rw [Nat.add_assoc, List.getD, List.getElem?_append_right (by omega), Nat.add_sub_cancel_left, List.getD]
    have d0 : (p ++ t).drop (p.length + i) = t.drop i := by rw [← List.drop_drop, List.drop_left]
    have d2 : (p ++ t).drop (p.length + i + 2) = t.drop (i + 2) := by rw [Nat.add_assoc, ← List.drop_drop, List.drop_left]
    unfold badL
    rw [e0, e1, d0, d2]
    by_cases h : i + 1 < t.length
    · rw [if_pos (by rw [List.length_append]; omega), if_pos h]
      split
      · rw [Nat.add_assoc]; exact badL_app p t k _
      · split
        · cases cut2 42 47 (t.drop (i + 2)) with
          | none => rfl
          | some j =>
            show badL (p ++ t) k (p.length + i + 2 + j + 2) = _
            rw [show p.length + i + 2 + j + 2 = p.length + (i + 2 + j + 2) by omega]
            exact badL_app p t k _
        · rw [Nat.add_assoc]; exact badL_app p t k _
    · rw [if_neg (by rw [List.length_append]; omega), if_neg h]; rfl
theorem badL_skip (p t : Bs) (hp : ∀ b ∈ p, b ≠ 47) : ∀ (n i k : Nat), i + n = p.length → (p ++ t).length < i + (k + n) → badL (p ++ t) (k + n) i = badL (p ++ t) k p.length
  | 0, i, k, h, _ => by rw [show i = p.length by omega]; rfl
  | n + 1, i, k, h, hk => by
    rw [show k + (n + 1) = (k + n) + 1 by omega]
    conv => lhs; unfold badL
    have h2 : (p ++ t).getD i 0 ≠ 47 := by
      rw [List.getD, List.getElem?_append_left (by omega), ← List.getD]
      exact hp _ (getD_mem' (by omega))
    by_cases h3 : i + 1 < (p ++ t).length
    · rw [if_pos h3, if_neg (fun h => h2 h.1), if_neg (fun h => h2 h.1)]
      exact badL_skip p t hp n (i + 1) k (by omega) (by omega)
    · rw [if_neg h3]
      rw [List.length_append] at h3
      cases k with
      | zero => rfl
      | succ k =>
        unfold badL
        rw [if_neg (by rw [List.length_append]; omega)]
/-- a head without slashes changes nothing but the place -/
theorem plainP_head (p t : Bs) (hp : ∀ b ∈ p, b ≠ 47) : (plainP (p ++ t)).2 = ((plainP t).2).map (p.length + ·) := by
  rw [plainP_bad, plainP_bad, ← badL_app p t _ 0, Nat.add_zero, List.length_append, show p.length + t.length + 1 = (t.length + 1) + p.length by omega]
  exact badL_skip p t hp p.length 0 (t.length + 1) (by omega) (by rw [List.length_append]; omega)
end Go.Proofs.YtcjfelndnnhgjaaGreatDoor
namespace Go.Proofs.YtcjfelndnnhgjaaGreatDoor
set_option linter.unusedVariables false
open Go.RowKit Go.Maps

/-- the library's variable that the searches read holds a number -/
def Max (w : World) : Prop := ∃ m, w.cell? ⟨0, 0, none⟩ = some (.int .i64 m)
theorem Max.below {w w' : World} (h : Max w) (hb : Below w.heap.size w w') : Max w' := by
  obtain ⟨m, hm⟩ := h
  exact ⟨m, (hb.cell (World.block_lt_of_cell? _ _ hm)).trans hm⟩
theorem bstr_inj {a b : Bs} (h : bstr a = bstr b) : a = b := by
  have : (bstr a).data.toList = (bstr b).data.toList := by rw [h]
  simpa [bstr] using this
/-! # the bytes of a string, in a block of one's own -/
def byV (b : UInt8) : Value := .int .u8 (b.toNat : Int)
def Cv (w : World) (b : Nat) (l : Bs) : Prop := ∃ z f, w.heap[b]? = some (.cells (l.map byV ++ z).toArray 5 f) ∧ l.length ≤ f.1
theorem Cv.lt {w : World} {b : Nat} {l : Bs} (h : Cv w b l) : b < w.heap.size := by
  obtain ⟨z, f, h, _⟩ := h
  exact some_lt h
theorem Cv.cell {w : World} {b : Nat} {l : Bs} (h : Cv w b l) (i : Nat) (hi : i < l.length) : w.cell? ⟨b, i, none⟩ = some (.int .u8 ((l.getD i 0).toNat : Int)) := by
  obtain ⟨z, f, h, _⟩ := h
  have : (l.map byV ++ z)[i]? = some (byV (l.getD i 0)) := by
    rw [List.getElem?_append_left (by simpa using hi), List.getElem?_map]
    simp [List.getD, List.getElem?_eq_getElem hi]
  simp [World.cell?, h, this, byV]
theorem Cv.frz {w : World} {b : Nat} {l : Bs} (h : Cv w b l) (i : Nat) (hi : i < l.length) : w.frozen? ⟨b, i, none⟩ = false := by
  obtain ⟨z, f, h, hf⟩ := h
  obtain ⟨f1, f2⟩ := f
  have : ¬ f1 ≤ i := by have : l.length ≤ f1 := hf; omega
  simp [World.frozen?, h, this]
theorem Cv.set {w : World} {b : Nat} {l : Bs} (h : Cv w b l) (i : Nat) (hi : i < l.length) (c : UInt8) : Cv (w.setCell ⟨b, i, none⟩ (.int .u8 (c.toNat : Int))) b (l.set i c) := by
  obtain ⟨z, f, h, hf⟩ := h
  refine ⟨z, f, ?_, by simpa using hf⟩
  have : ((l.map byV ++ z).set i (byV c)) = (l.set i c).map byV ++ z := by
    rw [List.set_append_left _ _ (by simpa using hi), List.map_set]
  rw [← this]
  simp [World.setCell, Array.getElem?_modify, h, byV]
theorem Cv.keep {w w' : World} {b : Nat} {l : Bs} (h : Cv w b l) (hb : w'.heap[b]? = w.heap[b]?) : Cv w' b l := by
  obtain ⟨z, f, h, hf⟩ := h
  exact ⟨z, f, hb.trans h, hf⟩
theorem Cv.back {w : World} {b : Nat} {l : Bs} (h : Cv w b l) (cap : Nat) : (convert 96 9 (.slice (some ⟨b, 0, none⟩) l.length cap)).run Tryz.prog w = .ok (.string (bstr l)) w :=
  run_convert_bytes_back w 96 9 5 ⟨b, 0, none⟩ cap l Tryz.underlying96 Tryz.underlying5 Tryz.underlying9 (fun j hj => by
    have hadd : (⟨b, 0, none⟩ : Addr).add j = ⟨b, j, none⟩ := by unfold Addr.add; split <;> simp_all
    rw [hadd, h.cell j hj]
    simp [List.getD, List.getElem?_eq_getElem hj])
theorem cv_new (w : World) (l : Bs) : Cv (Lib.bytesWorld w 5 (bstr l)) w.heap.size l ∧ Below w.heap.size w (Lib.bytesWorld w 5 (bstr l)) := by
  refine ⟨⟨(Array.replicate (grownCap w (bstr l).size 0 5 - (bstr l).size) (.int .u8 0)).toList, ((Lib.bytesCells w 5 (bstr l)).size, (Lib.bytesCells w 5 (bstr l)).size + 1), ?_, ?_⟩, ?_⟩
  · rw [Lib.bytesWorld_at_new]
    have : Lib.bytesCells w 5 (bstr l) = (l.map byV ++ (Array.replicate (grownCap w (bstr l).size 0 5 - (bstr l).size) (Value.int .u8 0)).toList).toArray := by
      apply Array.toList_inj.1
      simp [Lib.bytesCells, bstr, byV]
    rw [this]
  · show l.length ≤ (Lib.bytesCells w 5 (bstr l)).size
    have : (bstr l).data.size = l.length := bstr_size l
    simp [Lib.bytesCells, this]
  · refine ⟨rfl, rfl, rfl, by rw [Lib.bytesWorld_size]; omega, fun k hk => Lib.bytesWorld_at_old w _ _ k hk⟩

/-! # plain -/
def badV : Option Nat → Int
  | none => -1
  | some i => i
structure PL (w wr : World) (b : Nat) (s : Bs) (R : Bs × Option Nat) (i : Nat) (out : Bs) : Prop where
  cv : Cv wr b out
  bel : Below w.heap.size w wr
  len : out.length = s.length
  le : i ≤ s.length
  res : ∃ k, s.length < i + k ∧ plainL s k i out = R
/-- a comment under way -/
structure BL (w wr : World) (b : Nat) (s out : Bs) (i n j : Nat) : Prop where
  cv : Cv wr b (blankN i j out)
  bel : Below w.heap.size w wr
  le : j ≤ n
set_option maxRecDepth 100000 in
set_option maxHeartbeats 4000000 in
theorem plain_any {w : World} (s : Bs) (hs : s.length ≤ 100000) (hM : Max w) :
    Calls Tryz.prog 27 #[.string (bstr s)] w fun e w' => e = .returned (.tuple #[.string (bstr (plainP s).1), .int .i64 (badV (plainP s).2)]) ∧ Below w.heap.size w w' := by
  have hcv := Lib.run_convert_string_bytes (P := Tryz.prog) w 9 96 5 (bstr s) Tryz.underlying9 Tryz.underlying96 Tryz.underlying5
  obtain ⟨hnew, hbel⟩ := cv_new w s
  obtain ⟨cap, hcap⟩ : ∃ cap, grownCap w (bstr s).size 0 5 = cap := ⟨_, rfl⟩
  rw [hcap] at hcv
  obtain ⟨W0, hW0⟩ : ∃ W0, Lib.bytesWorld w 5 (bstr s) = W0 := ⟨_, rfl⟩
  rw [hW0] at hcv hnew hbel
  obtain ⟨S, hS⟩ : ∃ S, bstr s = S := ⟨_, rfl⟩
  rw [hS] at hcv ⊢
  obtain ⟨R, hR⟩ : ∃ R, plainP s = R := ⟨_, rfl⟩
  rw [hR]
  have HP : Hid (PL w W0 w.heap.size s R 0 s) := Lib.hid ⟨hnew, hbel, rfl, Nat.zero_le _, s.length + 1, by omega, hR⟩
  have hsz : S.size = s.length := by rw [← hS, bstr_size]
  have hsi : (S.size : Int) ≤ 100000 := by omega
  have HS := Lib.hid (And.intro hS (And.intro hsz (And.intro hs hM)))
  clear hnew hbel hcap hW0 hR hS hsz hs hM
  go_enter Tryz.func27, Tryz.ntmps27
  go_wp2_with fail
  go_loopw [5] (fun iv wr => ∃ (i : Nat) (out : Bs), iv = .int .i64 i ∧ PL w wr w.heap.size s R i out) (fun iv _ => S.size - (intOf iv).toNat)
  case atStart => exact ⟨0, s, rfl, HP.out⟩
  case round =>
    obtain ⟨i, out, rfl, hpl⟩ := hrel
    have H1 := Lib.hid hpl
    have hiw : IntKind.i64.wrap ((i : Int) + 1) = (i : Int) + 1 := i64_of (by have := hpl.le; have := HS.out; omega)
    clear hpl
    by_cases hi : i + 1 < s.length
    · have hi1 : (i : Int) + 1 < (S.size : Int) := by have := HS.out; omega
      have hiw2 : IntKind.i64.wrap ((i : Int) + 2) = (i : Int) + 2 := i64_of (by have := HS.out; omega)
      have hil : (i : Int) + 2 ≤ (S.size : Int) := by have := HS.out; omega
      have HI := Lib.hid hi
      clear hi
      obtain ⟨TW, hTW⟩ : ∃ TW, S.extract i (i + 2) = TW := ⟨_, rfl⟩
      have hsl : (Instr.slice 9 (Value.string S) (some (Value.int IntKind.i64 i)) (some (Value.int IntKind.i64 ((i : Int) + 2))) none).run Tryz.prog wr = .ok (.string TW) wr := by
        have h := run_slice_string (P := Tryz.prog) (w := wr) 9 S .i64 .i64 i ((i : Int) + 2) Tryz.underlying9 (by omega) (by omega) (by omega)
        rw [h, ← hTW]; congr 3
      have htw : TW.toList = [s.getD i 0, s.getD (i + 1) 0] := by
        rw [← hTW, ← HS.out.1, bstr_extract, two_at s i HI.out, ByteArray.toList_eq]; rfl
      obtain ⟨k0, hk0, hr0⟩ := H1.out.res
      obtain ⟨k, rfl⟩ : ∃ k, k0 = k + 1 := ⟨k0 - 1, by have := H1.out.le; omega⟩
      unfold plainL at hr0
      rw [if_pos HI.out] at hr0
      have hil0 : (i : Int) < (S.size : Int) := by omega
      have hlen := HS.out.2.1
      clear hTW
      by_cases hc1 : s.getD i 0 = 47 ∧ s.getD (i + 1) 0 = 47
      · have hq1 : (TW.toList == [47, 47]) = true := by rw [htw, hc1.1, hc1.2]; rfl
        rw [if_pos hc1] at hr0
        obtain ⟨n, hn⟩ : ∃ n, ((s.drop i).takeWhile (· ≠ 10)).length = n := ⟨_, rfl⟩
        rw [hn] at hr0
        have hnp : 0 < n := by rw [← hn]; exact tw_pos (by have := HI.out; omega) hc1.1
        have hnl : i + n ≤ s.length := by rw [← hn]; exact tw_len s i H1.out.le
        have hcut := tw_cut 10 (s.drop i)
        have hIB := Tryz.strings_IndexByte (S.extract i S.size) 10 wr
        have hdl : (S.extract i S.size).data.toList = s.drop i := by rw [hlen, ← HS.out.1, bstr_extract, List.take_length]; simp [bstr]
        rw [hdl] at hIB
        have hcb := cutB_index 10 (s.drop i)
        have hres : Hid (s.length < i + n + k ∧ plainL s k (i + n) (blankN i n out) = R) := Lib.hid ⟨by omega, hr0⟩
        cases hq : cutB 10 (s.drop i) with
        | none =>
          rw [hq] at hcut hcb
          have hneg : Lib.indexByte (s.drop i) (10 : Int).toNat.toUInt8 = -1 := hcb
          rw [hneg] at hIB
          have HIB := Lib.hid hIB
          have hto : Hid (i + n = S.size) := Lib.hid (by
            have h1 : n = (s.drop i).length := hn.symm.trans hcut
            rw [List.length_drop] at h1
            omega)
          have HN := Lib.hid (And.intro hnp hnl)
          clear hq hcut hcb hneg hIB hdl hn hnp hnl hr0 hk0 hc1 htw hlen
          go_wp2_with fail
          refine HIB.out.mono ?_; rintro e w2 ⟨rfl, rfl⟩
          go_wp2_with fail
          go_loopw [5] (fun iv wr2 => ∃ (j : Nat), iv = .int .i64 ((i + j : Nat) : Int) ∧ BL w wr2 w.heap.size s out i n j) (fun iv _ => S.size - (intOf iv).toNat)
          case atStart => exact ⟨0, rfl, by rw [blankN_zero]; exact H1.out.cv, H1.out.bel, Nat.zero_le _⟩
          case round =>
            obtain ⟨j, rfl, hbl⟩ := hrel
            have H2 := Lib.hid hbl
            clear hbl
            obtain ⟨q, hq⟩ : ∃ q, i + j = q := ⟨_, rfl⟩
            rw [hq]
            have hqw : IntKind.i64.wrap ((q : Int) + 1) = (q : Int) + 1 := i64_of (by have := H2.out.le; have := HN.out; have := HS.out; omega)
            by_cases hj : j < n
            · have hqt : (q : Int) < ((S.size : Nat) : Int) := by have := hto.out; omega
              have hqs : (q : Int) < (S.size : Int) := by have := HN.out; have := HS.out; omega
              have hln : i + j < out.length := by have := H1.out.len; have := HN.out; omega
              have hbn : (blankN i j out).length = out.length := blankN_len _ _ _ (by omega)
              have cc := H2.out.cv.cell (i + j) (by rw [hbn]; exact hln)
              have cf := H2.out.cv.frz (i + j) (by rw [hbn]; exact hln)
              have cst := H2.out.cv.set (i + j) (by rw [hbn]; exact hln) 32
              rw [blankN_at _ _ _ hln] at cc
              have hst := blankN_step i j out hln
              obtain ⟨cb, hcb⟩ : ∃ cb, out.getD (i + j) 0 = cb := ⟨_, rfl⟩
              rw [hcb] at cc hst
              rw [hq] at cc cf cst hst
              have hbel3 := H2.out.bel.setCell (show w.heap.size ≤ (⟨w.heap.size, q, none⟩ : Addr).block from Nat.le_refl _) (.int .u8 ((32 : UInt8).toNat : Int))
              by_cases h10 : cb = 10
              · subst h10
                rw [if_pos rfl] at hst
                have HT := Lib.hid (And.intro hst (And.intro hq hj))
                clear hst hq hj cst hbel3 hln hbn hcb
                go_wp2_with fail
                go_round
                case rel => exact ⟨j + 1, by rw [← Nat.add_assoc, HT.out.2.1]; rfl, by rw [HT.out.1]; exact H2.out.cv, H2.out.bel, HT.out.2.2⟩
                case measure =>
                  have e := hto.out
                  have hjn := HT.out.2.2
                  have hqq := HT.out.2.1
                  show S.size - ((q : Int) + 1).toNat < S.size - (q : Int).toNat
                  omega
              · rw [if_neg h10] at hst
                have hcn : (((cb.toNat : Nat) : Int) == 10) = false := by
                  have : cb.toNat ≠ 10 := fun e => h10 (UInt8.toNat_inj.1 e)
                  simp; omega
                have HT := Lib.hid (And.intro hst (And.intro hq (And.intro hj (And.intro cst hbel3))))
                clear hst hq hj h10 cst hbel3 hln hbn hcb
                go_wp2_with fail
                go_round
                case rel => exact ⟨j + 1, by rw [← Nat.add_assoc, HT.out.2.1]; rfl, by rw [HT.out.1]; exact HT.out.2.2.2.1, HT.out.2.2.2.2, HT.out.2.2.1⟩
                case measure =>
                  have e := hto.out
                  have hjn := HT.out.2.2.1
                  have hqq := HT.out.2.1
                  show S.size - ((q : Int) + 1).toNat < S.size - (q : Int).toNat
                  omega
            · have hjn : j = n := by have := H2.out.le; omega
              have hqt : decide (q < S.size) = false := decide_eq_false (by have := hto.out; omega)
              have hqt2 : decide ((q : Int) < ((S.size : Nat) : Int)) = false := decide_eq_false (by have := hto.out; omega)
              have hqm : IntKind.i64.wrap ((q : Int) - 1) = (q : Int) - 1 := i64_of (by have := HN.out; have := HS.out; omega)
              have hqn : IntKind.i64.wrap (q : Int) = (q : Int) := by rw [i64_of (by have := HN.out; have := HS.out; omega)]
              have HQ := Lib.hid (And.intro hq hjn)
              clear hjn hj hq hiw hi1
              go_wp2_with fail
              obtain ⟨hq1, hq2⟩ := HQ.out
              subst hq2
              refine ⟨⟨q, blankN i j out, rfl, H2.out.cv, H2.out.bel, ?_, ?_, ⟨k, ?_, ?_⟩⟩, ?_⟩
              · rw [blankN_len _ _ _ (by rw [H1.out.len]; exact HN.out.2)]; exact H1.out.len
              · have := HN.out; omega
              · rw [← hq1]; exact hres.out.1
              · rw [← hq1]; exact hres.out.2
              · have := HN.out
                have := HS.out
                show S.size - (q : Int).toNat < S.size - (i : Int).toNat
                omega
        | some xy =>
          obtain ⟨x, y⟩ := xy
          rw [hq] at hcut hcb
          have hpos : Lib.indexByte (s.drop i) (10 : Int).toNat.toUInt8 = (n : Int) := by rw [← hn]; exact hcb.2.trans (by rw [hcut])
          rw [hpos] at hIB
          have HIB := Lib.hid hIB
          obtain ⟨t, ht⟩ : ∃ t, i + n = t := ⟨_, rfl⟩
          have hto : Hid (i + n = t) := Lib.hid ht
          have htw2 : IntKind.i64.wrap ((i : Int) + (n : Int)) = (t : Int) := by rw [i64_of (by omega)]; omega
          have HN := Lib.hid (And.intro hnp hnl)
          clear hq hcut hcb hpos hIB hdl hn hnp hnl hr0 hk0 hc1 htw hlen ht
          go_wp2_with fail
          refine HIB.out.mono ?_; rintro e w2 ⟨rfl, rfl⟩
          go_wp2_with fail
          go_loopw [5] (fun iv wr2 => ∃ (j : Nat), iv = .int .i64 ((i + j : Nat) : Int) ∧ BL w wr2 w.heap.size s out i n j) (fun iv _ => t - (intOf iv).toNat)
          case atStart => exact ⟨0, rfl, by rw [blankN_zero]; exact H1.out.cv, H1.out.bel, Nat.zero_le _⟩
          case round =>
            obtain ⟨j, rfl, hbl⟩ := hrel
            have H2 := Lib.hid hbl
            clear hbl
            obtain ⟨q, hq⟩ : ∃ q, i + j = q := ⟨_, rfl⟩
            rw [hq]
            have hqw : IntKind.i64.wrap ((q : Int) + 1) = (q : Int) + 1 := i64_of (by have := H2.out.le; have := HN.out; have := HS.out; omega)
            by_cases hj : j < n
            · have hqt : (q : Int) < ((t : Nat) : Int) := by have := hto.out; omega
              have hqs : (q : Int) < (S.size : Int) := by have := HN.out; have := HS.out; omega
              have hln : i + j < out.length := by have := H1.out.len; have := HN.out; omega
              have hbn : (blankN i j out).length = out.length := blankN_len _ _ _ (by omega)
              have cc := H2.out.cv.cell (i + j) (by rw [hbn]; exact hln)
              have cf := H2.out.cv.frz (i + j) (by rw [hbn]; exact hln)
              have cst := H2.out.cv.set (i + j) (by rw [hbn]; exact hln) 32
              rw [blankN_at _ _ _ hln] at cc
              have hst := blankN_step i j out hln
              obtain ⟨cb, hcb⟩ : ∃ cb, out.getD (i + j) 0 = cb := ⟨_, rfl⟩
              rw [hcb] at cc hst
              rw [hq] at cc cf cst hst
              have hbel3 := H2.out.bel.setCell (show w.heap.size ≤ (⟨w.heap.size, q, none⟩ : Addr).block from Nat.le_refl _) (.int .u8 ((32 : UInt8).toNat : Int))
              by_cases h10 : cb = 10
              · subst h10
                rw [if_pos rfl] at hst
                have HT := Lib.hid (And.intro hst (And.intro hq hj))
                clear hst hq hj cst hbel3 hln hbn hcb
                go_wp2_with fail
                go_round
                case rel => exact ⟨j + 1, by rw [← Nat.add_assoc, HT.out.2.1]; rfl, by rw [HT.out.1]; exact H2.out.cv, H2.out.bel, HT.out.2.2⟩
                case measure =>
                  have e := hto.out
                  have hjn := HT.out.2.2
                  have hqq := HT.out.2.1
                  show t - ((q : Int) + 1).toNat < t - (q : Int).toNat
                  omega
              · rw [if_neg h10] at hst
                have hcn : (((cb.toNat : Nat) : Int) == 10) = false := by
                  have : cb.toNat ≠ 10 := fun e => h10 (UInt8.toNat_inj.1 e)
                  simp; omega
                have HT := Lib.hid (And.intro hst (And.intro hq (And.intro hj (And.intro cst hbel3))))
                clear hst hq hj h10 cst hbel3 hln hbn hcb
                go_wp2_with fail
                go_round
                case rel => exact ⟨j + 1, by rw [← Nat.add_assoc, HT.out.2.1]; rfl, by rw [HT.out.1]; exact HT.out.2.2.2.1, HT.out.2.2.2.2, HT.out.2.2.1⟩
                case measure =>
                  have e := hto.out
                  have hjn := HT.out.2.2.1
                  have hqq := HT.out.2.1
                  show t - ((q : Int) + 1).toNat < t - (q : Int).toNat
                  omega
            · have hjn : j = n := by have := H2.out.le; omega
              have hqt : decide (q < t) = false := decide_eq_false (by have := hto.out; omega)
              have hqt2 : decide ((q : Int) < ((t : Nat) : Int)) = false := decide_eq_false (by have := hto.out; omega)
              have hqm : IntKind.i64.wrap ((q : Int) - 1) = (q : Int) - 1 := i64_of (by have := HN.out; have := HS.out; omega)
              have hqn : IntKind.i64.wrap (q : Int) = (q : Int) := by rw [i64_of (by have := HN.out; have := HS.out; omega)]
              have HQ := Lib.hid (And.intro hq hjn)
              clear hjn hj hq hiw hi1
              go_wp2_with fail
              obtain ⟨hq1, hq2⟩ := HQ.out
              subst hq2
              refine ⟨⟨q, blankN i j out, rfl, H2.out.cv, H2.out.bel, ?_, ?_, ⟨k, ?_, ?_⟩⟩, ?_⟩
              · rw [blankN_len _ _ _ (by rw [H1.out.len]; exact HN.out.2)]; exact H1.out.len
              · have := HN.out; omega
              · rw [← hq1]; exact hres.out.1
              · rw [← hq1]; exact hres.out.2
              · have := HN.out
                have := HS.out
                show S.size - (q : Int).toNat < S.size - (i : Int).toNat
                omega
      · have hq1 : (TW.toList == [47, 47]) = false := by
          rw [htw]
          have : ¬ ([s.getD i 0, s.getD (i + 1) 0] = ([47, 47] : List UInt8)) := fun e => hc1 (by injection e with e1 e2; injection e2 with e2 _; exact ⟨e1, e2⟩)
          simpa using this
        rw [if_neg hc1] at hr0
        by_cases hc2 : s.getD i 0 = 47 ∧ s.getD (i + 1) 0 = 42
        · have hq2 : (TW.toList == [47, 42]) = true := by rw [htw, hc2.1, hc2.2]; rfl
          rw [if_pos hc2] at hr0
          obtain ⟨mx, hmx⟩ := HS.out.2.2.2.below H1.out.bel
          have hdl : (S.extract (i + 2) S.size).data.toList = s.drop (i + 2) := by rw [hlen, ← HS.out.1, bstr_extract, List.take_length]; simp [bstr]
          have hIX := Tryz.strings_Index (S.extract (i + 2) S.size) ⟨#[42, 47]⟩ mx wr (by rw [ByteArray.size_extract]; omega) hmx
          rw [hdl] at hIX
          have hci := cut2_index 42 47 (s.drop (i + 2))
          cases hq : cut2 42 47 (s.drop (i + 2)) with
          | none =>
            rw [hq] at hci hr0
            rw [show (⟨#[42, 47]⟩ : ByteArray).data.toList = [42, 47] from rfl, hci] at hIX
            have HIX := Lib.hid hIX
            have HR := Lib.hid hr0
            clear hq hci hIX hdl hr0 hk0 hc1 hc2 htw hlen hmx hiw
            go_wp2_with fail
            refine HIX.out.mono ?_; rintro e w2 ⟨rfl, rfl⟩
            go_wp2_with fail
            go_ret2
            rw [← HR.out]
            exact ⟨rfl, H1.out.bel⟩
          | some j0 =>
            rw [hq] at hci hr0
            have hj0 := cut2_lt hq
            rw [List.length_drop] at hj0
            rw [show (⟨#[42, 47]⟩ : ByteArray).data.toList = [42, 47] from rfl, hci] at hIX
            have HIX := Lib.hid hIX
            obtain ⟨n, hn⟩ : ∃ n, 2 + j0 + 2 = n := ⟨_, rfl⟩
            change plainL s k (i + 2 + j0 + 2) (blankN i (2 + j0 + 2) out) = R at hr0
            rw [hn, show i + 2 + j0 + 2 = i + n by omega] at hr0
            have hres : Hid (s.length < i + n + k ∧ plainL s k (i + n) (blankN i n out) = R) := Lib.hid ⟨by omega, hr0⟩
            obtain ⟨t, ht⟩ : ∃ t, i + n = t := ⟨_, rfl⟩
            have hto : Hid (i + n = t) := Lib.hid ht
            have hb1 : IntKind.i64.wrap ((i : Int) + 2 + (j0 : Int)) = (i : Int) + 2 + (j0 : Int) := i64_of (by omega)
            have hb2 : IntKind.i64.wrap ((i : Int) + 2 + (j0 : Int) + 2) = (t : Int) := by rw [i64_of (by omega)]; omega
            have HN : Hid (0 < n ∧ i + n ≤ s.length) := Lib.hid (by omega)
            have hjz : decide ((j0 : Int) < 0) = false := decide_eq_false (by omega)
            clear hq hci hIX hdl hr0 hk0 hc1 hc2 htw hlen hmx hj0 hn ht
            go_wp2_with fail
            refine HIX.out.mono ?_; rintro e w2 ⟨rfl, rfl⟩
            go_wp2_with fail
            go_loopw [5] (fun iv wr2 => ∃ (j : Nat), iv = .int .i64 ((i + j : Nat) : Int) ∧ BL w wr2 w.heap.size s out i n j) (fun iv _ => t - (intOf iv).toNat)
            case atStart => exact ⟨0, rfl, by rw [blankN_zero]; exact H1.out.cv, H1.out.bel, Nat.zero_le _⟩
            case round =>
              obtain ⟨j, rfl, hbl⟩ := hrel
              have H2 := Lib.hid hbl
              clear hbl
              obtain ⟨q, hq⟩ : ∃ q, i + j = q := ⟨_, rfl⟩
              rw [hq]
              have hqw : IntKind.i64.wrap ((q : Int) + 1) = (q : Int) + 1 := i64_of (by have := H2.out.le; have := HN.out; have := HS.out; omega)
              by_cases hj : j < n
              · have hqt : (q : Int) < ((t : Nat) : Int) := by have := hto.out; omega
                have hqs : (q : Int) < (S.size : Int) := by have := HN.out; have := HS.out; omega
                have hln : i + j < out.length := by have := H1.out.len; have := HN.out; omega
                have hbn : (blankN i j out).length = out.length := blankN_len _ _ _ (by omega)
                have cc := H2.out.cv.cell (i + j) (by rw [hbn]; exact hln)
                have cf := H2.out.cv.frz (i + j) (by rw [hbn]; exact hln)
                have cst := H2.out.cv.set (i + j) (by rw [hbn]; exact hln) 32
                rw [blankN_at _ _ _ hln] at cc
                have hst := blankN_step i j out hln
                obtain ⟨cb, hcb⟩ : ∃ cb, out.getD (i + j) 0 = cb := ⟨_, rfl⟩
                rw [hcb] at cc hst
                rw [hq] at cc cf cst hst
                have hbel3 := H2.out.bel.setCell (show w.heap.size ≤ (⟨w.heap.size, q, none⟩ : Addr).block from Nat.le_refl _) (.int .u8 ((32 : UInt8).toNat : Int))
                by_cases h10 : cb = 10
                · subst h10
                  rw [if_pos rfl] at hst
                  have HT := Lib.hid (And.intro hst (And.intro hq hj))
                  clear hst hq hj cst hbel3 hln hbn hcb
                  go_wp2_with fail
                  go_round
                  case rel => exact ⟨j + 1, by rw [← Nat.add_assoc, HT.out.2.1]; rfl, by rw [HT.out.1]; exact H2.out.cv, H2.out.bel, HT.out.2.2⟩
                  case measure =>
                    have e := hto.out
                    have hjn := HT.out.2.2
                    have hqq := HT.out.2.1
                    show t - ((q : Int) + 1).toNat < t - (q : Int).toNat
                    omega
                · rw [if_neg h10] at hst
                  have hcn : (((cb.toNat : Nat) : Int) == 10) = false := by
                    have : cb.toNat ≠ 10 := fun e => h10 (UInt8.toNat_inj.1 e)
                    simp; omega
                  have HT := Lib.hid (And.intro hst (And.intro hq (And.intro hj (And.intro cst hbel3))))
                  clear hst hq hj h10 cst hbel3 hln hbn hcb
                  go_wp2_with fail
                  go_round
                  case rel => exact ⟨j + 1, by rw [← Nat.add_assoc, HT.out.2.1]; rfl, by rw [HT.out.1]; exact HT.out.2.2.2.1, HT.out.2.2.2.2, HT.out.2.2.1⟩
                  case measure =>
                    have e := hto.out
                    have hjn := HT.out.2.2.1
                    have hqq := HT.out.2.1
                    show t - ((q : Int) + 1).toNat < t - (q : Int).toNat
                    omega
              · have hjn : j = n := by have := H2.out.le; omega
                have hqt : decide (q < t) = false := decide_eq_false (by have := hto.out; omega)
                have hqt2 : decide ((q : Int) < ((t : Nat) : Int)) = false := decide_eq_false (by have := hto.out; omega)
                have hqm : IntKind.i64.wrap ((q : Int) - 1) = (q : Int) - 1 := i64_of (by have := HN.out; have := HS.out; omega)
                have hqn : IntKind.i64.wrap (q : Int) = (q : Int) := by rw [i64_of (by have := HN.out; have := HS.out; omega)]
                have HQ := Lib.hid (And.intro hq hjn)
                clear hjn hj hq hiw hi1
                go_wp2_with fail
                obtain ⟨hq1, hq2⟩ := HQ.out
                subst hq2
                refine ⟨⟨q, blankN i j out, rfl, H2.out.cv, H2.out.bel, ?_, ?_, ⟨k, ?_, ?_⟩⟩, ?_⟩
                · rw [blankN_len _ _ _ (by rw [H1.out.len]; exact HN.out.2)]; exact H1.out.len
                · have := HN.out; omega
                · rw [← hq1]; exact hres.out.1
                · rw [← hq1]; exact hres.out.2
                · have := HN.out
                  have := HS.out
                  show S.size - (q : Int).toNat < S.size - (i : Int).toNat
                  omega
        · have hq2 : (TW.toList == [47, 42]) = false := by
            rw [htw]
            have : ¬ ([s.getD i 0, s.getD (i + 1) 0] = ([47, 42] : List UInt8)) := fun e => hc2 (by injection e with e1 e2; injection e2 with e2 _; exact ⟨e1, e2⟩)
            simpa using this
          rw [if_neg hc2] at hr0
          have HR : Hid (s.length < i + 1 + k ∧ plainL s k (i + 1) out = R) := Lib.hid ⟨by omega, hr0⟩
          clear hr0 hk0 hc1 hc2 htw hlen
          go_wp2_with fail
          refine ⟨⟨i + 1, out, by go_num, H1.out.cv, H1.out.bel, H1.out.len, by have := HI.out; omega, k, HR.out.1, HR.out.2⟩, ?_⟩
          have := HI.out
          have := HS.out
          show S.size - ((i : Int) + 1).toNat < S.size - (i : Int).toNat
          omega
    · have hi1 : decide ((i : Int) + 1 < (S.size : Int)) = false := decide_eq_false (by have := HS.out; omega)
      have hi2 : decide (i + 1 < S.size) = false := decide_eq_false (by have := HS.out; omega)
      obtain ⟨k0, hk0, hr0⟩ := H1.out.res
      obtain ⟨k, rfl⟩ : ∃ k, k0 = k + 1 := ⟨k0 - 1, by have := H1.out.le; omega⟩
      unfold plainL at hr0
      rw [if_neg hi] at hr0
      have hbk := H1.out.cv.back cap
      rw [show out.length = S.size by rw [H1.out.len, HS.out.2.1]] at hbk
      have HR := Lib.hid hr0
      clear hi hr0 hk0
      go_wp2_with fail
      go_ret2
      rw [← HR.out]
      exact ⟨rfl, H1.out.bel⟩
end Go.Proofs.YtcjfelndnnhgjaaGreatDoor
