/- Texts of this claim, one behind another: UA18, UA20, UA21, UA22, UA23, UA24, UA25, UA26, UA28. They state lemmas; each names its own conditions. -/
import Derived.Test.YtcjfelndnnhgjaaGreatDoorZ2
import Derived.Deep.RegionHeld3
namespace Go.Proofs.YtcjfelndnnhgjaaGreatDoor
set_option linter.unusedVariables false
open Go.RowKit
/-- a world that is w with new blocks -/
structure After (w : World) where
  val : World
  below : Below w.heap.size w val
instance (w : World) : Nonempty (After w) := ⟨⟨w, Below.refl _ _⟩⟩
theorem After.cell {w : World} {a : Addr} {v : Value} (h : w.cell? a = some v) (s : After w) : s.val.cell? a = some v := (s.below.cell (World.block_lt_of_cell? _ _ h)).trans h
theorem wp_region_after {P : Program} {id : Nat} {Q : Exit → Act → World → Prop} {a : Act} {w : World} {l : List Oper} (hm : P.follows .mixedOrders = true) (hB : Region.lexB .any l.toArray = true)
    (h : wpQuiet P l.toArray (fun w' => ∃ s : After w, w' = s.val) (fun a' => ∀ w', (∃ s : After w, w' = s.val) → Q .normal a' w') l a) : (Code.region id l.toArray true).wp P Q a w :=
  wp_region_quiet (C := fun w' => ∃ s : After w, w' = s.val) hm hB ⟨⟨w.drew, (Below.refl _ _).drew⟩, rfl⟩ (by simpa using h)
theorem Calls.after_of {P : Program} {f : FuncId} {args : Array Value} {w : World} {s : After w} {v : Value}
    (h : Calls P f args s.val fun e w' => e = .returned v ∧ Below s.val.heap.size s.val w') : Calls P f args s.val fun e w'' => e = .returned v ∧ ∃ t : After w, w'' = t.val :=
  h.mono fun _ w' ⟨he, hb⟩ => ⟨he, ⟨w', s.below.trans (hb.mono s.below.size)⟩, rfl⟩
theorem new_any {w : World} (v : Value) (fs : List Fil) (hr : RO w v 2 fs.length (filCells fs)) (hl : fs.length ≤ 1000000) (hsz : ∀ i, i < fs.length → (fs.getD i default).name.size ≤ maxLen) (htz : ∀ i, i < fs.length → (fs.getD i default).text.size ≤ 140737488355328) : Calls Tryz.prog 5 #[v] w (NewPost w fs) := by
  by_cases h1 : 16 < fs.length
  · exact new_many v fs hr hl h1
  · by_cases h2 : badName fs
    · exact new_bad v fs hr (by omega) hsz h2
    · exact new_rest v fs hr (by omega) hsz htz h2
/-- the table of the files fs -/
structure Made (w : World) (bt : Nat) (ps : List Part) (fs : List Fil) : Prop where
  tab : Tab w bt ps
  len : ps.length = fs.length
  nm : ∀ i, i < fs.length → (ps.getD i default).name = (fs.getD i default).name
  tx : ∀ i, i < fs.length → (ps.getD i default).text = (fs.getD i default).text
  kn : ∀ i, i < fs.length → Known w (ps.getD i default) (starts (fs.getD i default).text)
theorem Made.below {w w' bt ps fs} (h : Made w bt ps fs) (hb : Below w.heap.size w w') : Made w' bt ps fs := ⟨h.tab.below hb, h.len, h.nm, h.tx, fun i hi => (h.kn i hi).below hb⟩
def NewOk (w : World) (fs : List Fil) (e : Ending) (w' : World) : Prop := ∃ bt ps, e = .returned (.tuple #[.pointer (some ⟨bt, 0, none⟩), .int .i64 0]) ∧ Made w' bt ps fs ∧ Far w.heap.size w' bt ps ∧ Below w.heap.size w w'
theorem new_ok {w : World} (v : Value) (fs : List Fil) (hr : RO w v 2 fs.length (filCells fs)) (he : NewErr fs 0) (hsz : ∀ i, i < fs.length → (fs.getD i default).name.size ≤ maxLen) (htz : ∀ i, i < fs.length → (fs.getD i default).text.size ≤ 140737488355328) : Calls Tryz.prog 5 #[v] w (NewOk w fs) := by
  have hl : fs.length ≤ 1000000 := by
    rcases he with h | h | h | h | h
    · omega
    all_goals exact Nat.le_trans h.1 (by decide)
  refine (new_any v fs hr hl hsz htz).mono ?_
  rintro e w' ⟨err, p, h1, rfl, hb, _, hm⟩
  obtain rfl := NewErr.one h1 he
  obtain ⟨bt, ps, rfl, ht, hl, hfar, hx⟩ := hm rfl
  exact ⟨bt, ps, rfl, ⟨ht, hl, fun i hi => (hx i hi).1, fun i hi => (hx i hi).2.1, fun i hi => (hx i hi).2.2⟩, hfar, hb⟩
theorem err_one (nm tx : ByteArray) (hn : isName nm = true) (ht : tx.size ≤ 32768) : NewErr [⟨nm, tx⟩] 0 := by
  refine .inr (.inr (.inr (.inr ⟨by simp, ?_, ?_, by simpa [total] using ht, rfl⟩)))
  · rintro ⟨i, hi, h⟩
    obtain rfl : i = 0 := by simpa using hi
    simp [hn] at h
  · rintro ⟨i, j, hj, hi, h⟩
    simp at hi; omega
theorem Made.small {w bt ps fs} (h : Made w bt ps fs) (hl : fs.length ≤ 100000) : ps.length ≤ 100000 := h.len ▸ hl
theorem pos_made {w bt ps fs} (h : Made w bt ps fs) (hl : fs.length ≤ 100000) (n m : Nat) (f : Fil) (hf : fs.getD n default = f) (hn : n < fs.length) (hm : m ≤ f.text.size) :
    Calls Tryz.prog 28 #[.pointer (some ⟨bt, 0, none⟩), .int .i64 ((n : Int) + 1), .int .i64 m] w fun e w' => ∃ k, LineOf (starts f.text) m k ∧ e = .returned (.tuple #[.agg #[.int .i64 ((n : Int) + 1), .int .i64 ((k : Int) + 1), .int .i64 (1 + m - (starts f.text).getD k 0)], .int .i64 0]) ∧ Below w.heap.size w w' := by
  subst hf
  obtain ⟨h1, h2, h3⟩ := stTo_facts (fs.getD n default).text.data.toList (fs.getD n default).text.size
  exact pos_in h.tab n m (h.len ▸ hn) (h.small hl) (h.kn n hn) (by rw [h.tx n hn]; exact hm) (starts_len _).1 h3 h2
theorem RO.far {w : World} {v : Value} {size n : Nat} {cs : List Value} (h : RO w v size n cs) {a : Addr} (ha : v.ownBlock ≠ some a.block) (u : Value) : RO (w.setCell a u) v size n cs := by
  obtain ⟨h1, p, c, rfl, h3⟩ := h
  refine ⟨h1, p, c, rfl, fun j x hj => ?_⟩
  obtain ⟨b, o, rfl, hc⟩ := h3 j x hj
  refine ⟨b, o, rfl, ?_⟩
  rw [World.cell?_setCell_far _ _ _ _ (fun e => ha (by simp [Value.ownBlock, e]))]
  exact hc
theorem Made.far {w bt ps fs B} (h : Made w bt ps fs) (hf : Far B w bt ps) {a : Addr} (ha : a.block < B) (u : Value) : Made (w.setCell a u) bt ps fs ∧ Far B (w.setCell a u) bt ps := by
  obtain ⟨f1, ⟨v, f2, f3⟩, f4⟩ := hf
  have hc : (w.setCell a u).cell? ⟨bt, 0, none⟩ = some v := by
    rw [World.cell?_setCell_far _ _ _ _ (by show a.block ≠ bt; omega)]; exact f2
  have hne : ∀ k, B ≤ k → k ≠ a.block := fun k hk => by omega
  refine ⟨⟨?_, h.len, h.nm, h.tx, fun i hi => ?_⟩, f1, ⟨v, hc, f3⟩, f4⟩
  · obtain ⟨v', h1, h2⟩ := h.tab
    obtain rfl : v' = v := by rw [h1] at f2; simpa using f2
    exact ⟨v', hc, h2.far (fun e => hne _ (f3 _ e) rfl) u⟩
  · have hk := h.kn i hi
    exact ⟨hk.ro.far (fun e => hne _ (f4 i (h.len ▸ hi) _ e) rfl) u, hk.len, hk.tx, hk.bd⟩
theorem Far.below {B w w' bt ps} (h : Far B w bt ps) (hb : Below w.heap.size w w') : Far B w' bt ps := by
  obtain ⟨f1, ⟨v, f2, f3⟩, f4⟩ := h
  exact ⟨f1, ⟨v, (hb.cell (World.block_lt_of_cell? _ _ f2)).trans f2, f3⟩, f4⟩
def awTx : ByteArray := ⟨#[97, 10, 98, 99]⟩
def awNm : ByteArray := ⟨#[97, 46, 118]⟩
theorem aw_name : isName awNm = true := by decide +kernel
theorem aw_starts : starts awTx = [0, 2] := by decide +kernel
theorem ro_one {w : World} {b : Nat} {t : TypeId} (nm tx : ByteArray) (h : Blk w b t [.string nm, .string tx]) : RO w (.slice (some ⟨b, 0, none⟩) 1 1) 2 [(⟨nm, tx⟩ : Fil)].length (filCells [⟨nm, tx⟩]) := by
  refine ⟨rfl, _, _, rfl, fun j u hj => ⟨b, 0, rfl, ?_⟩⟩
  rw [Nat.zero_add]
  exact h.cell hj
theorem aw_line (k : Nat) (h : LineOf [0, 2] 3 k) : k = 1 := by
  have h1 := h.lt
  rcases k with _ | _ | k
  · have := h.hi (by simp); simp at this
  · rfl
  · simp at h1; omega
end Go.Proofs.YtcjfelndnnhgjaaGreatDoor
namespace Go.Proofs.YtcjfelndnnhgjaaGreatDoor
set_option linter.unusedVariables false
open Go.RowKit
theorem Tryz.info9 : (Tryz.prog.info? 9).map (fun i => (i.zero, i.size, i.bytes)) = some (some (.string { data := #[] }), 1, 16) := by kernel_rfl
theorem Tryz.T39 : SlTy Tryz.prog 62 9 1 16 (.string { data := #[] }) := SlTy.of Tryz.underlying62 Tryz.info9 rfl Nat.one_pos
theorem Tryz.info34 : (Tryz.prog.info? 43).map (fun i => (i.zero, i.size, i.bytes)) = some (some (.agg #[.string { data := #[] }, .string { data := #[] }]), 2, 32) := by kernel_rfl
theorem Tryz.T29 : SlTy Tryz.prog 28 43 2 32 (.agg #[.string { data := #[] }, .string { data := #[] }]) := SlTy.of Tryz.underlying28 Tryz.info34 rfl (by decide)
def strs (l : List ByteArray) : List Value := l.map .string
theorem strs_snoc (l : List ByteArray) (s : ByteArray) : strs (l ++ [s]) = strs l ++ [.string s] := by simp [strs]
theorem strs_at (l : List ByteArray) (i : Nat) (h : i < l.length) : (strs l)[i]? = some (.string (l.getD i default)) := by
  rw [strs, List.getElem?_map, List.getD, List.getElem?_eq_getElem h]; rfl
/-- of the first k bytes: the lines that have ended, and where the next begins -/
def lnTo (s : ByteArray) : Nat → List ByteArray × Nat
  | 0 => ([], 0)
  | k + 1 => if s.data.toList.getD k 0 = 10 then ((lnTo s k).1 ++ [s.extract (lnTo s k).2 k], k + 1) else lnTo s k
theorem lnTo_succ (s : ByteArray) (k : Nat) : lnTo s (k + 1) = if s.data.toList.getD k 0 = 10 then ((lnTo s k).1 ++ [s.extract (lnTo s k).2 k], k + 1) else lnTo s k := rfl
theorem lnTo_le (s : ByteArray) : ∀ k, (lnTo s k).2 ≤ k ∧ (lnTo s k).1.length ≤ k
  | 0 => ⟨Nat.le_refl _, Nat.le_refl _⟩
  | k + 1 => by
    have := lnTo_le s k
    rw [lnTo_succ]; split
    · simp; omega
    · omega
/-- the reference's lines -/
def refLines (s : ByteArray) : List ByteArray := (lnTo s s.size).1 ++ [s.extract (lnTo s s.size).2 s.size]
end Go.Proofs.YtcjfelndnnhgjaaGreatDoor
namespace Go.Proofs.YtcjfelndnnhgjaaGreatDoor
set_option linter.unusedVariables false
open Go.RowKit
/-- at most 20 -/
def fewF (l : List Fil) : List Fil := l.take 20
theorem filCells_take (l : List Fil) (n : Nat) : (filCells l).take (n * 2) = filCells (l.take n) := by
  induction l generalizing n with
  | nil => simp [filCells]
  | cons f l ih =>
    cases n with
    | zero => simp [filCells]
    | succ n =>
      have := ih n
      simp only [filCells, List.flatMap_cons, List.take_succ_cons] at *
      rw [show (n + 1) * 2 = n * 2 + 1 + 1 by omega]
      simp [this]
theorem filCells_length (l : List Fil) : (filCells l).length = l.length * 2 := flatMap_len _ 2 (fun _ => rfl) l
def FewPost (w : World) (fs : List Fil) (e : Ending) (w' : World) : Prop := ∃ v, e = .returned v ∧ RO w v 2 (fewF fs).length (filCells (fewF fs)) ∧ w = w'
set_option maxHeartbeats 1000000 in
theorem files_any {w : World} (v : Value) (fs : List Fil) (hr : RO w v 2 fs.length (filCells fs)) (hl : fs.length ≤ 20) : Calls Tryz.prog 6 #[v] w fun e w' => ∃ v', e = .returned v' ∧ RO w' v' 2 fs.length (filCells fs) ∧ Below w.heap.size w w' := by
  obtain ⟨p, c, rfl⟩ := hr.form
  have hl' : (fs.length : Int) ≤ 20 := by omega
  have H := Lib.hid hr
  clear hr
  go_enter Tryz.func6, Tryz.ntmps6
  go_wp2_with fail
  generalize hB : w.heap.size = B at *
  go_loopw [3, 8] (fun v i wr => ∃ k : Nat, k ≤ fs.length ∧ i = .int .i64 k ∧ wr.ownsRow B 43 2 v k (filCells (fs.take k)) ∧ Below B w wr) (fun _ i _ => fs.length - (intOf i).toNat)
  case atStart => exact ⟨0, Nat.zero_le _, rfl, World.ownsRow_nil _ _ _ _, Below.refl _ _⟩
  case round =>
    obtain ⟨k, hk, rfl, hown, hbel⟩ := hrel
    have hBw : B ≤ wr.heap.size := hB ▸ hbel.size
    by_cases hlt : k < fs.length
    · obtain ⟨bb, o, rfl⟩ := H.out.sl (fils_at fs k hlt).1
      have hro := H.out.below (hB ▸ hbel)
      have f0 := hro.cell (fils_at fs k hlt).1
      have f1 := hro.cell (fils_at fs k hlt).2
      rw [← Nat.add_assoc] at f1
      have htk : filCells (fs.take (k + 1)) = filCells (fs.take k) ++ [.string (fs.getD k default).name, .string (fs.getD k default).text] := by
        rw [List.take_succ_eq_append_getElem hlt, List.getD, List.getElem?_eq_getElem hlt]
        simp only [filCells, List.flatMap_append, List.flatMap_cons, List.flatMap_nil, Option.getD_some, List.append_nil]
      generalize fs.getD k default = P at *
      obtain ⟨nm, tx⟩ := P
      dsimp only at f0 f1 htk
      have HR := Lib.hid (And.intro hown (And.intro hbel htk))
      clear hown hbel htk hro
      have e1 : Hid (Below B w ((wr.alloc (Obj.cells #[.string nm, .string tx] 48)).alloc (Obj.cells #[.string nm, .string tx] 43))) := Lib.hid ((HR.out.2.1.alloc hBw _).alloc (by simp only [World.size_alloc]; omega) _)
      go_wp2_with (at_builtin; go_must ((refine wpList_app rfl _ _ 28 rfl Tryz.T29 B _ _ _ rfl ((HR.out.1.alloc _).alloc _) _ 1 1 [_, _] rfl _ (new_at _ _ _ (by simp only [World.size_alloc])) rfl rfl (by simp [Value.oneCell']) Nat.one_pos (by omega) (by omega) (by simp only [World.size_alloc]; omega) ?_); intro gk cap w4 happ; have HP := Lib.hid happ; clear happ))
      go_roundw
      case rel =>
        refine ⟨k + 1, by omega, by go_num, ?_, HP.out.below e1.out (by simp only [World.size_alloc]; omega) (fun k hk => (HR.out.1.lt k hk).1)⟩
        rw [HR.out.2.2]
        exact HP.out.own
      case measure => simp [intOf]; omega
    · obtain rfl : k = fs.length := by omega
      have HR := Lib.hid (And.intro hown hbel)
      clear hown hbel hlt
      go_wp2_with fail
      go_ret
      refine ⟨_, rfl, ?_, hB ▸ HR.out.2⟩
      have := RO.own HR.out.1
      rwa [List.take_length] at this
end Go.Proofs.YtcjfelndnnhgjaaGreatDoor
namespace Go.Proofs.YtcjfelndnnhgjaaGreatDoor
set_option linter.unusedVariables false
open Go.RowKit
def RefNewPost (w : World) (fs : List Fil) (e : Ending) (w' : World) : Prop := ∃ err, NewErr fs err ∧ e = .returned (.int .i64 err) ∧ Below w.heap.size w w'
end Go.Proofs.YtcjfelndnnhgjaaGreatDoor
namespace Go.Proofs.YtcjfelndnnhgjaaGreatDoor
set_option linter.unusedVariables false
open Go.RowKit
/-- line k + 1 of a text -/
def lineAt (s : ByteArray) (k : Nat) : ByteArray := s.extract ((starts s).getD k 0).toNat (endOf (starts s) s.size k).toNat
theorem lnTo_st (s : ByteArray) : ∀ k, (stTo s.data.toList k).length = (lnTo s k).1.length + 1 ∧ (stTo s.data.toList k).getD (lnTo s k).1.length 0 = (lnTo s k).2 ∧
    ∀ i, i < (lnTo s k).1.length → (lnTo s k).1.getD i default = s.extract ((stTo s.data.toList k).getD i 0).toNat ((stTo s.data.toList k).getD (i + 1) 0 - 1).toNat
  | 0 => ⟨rfl, rfl, fun i hi => absurd hi (Nat.not_lt_zero _)⟩
  | k + 1 => by
    obtain ⟨h1, h2, h3⟩ := lnTo_st s k
    rw [lnTo_succ, stTo_succ]
    split
    · refine ⟨by simp [h1], ?_, fun i hi => ?_⟩
      · rw [List.length_append, getD_snoc, if_neg (by simp [h1]), if_pos (by simp [h1])]
      · simp only [List.length_append, List.length_cons, List.length_nil] at hi
        rw [getD_snoc, if_pos (by omega), getD_snoc]
        by_cases e : i < (lnTo s k).1.length
        · rw [if_pos (by omega), ← h3 i e]
          simp only [List.getD, List.getElem?_append_left e]
        · obtain rfl : i = (lnTo s k).1.length := by omega
          rw [if_neg (by omega), if_pos (by omega), h2]
          simp only [List.getD, List.getElem?_concat_length, Option.getD_some]
          congr 1; omega
    · exact ⟨h1, h2, h3⟩
theorem refLines_len (s : ByteArray) : (refLines s).length = (starts s).length := by
  obtain ⟨h1, _, _⟩ := lnTo_st s s.size
  rw [refLines, List.length_append, starts, h1]; rfl
theorem refLines_at (s : ByteArray) (k : Nat) (h : k < (starts s).length) : (refLines s).getD k default = lineAt s k := by
  obtain ⟨h1, h2, h3⟩ := lnTo_st s s.size
  have hk : k < (lnTo s s.size).1.length + 1 := h1 ▸ h
  unfold lineAt endOf
  by_cases e : k < (lnTo s s.size).1.length
  · rw [if_neg (by show ¬ k + 1 = (stTo _ _).length; omega)]
    rw [refLines, List.getD, List.getElem?_append_left e]
    exact h3 k e
  · obtain rfl : k = (lnTo s s.size).1.length := by omega
    rw [if_pos (by show _ = (stTo _ _).length; omega)]
    have : (starts s).getD (lnTo s s.size).1.length 0 = (lnTo s s.size).2 := h2
    rw [this, refLines, List.getD, List.getElem?_concat_length]
    simp
theorem seven (nm : ByteArray) (hn : isName nm = true) : nm.size ≤ maxLen := by
  unfold isName at hn
  simp only [Bool.and_eq_true, decide_eq_true_eq] at hn
  have := hn.2.2
  simp only [maxLen]; omega
theorem new_one (w : World) (nm tx : ByteArray) (hn : isName nm = true) (ht : tx.size ≤ 32768) : Calls Tryz.prog 5 #[.slice (some ⟨w.heap.size, 0, none⟩) 1 1] (w.alloc (.cells #[.string nm, .string tx] 43)) (NewOk (w.alloc (.cells #[.string nm, .string tx] 43)) [⟨nm, tx⟩]) :=
  new_ok (w := w.alloc (.cells #[.string nm, .string tx] 43)) _ [⟨nm, tx⟩] (ro_one nm tx (Blk.new 43 _)) (err_one _ _ hn ht) (fun i hi => by
      obtain rfl : i = 0 := by simpa using hi
      exact seven nm hn) (fun i hi => by
      obtain rfl : i = 0 := by simpa using hi
      show tx.size ≤ _; omega)
def xNm : ByteArray := ⟨#[120]⟩
theorem x_name : isName xNm = true := by decide +kernel
theorem cut_size (s : ByteArray) (h : 2000 < s.size) : (s.extract 0 2000).size = 2000 := by rw [ByteArray.size_extract]; omega
end Go.Proofs.YtcjfelndnnhgjaaGreatDoor
namespace Go.Proofs.YtcjfelndnnhgjaaGreatDoor
set_option linter.unusedVariables false
open Go.RowKit
theorem lineOf_one {L : List Int} {t : Int} {k k' : Nat} (hs : ∀ a b, a < b → b < L.length → L.getD a 0 < L.getD b 0) (h : LineOf L t k) (h' : LineOf L t k') : k = k' := by
  have mono : ∀ a b, a ≤ b → b < L.length → L.getD a 0 ≤ L.getD b 0 := fun a b hab hb => by
    rcases Nat.lt_or_ge a b with h | h
    · exact Int.le_of_lt (hs a b h hb)
    · obtain rfl : a = b := by omega
      exact Int.le_refl _
  rcases Nat.lt_trichotomy k k' with e | e | e
  · have h1 := h.hi (by have := h'.lt; omega)
    have h2 := mono (k + 1) k' (by omega) h'.lt
    have h3 := h'.lo
    omega
  · exact e
  · have h1 := h'.hi (by have := h.lt; omega)
    have h2 := mono (k' + 1) k (by omega) h.lt
    have h3 := h.lo
    omega
theorem starts_facts (s : ByteArray) : (∀ i, i < (starts s).length → 0 ≤ (starts s).getD i 0 ∧ (starts s).getD i 0 ≤ s.size) ∧ (∀ i j, i < j → j < (starts s).length → (starts s).getD i 0 < (starts s).getD j 0) ∧ (starts s).getD 0 0 = 0 := stTo_facts _ _
theorem lineOf_start (s : ByteArray) (k : Nat) (h : k < (starts s).length) : LineOf (starts s) ((starts s).getD k 0) k :=
  ⟨h, Int.le_refl _, fun hk => (starts_facts s).2.1 k (k + 1) (by omega) hk⟩
theorem stTo_nl (l : List UInt8) : ∀ k i, i + 1 < (stTo l k).length → l.getD ((stTo l k).getD (i + 1) 0 - 1).toNat 0 = 10
  | 0, i, h => by simp [stTo] at h
  | k + 1, i, h => by
    have ih := stTo_nl l k
    rw [stTo_succ] at h ⊢
    split
    · rename_i h10
      rw [if_pos h10, List.length_append] at h
      rw [getD_snoc]
      split
      · rename_i h2; exact ih i h2
      · rw [if_pos (by simp at h; omega), show (((k + 1 : Nat) : Int) - 1).toNat = k by omega]; exact h10
    · rename_i h10
      rw [if_neg h10] at h
      exact ih i h
def endN (s : ByteArray) (k : Nat) : Nat := (endOf (starts s) s.size k).toNat
def begN (s : ByteArray) (k : Nat) : Nat := ((starts s).getD k 0).toNat
theorem endN_bd (s : ByteArray) (k : Nat) (h : k < (starts s).length) : begN s k ≤ endN s k ∧ endN s k ≤ s.size := by
  obtain ⟨h1, h2, h3⟩ := starts_facts s
  unfold begN endN endOf
  split
  · have := h1 k h; omega
  · have := h1 (k + 1) (by omega)
    have := h2 k (k + 1) (by omega) (by omega)
    omega
theorem begN_succ (s : ByteArray) (k : Nat) (h : k + 1 < (starts s).length) : begN s (k + 1) = endN s k + 1 ∧ s.data.toList.getD (endN s k) 0 = 10 := by
  obtain ⟨h1, h2, h3⟩ := starts_facts s
  have a := h1 k (by omega)
  have b := h2 k (k + 1) (by omega) h
  have c := stTo_nl s.data.toList s.size k h
  unfold begN endN endOf
  rw [if_neg (by omega)]
  exact ⟨by omega, c⟩
theorem ext_glue (s : ByteArray) (a b : Nat) (h1 : a ≤ b) (h2 : b ≤ s.size) : s.extract 0 a ++ s.extract a b = s.extract 0 b := by
  apply ByteArray.ext
  simp only [ByteArray.data_append, ByteArray.data_extract]
  apply Array.ext'
  simp only [Array.toList_append, Array.toList_extract, List.extract_eq_take_drop, List.drop_zero, Nat.sub_zero]
  rw [← List.take_add, show a + (b - a) = b by omega]
theorem ext_nl (s : ByteArray) (a : Nat) (h : a < s.size) (h10 : s.data.toList.getD a 0 = 10) : s.extract 0 a ++ ⟨#[10]⟩ = s.extract 0 (a + 1) := by
  rw [← ext_glue s a (a + 1) (by omega) (by omega)]
  congr 1
  apply ByteArray.ext
  apply Array.ext'
  simp only [ByteArray.data_extract, Array.toList_extract, List.extract_eq_take_drop]
  rw [show a + 1 - a = 1 by omega, List.drop_eq_getElem_cons (by simpa using h)]
  rw [List.getD, List.getElem?_eq_getElem (by simpa using h)] at h10
  simpa using h10.symm
/-- what is joined behind k lines -/
def joined (s : ByteArray) : Nat → ByteArray
  | 0 => ⟨#[]⟩
  | k + 1 => s.extract 0 (endN s k)
theorem joined_first (s : ByteArray) : joined s 0 ++ lineAt s 0 = joined s 1 := by
  have hb : begN s 0 = 0 := by unfold begN; rw [(starts_facts s).2.2]; rfl
  show _ ++ s.extract (begN s 0) (endN s 0) = s.extract 0 (endN s 0)
  rw [hb]
  apply ByteArray.ext
  simp [joined]
theorem joined_next (s : ByteArray) (k : Nat) (h : k + 1 < (starts s).length) : joined s (k + 1) ++ ⟨#[10]⟩ = s.extract 0 (begN s (k + 1)) ∧ joined s (k + 1) ++ ⟨#[10]⟩ ++ lineAt s (k + 1) = joined s (k + 2) := by
  obtain ⟨h1, h2⟩ := begN_succ s k h
  have hb := endN_bd s (k + 1) h
  have e : joined s (k + 1) ++ ⟨#[10]⟩ = s.extract 0 (begN s (k + 1)) := by
    rw [h1]
    exact ext_nl s (endN s k) (by omega) h2
  refine ⟨e, ?_⟩
  rw [e]
  exact ext_glue s _ _ hb.1 hb.2
theorem joined_end (s : ByteArray) : joined s (starts s).length = s := by
  have := starts_len s
  obtain ⟨n, hn⟩ : ∃ n, (starts s).length = n + 1 := ⟨(starts s).length - 1, by omega⟩
  rw [hn]
  show s.extract 0 (endN s n) = s
  have : endN s n = s.size := by unfold endN endOf; rw [if_pos hn.symm]; rfl
  rw [this]; simp
theorem size_ext0 (s : ByteArray) (a : Nat) (h : a ≤ s.size) : (s.extract 0 a).size = a := by rw [ByteArray.size_extract]; omega
theorem joined_size (s : ByteArray) (k : Nat) (h : k ≤ (starts s).length) : (joined s k).size ≤ s.size := by
  cases k with
  | zero => exact Nat.zero_le _
  | succ k => have := endN_bd s k (by omega); show (s.extract 0 (endN s k)).size ≤ _; rw [size_ext0 s _ this.2]; exact this.2
end Go.Proofs.YtcjfelndnnhgjaaGreatDoor
namespace Go.Proofs.YtcjfelndnnhgjaaGreatDoor
set_option linter.unusedVariables false
open Go.RowKit
end Go.Proofs.YtcjfelndnnhgjaaGreatDoor
namespace Go.Proofs.YtcjfelndnnhgjaaGreatDoor
set_option linter.unusedVariables false
open Go.RowKit
theorem plTo_st (l : List UInt8) : ∀ m, (plTo l m).1 = (stTo l m).length ∧ ((plTo l m).2 : Int) = 1 + m - (stTo l m).getD ((stTo l m).length - 1) 0
  | 0 => ⟨rfl, rfl⟩
  | m + 1 => by
    obtain ⟨h1, h2⟩ := plTo_st l m
    have hl := stTo_length l m
    rw [plTo_succ, stTo_succ]
    split
    · refine ⟨by simp [h1], ?_⟩
      rw [getD_snoc, if_neg (by simp), if_pos (by simp)]
      simp
    · exact ⟨h1, by simp only; omega⟩
theorem stTo_prefix (l : List UInt8) (m : Nat) : ∀ d, ∃ R : List Int, stTo l (m + d) = stTo l m ++ R ∧ ∀ i, i < R.length → (m : Int) < R.getD i 0
  | 0 => ⟨[], by simp, fun i hi => absurd hi (Nat.not_lt_zero _)⟩
  | d + 1 => by
    obtain ⟨R, h1, h2⟩ := stTo_prefix l m d
    rw [show m + (d + 1) = (m + d) + 1 by omega, stTo_succ]
    split
    · refine ⟨R ++ [((m + d + 1 : Nat) : Int)], by rw [h1, List.append_assoc], fun i hi => ?_⟩
      rw [getD_snoc]
      split
      · rename_i h; exact h2 i h
      · rw [if_pos (by simp at hi; omega)]; omega
    · exact ⟨R, h1, h2⟩
theorem place_line (s : ByteArray) (m k : Nat) (hm : m ≤ s.size) (h : LineOf (starts s) m k) : (plTo s.data.toList m).1 = k + 1 ∧ ((plTo s.data.toList m).2 : Int) = 1 + m - (starts s).getD k 0 := by
  obtain ⟨h1, h2⟩ := plTo_st s.data.toList m
  obtain ⟨R, hR, hR2⟩ := stTo_prefix s.data.toList m (s.size - m)
  rw [show m + (s.size - m) = s.size by omega] at hR
  have hl := stTo_length s.data.toList m
  have hf := stTo_facts s.data.toList m
  have e : (stTo s.data.toList m).getD ((stTo s.data.toList m).length - 1) 0 = (starts s).getD ((stTo s.data.toList m).length - 1) 0 := by
    unfold starts
    rw [hR]
    simp only [List.getD]
    rw [List.getElem?_append_left (by omega)]
  have hL : LineOf (starts s) m ((stTo s.data.toList m).length - 1) := by
    refine ⟨?_, ?_, fun hlt => ?_⟩
    · unfold starts; rw [hR, List.length_append]; omega
    · rw [← e]; exact (hf.1 _ (by omega)).2
    · unfold starts at hlt ⊢
      rw [hR, List.length_append] at hlt
      rw [hR]
      have := hR2 0 (by omega)
      simp only [List.getD] at this ⊢
      rw [List.getElem?_append_right (by omega), show (stTo s.data.toList m).length - 1 + 1 - (stTo s.data.toList m).length = 0 by omega]
      exact this
  obtain rfl := lineOf_one (starts_facts s).2.1 h hL
  exact ⟨by omega, by rw [h2, e]⟩
theorem lineOf_ex (s : ByteArray) (m : Nat) (hm : m ≤ s.size) : ∃ k, LineOf (starts s) m k := by
  obtain ⟨R, hR, hR2⟩ := stTo_prefix s.data.toList m (s.size - m)
  rw [show m + (s.size - m) = s.size by omega] at hR
  have hl := stTo_length s.data.toList m
  have hf := stTo_facts s.data.toList m
  have e : (stTo s.data.toList m).getD ((stTo s.data.toList m).length - 1) 0 = (starts s).getD ((stTo s.data.toList m).length - 1) 0 := by
    unfold starts
    rw [hR]
    simp only [List.getD]
    rw [List.getElem?_append_left (by omega)]
  refine ⟨(stTo s.data.toList m).length - 1, ?_, ?_, fun hlt => ?_⟩
  · unfold starts; rw [hR, List.length_append]; omega
  · rw [← e]; exact (hf.1 _ (by omega)).2
  · unfold starts at hlt ⊢
    rw [hR, List.length_append] at hlt
    rw [hR]
    have := hR2 0 (by omega)
    simp only [List.getD] at this ⊢
    rw [List.getElem?_append_right (by omega), show (stTo s.data.toList m).length - 1 + 1 - (stTo s.data.toList m).length = 0 by omega]
    exact this
/-- the place (l, c) is a byte's -/
def placed (s : ByteArray) (l c : Int) : Prop := ∃ k : Nat, l = (k : Int) + 1 ∧ k < (starts s).length ∧ colOk (starts s) s.size k c
theorem placed_of (s : ByteArray) (m : Nat) (hm : m ≤ s.size) : placed s (plTo s.data.toList m).1 (plTo s.data.toList m).2 := by
  obtain ⟨k, hk⟩ := lineOf_ex s m hm
  obtain ⟨h1, h2⟩ := place_line s m k hm hk
  have hlo := hk.lo
  refine ⟨k, by omega, hk.lt, ?_⟩
  unfold colOk endOf
  split
  · omega
  · have := hk.hi (by have := hk.lt; omega)
    omega
/-- and it is byte L k + c - 1 -/
theorem placed_back (s : ByteArray) (k : Nat) (c : Int) (hk : k < (starts s).length) (hc : colOk (starts s) s.size k c) :
    0 ≤ (starts s).getD k 0 + c - 1 ∧ (starts s).getD k 0 + c - 1 ≤ s.size ∧ (plTo s.data.toList ((starts s).getD k 0 + c - 1).toNat).1 = k + 1 ∧ ((plTo s.data.toList ((starts s).getD k 0 + c - 1).toNat).2 : Int) = c := by
  obtain ⟨f1, f2, f3⟩ := starts_facts s
  have b := f1 k hk
  unfold colOk endOf at hc
  have hle : (starts s).getD k 0 + c - 1 ≤ s.size ∧ (k + 1 < (starts s).length → (starts s).getD k 0 + c - 1 < (starts s).getD (k + 1) 0) := by
    split at hc
    · exact ⟨by omega, fun h => by omega⟩
    · have := f1 (k + 1) (by omega)
      exact ⟨by omega, fun _ => by omega⟩
  have hL : LineOf (starts s) (((starts s).getD k 0 + c - 1).toNat : Nat) k := ⟨hk, by omega, fun h => by have := hle.2 h; omega⟩
  obtain ⟨h1, h2⟩ := place_line s _ k (by omega) hL
  exact ⟨by omega, hle.1, h1, by rw [h2]; omega⟩
theorem plTo_inj (s : ByteArray) (m m' : Nat) (hm : m ≤ s.size) (hm' : m' ≤ s.size) (h1 : (plTo s.data.toList m).1 = (plTo s.data.toList m').1) (h2 : (plTo s.data.toList m).2 = (plTo s.data.toList m').2) : m = m' := by
  obtain ⟨k, hk⟩ := lineOf_ex s m hm
  obtain ⟨k', hk'⟩ := lineOf_ex s m' hm'
  obtain ⟨a1, a2⟩ := place_line s m k hm hk
  obtain ⟨b1, b2⟩ := place_line s m' k' hm' hk'
  obtain rfl : k = k' := by omega
  omega
theorem off_yes {w bt ps fs} (h : Made w bt ps fs) (hl : fs.length ≤ 100000) (n : Nat) (f : Fil) (hf : fs.getD n default = f) (hn : n < fs.length) (l c : Int) (hc : -9223372036854775808 ≤ c ∧ c ≤ 9223372036854775807) (hp : placed f.text l c) :
    Calls Tryz.prog 9 #[.pointer (some ⟨bt, 0, none⟩), .agg #[.int .i64 ((n : Int) + 1), .int .i64 l, .int .i64 c]] w fun e w' => ∃ m : Nat, (m ≤ f.text.size ∧ ((plTo f.text.data.toList m).1 : Int) = l ∧ ((plTo f.text.data.toList m).2 : Int) = c) ∧ e = .returned (.tuple #[.int .i64 m, .int .i64 0]) ∧ Below w.heap.size w w' := by
  subst hf
  obtain ⟨k, rfl, hk, hok⟩ := hp
  refine (offset_at h.tab n k c (h.len ▸ hn) (h.small hl) (h.kn n hn) hk hc).mono ?_
  rw [h.tx n hn]
  rintro e w' ⟨⟨_, rfl⟩ | ⟨hno, _⟩, hb⟩
  · obtain ⟨b1, b2, b3, b4⟩ := placed_back _ k c hk hok
    refine ⟨_, ⟨?_, ?_, b4⟩, ?_, hb⟩
    · omega
    · omega
    · rw [Int.toNat_of_nonneg b1]
  · exact absurd hok hno
theorem off_no {w bt ps fs} (h : Made w bt ps fs) (hl : fs.length ≤ 100000) (n : Nat) (f : Fil) (hf : fs.getD n default = f) (hn : n < fs.length) (l c : Int) (hc : -9223372036854775808 ≤ c ∧ c ≤ 9223372036854775807) (hp : ¬ placed f.text l c) :
    Calls Tryz.prog 9 #[.pointer (some ⟨bt, 0, none⟩), .agg #[.int .i64 ((n : Int) + 1), .int .i64 l, .int .i64 c]] w fun e w' => e = .returned (.tuple #[.int .i64 0, .int .i64 3]) ∧ Below w.heap.size w w' := by
  subst hf
  by_cases hk : l < 1 ∨ ((starts (fs.getD n default).text).length : Int) < l
  · exact offset_noline h.tab n l c (h.len ▸ hn) (h.small hl) (h.kn n hn) hk
  · obtain ⟨k, rfl⟩ : ∃ k : Nat, l = (k : Int) + 1 := ⟨(l - 1).toNat, by omega⟩
    have hk' : k < (starts (fs.getD n default).text).length := by omega
    refine (offset_at h.tab n k c (h.len ▸ hn) (h.small hl) (h.kn n hn) hk' hc).mono ?_
    rw [h.tx n hn]
    rintro e w' ⟨⟨hok, _⟩ | ⟨_, rfl⟩, hb⟩
    · exact absurd ⟨k, rfl, hk', hok⟩ hp
    · exact ⟨rfl, hb⟩
theorem pos_at {w bt ps fs} (h : Made w bt ps fs) (hl : fs.length ≤ 100000) (n m : Nat) (f : Fil) (hf : fs.getD n default = f) (hn : n < fs.length) (hm : m ≤ f.text.size) :
    Calls Tryz.prog 28 #[.pointer (some ⟨bt, 0, none⟩), .int .i64 ((n : Int) + 1), .int .i64 m] w fun e w' => e = .returned (.tuple #[.agg #[.int .i64 ((n : Int) + 1), .int .i64 (plTo f.text.data.toList m).1, .int .i64 (plTo f.text.data.toList m).2], .int .i64 0]) ∧ Below w.heap.size w w' := by
  refine (pos_made h hl n m f hf hn hm).mono ?_
  rintro e w' ⟨k, hk, rfl, hb⟩
  obtain ⟨h1, h2⟩ := place_line f.text m k hm hk
  refine ⟨?_, hb⟩
  rw [h1, h2]; rfl
theorem pos_no {w bt ps fs} (h : Made w bt ps fs) (hl : fs.length ≤ 100000) (n : Nat) (m : Int) (f : Fil) (hf : fs.getD n default = f) (hn : n < fs.length) (hm : m < 0 ∨ (f.text.size : Int) < m) :
    Calls Tryz.prog 28 #[.pointer (some ⟨bt, 0, none⟩), .int .i64 ((n : Int) + 1), .int .i64 m] w fun e w' => e = .returned (.tuple #[.agg #[.int .i64 0, .int .i64 0, .int .i64 0], .int .i64 3]) ∧ Below w.heap.size w w' := by
  subst hf
  exact pos_out h.tab n m (h.len ▸ hn) (h.small hl) (by rw [h.tx n hn]; exact hm) (h.kn n hn).tx
end Go.Proofs.YtcjfelndnnhgjaaGreatDoor
namespace Go.Proofs.YtcjfelndnnhgjaaGreatDoor
set_option linter.unusedVariables false
open Go.RowKit
theorem FirstAt.one {f g : Nat → Bool} {n : Nat} {r r' : Int} (h : FirstAt f n r) (h' : FirstAt g n r') (hfg : ∀ i, i < n → f i = g i) : r = r' := by
  rcases h with ⟨i, h1, h2, h3, rfl⟩ | ⟨h3, rfl⟩ <;> rcases h' with ⟨j, k1, k2, k3, rfl⟩ | ⟨k3, rfl⟩
  · rcases Nat.lt_trichotomy i j with e | e | e
    · have := k3 i e; rw [← hfg i h1, h2] at this; cases this
    · rw [e]
    · have := h3 j e; rw [hfg j k1, k2] at this; cases this
  · have := k3 i h1; rw [← hfg i h1, h2] at this; cases this
  · have := h3 j k1; rw [hfg j k1, k2] at this; cases this
  · rfl
theorem sameS_eq {a b : ByteArray} : sameS a b = true ↔ a.toList = b.toList := by unfold sameS; simp
theorem sameS_refl (a : ByteArray) : sameS a a = true := sameS_eq.2 rfl
theorem FirstAt.hit {f : Nat → Bool} {k : Nat} (h : f k = true) (hno : ∀ j, j < k → f j = false) : FirstAt f (k + 1) k := .inl ⟨k, Nat.lt_succ_self k, h, hno, rfl⟩
theorem FirstAt.miss {f : Nat → Bool} {k : Nat} {r : Int} (h : FirstAt f k r) (hk : f k = false) : FirstAt f (k + 1) r := by
  rcases h with ⟨i, h1, h2, h3, rfl⟩ | ⟨h3, rfl⟩
  · exact .inl ⟨i, by omega, h2, h3, rfl⟩
  · refine .inr ⟨fun j hj => ?_, rfl⟩
    rcases Nat.lt_or_ge j k with e | e
    · exact h3 j e
    · obtain rfl : j = k := by omega
      exact hk
theorem find_made {w bt ps fs} (h : Made w bt ps fs) (hl : fs.length ≤ 100000) (s : ByteArray) (r0 : Int) (hr : FirstAt (fun i => sameS (fs.getD i default).name s) fs.length r0) :
    Calls Tryz.prog 15 #[.pointer (some ⟨bt, 0, none⟩), .string s] w fun e w' => e = .returned (.int .i64 (1 + r0)) ∧ Below w.heap.size w w' := by
  refine (find_any h.tab s (h.small hl)).mono ?_
  rintro e w' ⟨r, hf, rfl, hb⟩
  rw [h.len] at hf
  obtain rfl : r = r0 := hf.one hr fun i hi => by show sameS _ _ = sameS _ _; rw [h.nm i hi]
  exact ⟨rfl, hb⟩
theorem get_made {w bt ps fs} (h : Made w bt ps fs) (hl : fs.length ≤ 100000) (n : Nat) (hn : n < fs.length) :
    Calls Tryz.prog 10 #[.pointer (some ⟨bt, 0, none⟩), .int .i64 ((n : Int) + 1)] w fun e w' => e = .returned (.tuple #[.agg #[.string (fs.getD n default).name, .string (fs.getD n default).text], .int .i64 0]) ∧ Below w.heap.size w w' := by
  have := get_in h.tab n (h.len ▸ hn) (h.small hl)
  rwa [h.nm n hn, h.tx n hn] at this
theorem few_len (l : List Fil) : (fewF l).length ≤ 20 := by simp [fewF]; omega
theorem few_get (l : List Fil) (i : Nat) (h : i < (fewF l).length) : (fewF l).getD i default = l.getD i default ∧ i < l.length := by
  have h2 : i < l.length := by simp [fewF] at h; omega
  refine ⟨?_, h2⟩
  have h3 : i < 20 := by simp [fewF] at h; omega
  simp only [List.getD, fewF, List.getElem?_take_of_lt h3]
theorem cells_step {W w' w'' : World} {a b : Nat} {n1 t1 n2 t2 : Value} (h : w'.cell? ⟨a, 0, none⟩ = some n1 ∧ w'.cell? ⟨a, 1, none⟩ = some t1 ∧ w'.cell? ⟨b, 0, none⟩ = some n2 ∧ w'.cell? ⟨b, 1, none⟩ = some t2 ∧ Below W.heap.size W w') (hb : Below w'.heap.size w' w'') :
    w''.cell? ⟨a, 0, none⟩ = some n1 ∧ w''.cell? ⟨a, 1, none⟩ = some t1 ∧ w''.cell? ⟨b, 0, none⟩ = some n2 ∧ w''.cell? ⟨b, 1, none⟩ = some t2 ∧ Below W.heap.size W w'' := by
  obtain ⟨h1, h2, h3, h4, h5⟩ := h
  exact ⟨(hb.cell (World.block_lt_of_cell? _ _ h1)).trans h1, (hb.cell (World.block_lt_of_cell? _ _ h2)).trans h2, (hb.cell (World.block_lt_of_cell? _ _ h3)).trans h3, (hb.cell (World.block_lt_of_cell? _ _ h4)).trans h4, h5.trans (hb.mono h5.size)⟩
end Go.Proofs.YtcjfelndnnhgjaaGreatDoor
