/- Texts of this claim, one behind another: E6, E7, E8, E9, E10. They state lemmas; each names its own conditions. -/
import Derived.Test.YtcjfelndnnhgjaaGreatDoorZ4
import Derived.Lib.IndexLaws
import Derived.StringKeys
namespace Go.Proofs.YtcjfelndnnhgjaaGreatDoor
set_option linter.unusedVariables false
open Go.RowKit Go.Maps

set_option maxRecDepth 100000 in
set_option maxHeartbeats 4000000 in
theorem counts_any {w : World} {base bx bf : Nat} {G : Nat → Prop} {P : Fs} (h : HasF base bx bf G w P) :
    Calls Tryz.prog 45 #[.pointer (some ⟨bf, 0, none⟩)] w fun e w' => e = .returned (.bool (countsP P)) ∧ Below w.heap.size w w' := by
  obtain ⟨vc, h, hG⟩ := h
  obtain ⟨po, co, rfl⟩ := ownsRow_form h.cs
  have a2 := h.blk.cell (i := 2) rfl
  obtain ⟨m, hm⟩ : ∃ m, P.conds.length = m := ⟨_, rfl⟩
  rw [hm] at a2
  have hcs := h.cs
  rw [hm] at hcs
  have hml : m ≤ 100000 := by have := h.bd; omega
  rcases Nat.eq_zero_or_pos m with h0 | h0
  · have hv : countsP P = true := by simp [countsP, hm, h0]
    have hi : ((m : Int) == 0) = true := by simp [h0]
    rw [hv]
    clear h hG hm hcs h0 hv
    go_enter Tryz.func45, Tryz.ntmps45
    go_upto_region 1 with fail
    go_quiet (fail)
    go_wp2_with fail
    go_ret
    exact ⟨rfl, below_drewN _⟩
  · obtain ⟨q, hq⟩ : ∃ q, m = q + 1 := ⟨m - 1, by omega⟩
    obtain ⟨g, rfl⟩ : ∃ g, po = some ⟨g, 0, none⟩ := by
      obtain ⟨g, cap, e, _⟩ := hcs.form h0
      cases e; exact ⟨g, rfl⟩
    obtain ⟨v, hv⟩ : ∃ v, (P.conds.getD q default).counts = v := ⟨_, rfl⟩
    have hvv : countsP P = v := by unfold countsP; rw [hm, hq, Nat.add_sub_cancel, hv]; simp
    have u3 : w.cell? ⟨g, q * 6 + 3, none⟩ = some (.bool v) := by
      rw [hcs.cellAt _ (by omega), condCells_at _ _ _ (by omega) (by decide)]
      show some (Value.bool _) = _
      rw [hv]
    have hi : ((m : Int) == 0) = false := by simp; omega
    have hmq : IntKind.i64.wrap ((m : Int) - 1) = (q : Int) := by rw [i64_of (by omega)]; omega
    have hqm : (q : Int) < (m : Int) := by omega
    rw [hvv]
    clear h hG hm hcs h0 hv hq hvv
    go_enter Tryz.func45, Tryz.ntmps45
    go_upto_region 1 with fail
    go_quiet (fail)
    go_wp2_with fail
    go_ret
    exact ⟨rfl, below_drewN _⟩
/-! # text -/
def textP (S : Xs) (P : Fs) (p : Pc) : Xs × Fs := (putP S p p.f p.l p.c P.joins, if p.text = [] then P else { P with joins := true })
theorem HasXF.fon {base bx bf tv F G w S P P'} {w' : World} (h : HasXF base bx bf tv F G w S P) (hf : HasF base bx bf G w' P') (hu : Upd G G w w') : HasXF base bx bf tv F G w' S P' ∧ Upd (fun g => F g ∨ G g) (fun g => F g ∨ G g) w w' :=
  ⟨⟨h.x.keep fun g hg => hu.block g (h.x.lt g hg).2 (fun hh => h.dis g hh hg), hf, h.dis⟩, hu.grow (fun g hg => .inr hg) (fun g hg => .inl hg)⟩
/-- joins is written -/
theorem HasF.setJ {base bx bf : Nat} {G : Nat → Prop} {w : World} {P : Fs} (h : HasF base bx bf G w P) (b : Bool) : HasF base bx bf G (w.setCell ⟨bf, 3, none⟩ (.bool b)) { P with joins := b } ∧ Upd G G w (w.setCell ⟨bf, 3, none⟩ (.bool b)) := by
  obtain ⟨vc, h, rfl⟩ := h
  refine ⟨⟨vc, ⟨h.blk.set 3 (.bool b), ownsRow_setCell_far h.cs h.ne _, h.ne, h.gf, h.bd⟩, rfl⟩, (upd_cell (w := w) (b := bf) (i := 3) (.bool b)).grow (fun g hg => .inl hg) (fun g hg => .inl hg)⟩
set_option maxRecDepth 100000 in
set_option maxHeartbeats 4000000 in
theorem text_any {w : World} {base bx bf : Nat} {tv : Value} {F G : Nat → Prop} {S : Xs} {P : Fs} (h : HasXF base bx bf tv F G w S P) (p : Pc) (hb : base ≤ w.heap.size) (hw : S.err = 0 → Wfx S) (hp : p.text.length ≤ 1000000) :
    Calls Tryz.prog 46 #[.pointer (some ⟨bf, 0, none⟩), .agg #[.string (bstr p.text), .int .i64 p.f, .int .i64 p.l, .int .i64 p.c, .bool p.fixed]] w (FR base bx bf tv F G w (textP S P p).1 (textP S P p).2 (.tuple #[])) := by
  have hb1 := Below.new w (.cells #[.string (bstr p.text), .int .i64 p.f, .int .i64 p.l, .int .i64 p.c, .bool p.fixed] 67)
  have k1 : Blk (w.alloc (.cells #[.string (bstr p.text), .int .i64 p.f, .int .i64 p.l, .int .i64 p.c, .bool p.fixed] 67)) w.heap.size 67 (pcCells p) := Blk.new _ _
  have h1 := h.below hb1
  obtain ⟨vc, hf, hG⟩ := h1.f
  have a0 := hf.blk.cell (i := 0) rfl
  have a3 := hf.blk.cell (i := 3) rfl
  have c0 := k1.cell (i := 0) rfl
  have c1 := k1.cell (i := 1) rfl
  have c2 := k1.cell (i := 2) rfl
  have c3 := k1.cell (i := 3) rfl
  have c4 := k1.cell (i := 4) rfl
  have hne : bf ≠ w.heap.size := by obtain ⟨vc, hf, hG⟩ := h.f; have := hf.blk.lt; omega
  have HX := Lib.hid (And.intro h1 (And.intro hb1 (And.intro k1 (And.intro hb (And.intro hne (fun g hg => (h.x.lt g hg).2 : ∀ g, F g → g < w.heap.size))))))
  have HP := Lib.hid (fun (w' : World) (hx : HasXF base bx bf tv F G w' S P) (hs : base ≤ w'.heap.size) => put_any hx.x p p.f p.l p.c P.joins hs hw hp)
  generalize hWW : w.alloc (.cells #[.string (bstr p.text), .int .i64 p.f, .int .i64 p.l, .int .i64 p.c, .bool p.fixed] 67) = W at *
  obtain ⟨j, hj⟩ : ∃ j, P.joins = j := ⟨_, rfl⟩
  rw [hj] at a3 HP
  have HJ := Lib.hid hj
  have HWW := Lib.hid hWW
  have hT : ((bstr p.text).toList = []) = (p.text = []) := by
    apply propext
    constructor
    · intro h; by_cases hh : p.text = []
      · exact hh
      · exact absurd h (bstr_ne hh).1
    · intro h; rw [h, ByteArray.toList_eq]; rfl
  have HT := Lib.hid hT
  clear h hb1 k1 h1 hf hG hb hw hp hj hne hT
  go_enter Tryz.func46, Tryz.ntmps46
  go_upto_region 1 with fail
  refine wp_region_still_tail 11 (by kernel_rfl) (by kernel_rfl) ?_
  simp only [List.take_succ_cons, List.take_zero, List.drop_succ_cons, List.drop_zero]
  change wpStill _ _ W.drew (fun a' => wpList _ _ _ _ a' W.drew) _ _
  have a0' : W.drew.cell? ⟨bf, 0, none⟩ = _ := a0
  have a3' : W.drew.cell? ⟨bf, 3, none⟩ = _ := a3
  have c0' : W.drew.cell? ⟨w.heap.size, 0, none⟩ = _ := c0
  have c1' : W.drew.cell? ⟨w.heap.size, 1, none⟩ = _ := c1
  have c2' : W.drew.cell? ⟨w.heap.size, 2, none⟩ = _ := c2
  have c3' : W.drew.cell? ⟨w.heap.size, 3, none⟩ = _ := c3
  have c4' : W.drew.cell? ⟨w.heap.size, 4, none⟩ = _ := c4
  have HX1 : Hid (HasXF base bx bf tv F G W.drew S P ∧ Below w.heap.size w W.drew ∧ Blk W.drew w.heap.size 67 (pcCells p) ∧ base ≤ W.drew.heap.size) :=
    Lib.hid ⟨HX.out.1.below (Below.refl _ _).drew, HX.out.2.1.drew, HX.out.2.2.1, Nat.le_trans HX.out.2.2.2.1 HX.out.2.1.size⟩
  clear a0 a3 c0 c1 c2 c3 c4 hWW
  generalize W.drew = W1 at *
  repeat still_step
  try refine wpStill_nil ?_
  clear a0' a3'
  go_wp2_with fail
  refine (HP.out _ HX1.out.1 HX1.out.2.2.2).mono ?_; rintro e w3 ⟨F3, rfl, hx3, hu3⟩
  have h3 := HX1.out.1.xon hx3 hu3
  have k3 : Blk w3 w.heap.size 67 (pcCells p) := (hu3.block _ HX1.out.2.2.1.lt (fun hh => by have := HX.out.2.2.2.2.2 _ hh; omega)).trans HX1.out.2.2.1
  have hup : Upd (fun g => F g ∨ G g) (fun g => F3 g ∨ G g) w w3 := ((Upd.below HX1.out.2.1).trans hu3).wide G
  have d0 := k3.cell (i := 0) rfl
  obtain ⟨vc3, hf3, hG3⟩ := h3.f
  have f3 := hf3.blk.frz 3
  have e3 := hf3.blk.cell (i := 3) rfl
  have H3 := Lib.hid (And.intro h3 hup)
  clear h3 hup k3 hx3 hu3 hf3 hG3 c0' c1' c2' c3' c4'
  by_cases ht : p.text = []
  · have hie : (bstr p.text).toList.isEmpty = true := by rw [ht, ByteArray.toList_eq]; rfl
    have hit : (bstr p.text).toList = [] := by rw [ht, ByteArray.toList_eq]; rfl
    have HE := Lib.hid ht
    clear ht
    go_wp2_with fail
    go_end0
    have hv : textP S P p = (putP S p p.f p.l p.c P.joins, P) := by rw [textP, if_pos HE.out]
    rw [hv, HJ.out]
    exact ⟨F3, G, rfl, H3.out.1, H3.out.2⟩
  · obtain ⟨hnl, hie⟩ := bstr_ne ht
    have HE := Lib.hid ht
    clear ht
    go_wp2_with fail
    go_end0
    have hj := H3.out.1.f.setJ true
    have hfin := H3.out.1.fon hj.1 hj.2
    have hv : textP S P p = (putP S p p.f p.l p.c P.joins, { P with joins := true }) := by rw [textP, if_neg HE.out]
    rw [hv, HJ.out]
    exact ⟨F3, G, rfl, hfin.1, H3.out.2.trans hfin.2⟩
end Go.Proofs.YtcjfelndnnhgjaaGreatDoor
namespace Go.Proofs.YtcjfelndnnhgjaaGreatDoor
set_option linter.unusedVariables false
open Go.RowKit Go.Maps

/-! # the first place of a byte -/
def cutB (c : UInt8) : Bs → Option (Bs × Bs)
  | [] => none
  | b :: r => if b = c then some ([], r) else (cutB c r).map fun q => (b :: q.1, q.2)
theorem cutB_index (c : UInt8) : ∀ l : Bs, match cutB c l with
    | none => Lib.indexByte l c = -1
    | some (x, y) => l = x ++ c :: y ∧ Lib.indexByte l c = (x.length : Int)
  | [] => rfl
  | b :: r => by
    have ih := cutB_index c r
    unfold cutB Lib.indexByte
    by_cases h : b = c
    · simp [h]
    · rw [if_neg h]
      have hb : (b == c) = false := by simpa using h
      rw [hb]
      cases hq : cutB c r with
      | none =>
        rw [hq] at ih
        simp only [Option.map_none] at ih ⊢
        simp [ih]
      | some q =>
        rw [hq] at ih
        obtain ⟨x, y⟩ := q
        simp only [Option.map_some] at ih ⊢
        obtain ⟨h1, h2⟩ := ih
        refine ⟨by rw [h1]; simp, ?_⟩
        have : ¬ ((Lib.indexByte r c == -1) = true) := by rw [h2]; simp
        rw [if_neg (by simp), if_neg this, h2, List.length_cons]; rfl
theorem cutB_none {c : UInt8} {l : Bs} (h : cutB c l = none) : Lib.indexByte l c = -1 := by
  have := cutB_index c l
  rwa [h] at this
theorem cutB_some {c : UInt8} {l x y : Bs} (h : cutB c l = some (x, y)) : l = x ++ c :: y ∧ Lib.indexByte l c = (x.length : Int) := by
  have := cutB_index c l
  rwa [h] at this
/-! # use, plainly -/
def useL (U : Xs → Bs → Xs) (f l c : Int) : Nat → Bs → Xs → Xs
  | 0, _, S => S
  | k + 1, s, S => if S.err ≠ 0 then S else match cutB 96 s with
    | none => putP S ⟨s, f, l, c, true⟩ f l c false
    | some (x, y) => if name y = [] then failP (putP S ⟨x, f, l, c, true⟩ f l c false) f l c 5
      else useL U f l c k (y.drop (name y).length) (U (putP S ⟨x, f, l, c, true⟩ f l c false) (name y))
def useP (f l c : Int) : Nat → Xs → Bs → Xs
  | 0, S, n => if S.defs n = 0 then failP S f l c 9 else failP S f l c 8
  | d + 1, S, n => if S.defs n = 0 then failP S f l c 9 else useL (useP f l c d) f l c ((S.texts.getD (S.defs n - 1) []).length + 1) (S.texts.getD (S.defs n - 1) []) S
/-- what stays true -/
structure WX (S : Xs) : Prop where
  dl : ∀ n, S.defs n ≤ S.texts.length
  tl : ∀ i, (S.texts.getD i []).length ≤ 32768
  tn : S.texts.length ≤ 8796093022208
  fx : S.err = 0 → Wfx S
theorem name_le (l : Bs) : (name l).length ≤ l.length := by
  unfold name
  split
  · exact Nat.zero_le _
  · rw [List.length_take]; omega
theorem failP_facts (S : Xs) (f l c e : Int) (he : e ≠ 0) : (failP S f l c e).defs = S.defs ∧ (failP S f l c e).texts = S.texts ∧ (failP S f l c e).err ≠ 0 := by
  unfold failP
  split
  · exact ⟨rfl, rfl, he⟩
  · exact ⟨rfl, rfl, by assumption⟩
theorem WX.fail {S : Xs} (h : WX S) (f l c e : Int) (he : e ≠ 0) : WX (failP S f l c e) := by
  obtain ⟨h1, h2, h3⟩ := failP_facts S f l c e he
  exact ⟨by rw [h1, h2]; exact h.dl, by rw [h2]; exact h.tl, by rw [h2]; exact h.tn, fun h0 => absurd h0 h3⟩
theorem joinP_len (o : List Pc) (t : Bs) : (joinP o t).length = o.length := by simp [joinP]
theorem WX.put {S : Xs} (h : WX S) (p : Pc) (f l c : Int) (j : Bool) : WX (putP S p f l c j) := by
  unfold putP
  split
  · exact h
  · rename_i h1
    have he : S.err = 0 := by by_cases hh : S.err = 0; exact hh; exact absurd (.inr hh) h1
    have hw := h.fx he
    have hs := hw.size
    have ho := hw.out
    have hp : 0 < p.text.length := by cases hq : p.text with
      | nil => exact absurd (.inl hq) h1
      | cons _ _ => simp
    split
    · obtain ⟨g1, g2, g3⟩ := failP_facts { S with size := S.size + p.text.length } f l c 4 (by decide)
      exact ⟨by rw [g1, g2]; exact h.dl, by rw [g2]; exact h.tl, by rw [g2]; exact h.tn, fun h0 => absurd h0 g3⟩
    · rename_i hsz
      split
      · refine ⟨h.dl, h.tl, h.tn, fun _ => ⟨by show S.size + p.text.length ≤ 65536; omega, by show (joinP S.out p.text).length ≤ S.size + p.text.length; rw [joinP_len]; omega, fun i hi => ?_⟩⟩
        have hi' : i < S.out.length := by rw [← joinP_len S.out p.text]; exact hi
        have ht := hw.text i hi'
        show ((joinP S.out p.text).getD i default).text.length ≤ S.size + p.text.length
        unfold joinP
        rw [List.getD, List.getElem?_modify]
        split
        · rw [List.getD, List.getElem?_eq_getElem hi'] at ht
          rw [List.getElem?_eq_getElem hi']
          simp only [Option.getD_some, Option.map_eq_map, Option.map_some, List.length_append] at ht ⊢
          omega
        · simp only [id_map']
          rw [List.getD] at ht
          omega
      · refine ⟨h.dl, h.tl, h.tn, fun _ => ⟨by show S.size + p.text.length ≤ 65536; omega, by show (S.out ++ [p]).length ≤ S.size + p.text.length; simp only [List.length_append, List.length_cons, List.length_nil]; omega, fun i hi => ?_⟩⟩
        show ((S.out ++ [p]).getD i default).text.length ≤ S.size + p.text.length
        by_cases hi' : i < S.out.length
        · have ht := hw.text i hi'
          have e1 : (S.out ++ [p]).getD i default = S.out.getD i default := by simp [List.getD, List.getElem?_append_left hi']
          rw [e1]; omega
        · have hi2 : i = S.out.length := by
            have : i < (S.out ++ [p]).length := hi
            simp only [List.length_append, List.length_cons, List.length_nil] at this; omega
          have e1 : (S.out ++ [p]).getD i default = p := by simp [List.getD, hi2]
          rw [e1]; omega
theorem putP_same (S : Xs) (p : Pc) (f l c : Int) (j : Bool) : (putP S p f l c j).defs = S.defs ∧ (putP S p f l c j).texts = S.texts := by
  unfold putP
  split
  · exact ⟨rfl, rfl⟩
  · split
    · obtain ⟨h1, h2, _⟩ := failP_facts { S with size := S.size + p.text.length } f l c 4 (by decide)
      exact ⟨h1, h2⟩
    · split <;> exact ⟨rfl, rfl⟩
theorem useL_wx {U : Xs → Bs → Xs} (f l c : Int) (hU : ∀ S n, WX S → WX (U S n) ∧ (U S n).defs = S.defs ∧ (U S n).texts = S.texts) : ∀ (k : Nat) (s : Bs) (S : Xs), WX S → WX (useL U f l c k s S) ∧ (useL U f l c k s S).defs = S.defs ∧ (useL U f l c k s S).texts = S.texts
  | 0, _, S, h => ⟨h, rfl, rfl⟩
  | k + 1, s, S, h => by
    unfold useL
    split
    · exact ⟨h, rfl, rfl⟩
    · split
      · exact ⟨h.put _ _ _ _ _, putP_same _ _ _ _ _ _⟩
      · rename_i x y _
        have h1 := h.put ⟨x, f, l, c, true⟩ f l c false
        obtain ⟨e1, e2⟩ := putP_same S ⟨x, f, l, c, true⟩ f l c false
        split
        · obtain ⟨g1, g2, g3⟩ := failP_facts (putP S ⟨x, f, l, c, true⟩ f l c false) f l c 5 (by decide)
          exact ⟨h1.fail _ _ _ _ (by decide), g1.trans e1, g2.trans e2⟩
        · obtain ⟨a1, a2, a3⟩ := hU _ (name y) h1
          obtain ⟨b1, b2, b3⟩ := useL_wx f l c hU k (y.drop (name y).length) _ a1
          exact ⟨b1, b2.trans (a2.trans e1), b3.trans (a3.trans e2)⟩
theorem useP_wx (f l c : Int) : ∀ (d : Nat) (S : Xs) (n : Bs), WX S → WX (useP f l c d S n) ∧ (useP f l c d S n).defs = S.defs ∧ (useP f l c d S n).texts = S.texts
  | 0, S, n, h => by
    unfold useP
    split
    · obtain ⟨g1, g2, _⟩ := failP_facts S f l c 9 (by decide)
      exact ⟨h.fail _ _ _ _ (by decide), g1, g2⟩
    · obtain ⟨g1, g2, _⟩ := failP_facts S f l c 8 (by decide)
      exact ⟨h.fail _ _ _ _ (by decide), g1, g2⟩
  | d + 1, S, n, h => by
    unfold useP
    split
    · obtain ⟨g1, g2, _⟩ := failP_facts S f l c 9 (by decide)
      exact ⟨h.fail _ _ _ _ (by decide), g1, g2⟩
    · exact useL_wx f l c (fun S n h => useP_wx f l c d S n h) _ _ _ h
end Go.Proofs.YtcjfelndnnhgjaaGreatDoor
namespace Go.Proofs.YtcjfelndnnhgjaaGreatDoor
set_option linter.unusedVariables false
open Go.RowKit Go.Maps

theorem zeroInt (w : World) : (zeroValue 3).run Tryz.prog w = .ok (.int .i64 0) w := by kernel_rfl
theorem keyS : Keyed Tryz.prog 9 := string_keyed Tryz.underlying9
theorem key_of (n : Bs) (hn : n.length ≤ 1000000) : keyOf Tryz.prog 9 (.string (bstr n)) = some (.string n) := by
  have h := WideMaps.keyOf_string_mk Tryz.underlying9 (s := bstr n) (by rw [bstr_size]; simp only [maxLen]; omega)
  rw [h]
  simp [bstr]
def slen : Value → Nat
  | .string s => s.size
  | _ => 0
/-- what a use's body does from here on -/
structure UL (base bx : Nat) (tv : Value) (F : Nat → Prop) (W wr : World) (box : Nat) (f l c : Int) (U : Xs → Bs → Xs) (R : Xs) (T : ByteArray) : Prop where
  ex : ∃ s S F' k, T = bstr s ∧ s.length < k ∧ s.length ≤ 32768 ∧ HasX base bx tv F' wr S ∧ WX S ∧ Upd F F' W wr ∧ useL U f l c k s S = R
  bl : Blk wr box 32 [.int .i64 f, .int .i64 l, .int .i64 c]
set_option maxRecDepth 100000 in
set_option maxHeartbeats 8000000 in
theorem use_step {base bx : Nat} {tv : Value} {f l c : Int} {d : Nat} (hd : d ≤ 7)
    (ih : ∀ (w : World) (F : Nat → Prop) (S : Xs) (n : Bs), HasX base bx tv F w S → WX S → base ≤ w.heap.size → n.length ≤ 1000000 →
      Calls Tryz.prog 69 #[.pointer (some ⟨bx, 0, none⟩), .string (bstr n), .agg #[.int .i64 f, .int .i64 l, .int .i64 c], .int .i64 (9 - (d : Int))] w (XR base bx tv F w (useP f l c d S n) (.tuple #[])))
    {w : World} {F : Nat → Prop} {S : Xs} {n : Bs} (h : HasX base bx tv F w S) (hw : WX S) (hb : base ≤ w.heap.size) (hn : n.length ≤ 1000000) :
    Calls Tryz.prog 69 #[.pointer (some ⟨bx, 0, none⟩), .string (bstr n), .agg #[.int .i64 f, .int .i64 l, .int .i64 c], .int .i64 (8 - (d : Int))] w (XR base bx tv F w (useP f l c (d + 1) S n) (.tuple #[])) := by
  have hb1 := Below.new w (.cells #[.int .i64 f, .int .i64 l, .int .i64 c] 32)
  have k1 : Blk (w.alloc (.cells #[.int .i64 f, .int .i64 l, .int .i64 c] 32)) w.heap.size 32 [.int .i64 f, .int .i64 l, .int .i64 c] := Blk.new _ _
  have h1 := h.below hb1
  have hlt := fun g hg => (h.lt g hg).2
  have hW1 : base ≤ (w.alloc (.cells #[.int .i64 f, .int .i64 l, .int .i64 c] 32)).heap.size := Nat.le_trans hb hb1.size
  obtain ⟨bm, vt, vo, k, D, hx, hF⟩ := h1
  have x1 := hx.blk.cell (i := 1) rfl
  have x2 := hx.blk.cell (i := 2) rfl
  have hkey := key_of n hn
  have hown := hx.mp
  have hdk := hx.dk n
  obtain ⟨K, hK⟩ : ∃ K, S.defs n = K := ⟨_, rfl⟩
  rw [hK] at hdk
  have b0 := k1.cell (i := 0) rfl
  have b1 := k1.cell (i := 1) rfl
  have b2 := k1.cell (i := 2) rfl
  have hKl : K ≤ S.texts.length := by rw [← hK]; exact hw.dl n
  have HX := Lib.hid (And.intro h (And.intro hw (And.intro hb (And.intro hlt (And.intro hb1 (And.intro hx hF))))))
  have HK := Lib.hid (And.intro hK hKl)
  have HI := Lib.hid ih
  obtain ⟨Wb, hWb⟩ : ∃ Wb, Wb = w.heap.size := ⟨_, rfl⟩
  generalize hWW : w.alloc (.cells #[.int .i64 f, .int .i64 l, .int .i64 c] 32) = W at *
  have HWW := Lib.hid (And.intro hWW hW1)
  obtain ⟨N, hN⟩ : ∃ N, bstr n = N := ⟨_, rfl⟩
  rw [hN] at hkey ⊢
  have HN := Lib.hid (And.intro hN hn)
  clear h hw hb hlt hb1 hx hF hK hKl ih hN hn hW1 hWb
  by_cases hk0 : K = 0
  · have hkd : ((K : Int) == 0) = true := by simp [hk0]
    have HF := Lib.hid (fail_any (HX.out.1.below HX.out.2.2.2.2.1) f l c 9)
    have HZ := Lib.hid hk0
    clear hk0
    go_enter Tryz.func69, Tryz.ntmps69
    go_wp2_with (first
      | (at_lookup; refine wpList_lookup_own_int _ rfl _ _ 61 rfl 9 3 .i64 keyS Tryz.underlying61 Tryz.underlying3 (zeroInt _) bm k D rfl hown _ _ rfl hkey ?_; intro c2 hat hwc; obtain rfl : c2 = (K : Int) := by (rw [hdk] at hat; injection hat with hat; injection hat with _ hat; exact hat.symm))
      | fail)
    refine HF.out.mono ?_; rintro e w3 ⟨F3, rfl, hx3, hu3⟩
    have H3 := Lib.hid (And.intro hx3 hu3)
    clear hx3 hu3
    go_wp2_with fail
    go_end0
    have hv : useP f l c (d + 1) S n = failP S f l c 9 := by rw [useP, if_pos (by rw [HK.out.1, HZ.out])]
    rw [hv]
    exact ⟨F3, rfl, H3.out.1, (Upd.below HX.out.2.2.2.2.1).trans H3.out.2⟩
  · have hkd : ((K : Int) == 0) = false := by simp [hk0]
    have HZ := Lib.hid hk0
    have hdd : decide ((8 : Int) < 8 - (d : Int)) = false := decide_eq_false (by omega)
    have hdd2 : IntKind.i64.wrap (8 - (d : Int) + 1) = 9 - (d : Int) := by rw [i64_of (by omega)]; omega
    obtain ⟨pt, ct, rfl⟩ := ownsRow_form HX.out.2.2.2.2.2.1.tx
    obtain ⟨m, hm⟩ : ∃ m, S.texts.length = m := ⟨_, rfl⟩
    have htx := HX.out.2.2.2.2.2.1.tx
    rw [hm] at x2 htx
    obtain ⟨q, hq⟩ : ∃ q, K = q + 1 := ⟨K - 1, by omega⟩
    have hqm0 : q < m := by have := HK.out.2; omega
    obtain ⟨g, rfl⟩ : ∃ g, pt = some ⟨g, 0, none⟩ := by
      obtain ⟨g, cap, e, _⟩ := htx.form (by omega)
      cases e; exact ⟨g, rfl⟩
    have hmx : m ≤ 8796093022208 := by have := HX.out.2.1.tn; omega
    obtain ⟨Tx, hTx⟩ : ∃ Tx, bstr (S.texts.getD q []) = Tx := ⟨_, rfl⟩
    have u0 : W.cell? ⟨g, q, none⟩ = some (.string Tx) := by
      rw [htx.cellAt _ (by omega), ← hTx]
      simp [strCells, List.getD, List.getElem?_eq_getElem (show q < S.texts.length by omega)]
    have hmq : IntKind.i64.wrap ((K : Int) - 1) = (q : Int) := by rw [i64_of (by omega)]; omega
    have hqm : (q : Int) < (m : Int) := by omega
    have HT := Lib.hid (And.intro hTx (And.intro hq hm))
    clear hk0 htx hq hm hTx hqm0
    go_enter Tryz.func69, Tryz.ntmps69
    go_wp2_with (first
      | (at_lookup; refine wpList_lookup_own_int _ rfl _ _ 61 rfl 9 3 .i64 keyS Tryz.underlying61 Tryz.underlying3 (zeroInt _) bm k D rfl hown _ _ rfl hkey ?_; intro c2 hat hwc; obtain rfl : c2 = (K : Int) := by (rw [hdk] at hat; injection hat with hat; injection hat with _ hat; exact hat.symm))
      | fail)
    obtain ⟨U, hU⟩ : ∃ U, useP f l c d = U := ⟨_, rfl⟩
    obtain ⟨R, hR⟩ : ∃ R, useP f l c (d + 1) S n = R := ⟨_, rfl⟩
    have hR0 : useL U f l c ((S.texts.getD (K - 1) []).length + 1) (S.texts.getD (K - 1) []) S = R := by rw [← hR, useP, if_neg (by rw [HK.out.1]; exact HZ.out), HK.out.1, hU]
    try rw [hR]
    have HU := Lib.hid (And.intro hU (And.intro hR hR0))
    have HB := Lib.hid (And.intro b0 (And.intro b1 (And.intro b2 k1)))
    have hWs : W.heap.size = w.heap.size + 1 := by rw [← HWW.out.1]; exact World.size_alloc _ _
    have HS := Lib.hid hWs
    clear hU hR hR0 b0 b1 b2 k1 x1 x2 hown hkey hdk u0 hmq hqm hWs hmx hkd
    go_loopw [9] (fun sv wr => ∃ T, sv = .string T ∧ UL base bx tv F W wr w.heap.size f l c U R T) (fun sv _ => slen sv)
    case atStart => exact ⟨Tx, rfl, ⟨⟨_, S, F, _, HT.out.1.symm, Nat.lt_succ_self _, HX.out.2.1.tl _, HX.out.1.below (by rw [← HWW.out.1]; exact Below.new _ _), HX.out.2.1, Upd.refl _ _, by have := HU.out.2.2; rw [HT.out.2.1, Nat.add_sub_cancel] at this; exact this⟩, HB.out.2.2.2⟩⟩
    case round =>
      obtain ⟨T, rfl, hr⟩ := hrel
      obtain ⟨⟨s, S1, F1, k1, hT, hsk, hs3, hx1, hw1, hu1, hur⟩, hbl⟩ := hr
      have hbw : base ≤ wr.heap.size := Nat.le_trans HWW.out.2 hu1.size
      have b0 := hbl.cell (i := 0) rfl
      have b1 := hbl.cell (i := 1) rfl
      have b2 := hbl.cell (i := 2) rfl
      obtain ⟨k, rfl⟩ : ∃ k, k1 = k + 1 := ⟨k1 - 1, by omega⟩
      have hF1 : ∀ g, F1 g → g ≠ w.heap.size := by
        intro g hg
        rcases hu1.sub g hg with h | h
        · have := HX.out.2.2.2.1 g h; omega
        · have := HS.out; omega
      have H1 := Lib.hid (And.intro hT (And.intro hsk (And.intro hs3 (And.intro hx1 (And.intro hw1 (And.intro hu1 (And.intro hur (And.intro hbl (And.intro hbw hF1)))))))))
      obtain ⟨bm1, vt1, vo1, k1, D1, hxa, hF⟩ := hx1
      have x9 := hxa.blk.cell (i := 9) rfl
      clear hT hsk hs3 hw1 hu1 hur hbl hxa hF hbw hF1
      have hput : ∀ (W' : World) (hx : HasX base bx tv F1 W' S1) (hbW : base ≤ W'.heap.size) (t : Bs) (N : ByteArray), bstr t = N → t.length ≤ 32768 → Calls Tryz.prog 68 #[.pointer (some ⟨bx, 0, none⟩), .agg #[.string N, .int .i64 f, .int .i64 l, .int .i64 c, .bool true], .agg #[.int .i64 f, .int .i64 l, .int .i64 c], .bool false] W' (XR base bx tv F1 W' (putP S1 ⟨t, f, l, c, true⟩ f l c false) (.tuple #[])) :=
        fun W' hx hbW t N hN ht => hN ▸ put_any hx ⟨t, f, l, c, true⟩ f l c false hbW H1.out.2.2.2.2.1.fx (Nat.le_trans ht (by decide))
      have HP := Lib.hid hput
      clear hput
      by_cases he : S1.err = 0
      · rw [he] at x9
        have HE := Lib.hid he
        have hTs : T.size = s.length := by rw [H1.out.1, bstr_size]
        have hTd : T.data.toList = s := by rw [H1.out.1]; simp [bstr]
        have hIB := Tryz.strings_IndexByte T 96 wr
        have hTsz : (T.size : Int) ≤ 32768 := by have := H1.out.2.2.1; omega
        cases hc : cutB 96 s with
        | none =>
          have hi : Lib.indexByte T.data.toList (96 : Int).toNat.toUInt8 = -1 := by rw [hTd]; exact cutB_none hc
          rw [hi] at hIB
          have hpt := Lib.hid (HP.out _ H1.out.2.2.2.1 H1.out.2.2.2.2.2.2.2.2.1 s T H1.out.1.symm H1.out.2.2.1)
          have HR : Hid (putP S1 ⟨s, f, l, c, true⟩ f l c false = R) := Lib.hid (by
            have h := H1.out.2.2.2.2.2.2.1
            rw [useL, if_neg (by simp [HE.out]), hc] at h
            exact h)
          have HIB := Lib.hid hIB
          clear hIB hi hTs hTd he hc
          go_wp2_with fail
          refine HIB.out.mono ?_; rintro e w2 ⟨rfl, rfl⟩
          go_wp2_with fail
          refine hpt.out.mono ?_; rintro e w3 ⟨F3, rfl, hx3, hu3⟩
          have H3 := Lib.hid (And.intro hx3 hu3)
          clear hx3 hu3 hpt
          go_wp2_with fail
          go_end0
          exact ⟨F3, rfl, by rw [HU.out.2.1, ← HR.out]; exact H3.out.1, (Upd.below HX.out.2.2.2.2.1).trans (H1.out.2.2.2.2.2.1.trans H3.out.2)⟩
        | some xy =>
          obtain ⟨x, y⟩ := xy
          obtain ⟨hsx, hix⟩ := cutB_some hc
          obtain ⟨a, ha⟩ : ∃ a, x.length = a := ⟨_, rfl⟩
          have hi : Lib.indexByte T.data.toList (96 : Int).toNat.toUInt8 = (a : Int) := by rw [hTd, ← ha]; exact hix
          rw [hi] at hIB
          have hsl : s.length = a + 1 + y.length := by rw [hsx, ← ha]; simp; omega
          have hax : (a : Int) < (T.size : Int) := by omega
          have haw : IntKind.i64.wrap ((a : Int) + 1) = (a : Int) + 1 := i64_of (by omega)
          have he1 : bstr x = T.extract 0 a := by rw [H1.out.1, bstr_extract, hsx, ← ha]; simp
          have he2 : bstr y = T.extract (a + 1) T.size := by rw [hTs, H1.out.1, bstr_extract, List.take_length, hsx, ← ha]; simp
          have hxl : x.length ≤ 32768 := by have := H1.out.2.2.1; omega
          have HPx := Lib.hid (fun W' hx hbW => HP.out W' hx hbW x _ he1 hxl)
          have HIB := Lib.hid hIB
          have HY := Lib.hid (And.intro hsx (And.intro ha (And.intro hsl (And.intro he1 (And.intro he2 (And.intro hTs hc))))))
          clear hIB hi hTs hTd he hc hsx hix ha hsl he1 he2 hxl
          go_wp2_with fail
          refine HIB.out.mono ?_; rintro e w2 ⟨rfl, rfl⟩
          go_upto_region 10 with fail
          refine wp_region_still_tail 7 (by kernel_rfl) (by kernel_rfl) ?_
          simp only [List.take_succ_cons, List.take_zero, List.drop_succ_cons, List.drop_zero]
          change wpStill _ _ w2.drew (fun a' => wpList _ _ _ _ a' w2.drew) _ _
          have b0' : w2.drew.cell? ⟨w.heap.size, 0, none⟩ = _ := b0
          have b1' : w2.drew.cell? ⟨w.heap.size, 1, none⟩ = _ := b1
          have b2' : w2.drew.cell? ⟨w.heap.size, 2, none⟩ = _ := b2
          have H2 : Hid (HasX base bx tv F1 w2.drew S1 ∧ Blk w2.drew w.heap.size 32 [.int .i64 f, .int .i64 l, .int .i64 c] ∧ base ≤ w2.drew.heap.size ∧ Upd F F1 W w2.drew) :=
            Lib.hid ⟨H1.out.2.2.2.1.below (Below.refl _ _).drew, H1.out.2.2.2.2.2.2.2.1, H1.out.2.2.2.2.2.2.2.2.1, H1.out.2.2.2.2.2.1.trans (Upd.below (w := w2) (Below.refl _ _).drew)⟩
          clear b0 b1 b2 x9
          generalize w2.drew = W2 at *
          have hal : (a ≤ T.size) = True := eq_true (by omega)
          repeat still_step
          clear hal
          try refine wpStill_nil ?_
          clear b0' b1' b2'
          go_wp2_with fail
          refine (HPx.out _ H2.out.1 H2.out.2.2.1).mono ?_; rintro e w3 ⟨F3, rfl, hx3, hu3⟩
          have k3 : Blk w3 w.heap.size 32 [.int .i64 f, .int .i64 l, .int .i64 c] := (hu3.block _ H2.out.2.1.lt (fun hh => H1.out.2.2.2.2.2.2.2.2.2 _ hh rfl)).trans H2.out.2.1
          have hF3 : ∀ g, F3 g → g ≠ w.heap.size := by
            intro g hg
            rcases hu3.sub g hg with h | h
            · exact H1.out.2.2.2.2.2.2.2.2.2 g h
            · have := H2.out.2.1.lt; omega
          obtain ⟨S2, hS2⟩ : ∃ S2, putP S1 ⟨x, f, l, c, true⟩ f l c false = S2 := ⟨_, rfl⟩
          rw [hS2] at hx3
          have hw2 : WX S2 := by rw [← hS2]; exact H1.out.2.2.2.2.1.put _ _ _ _ _
          have hur2 : (if name y = [] then failP S2 f l c 5 else useL U f l c k (y.drop (name y).length) (U S2 (name y))) = R := by
            have h := H1.out.2.2.2.2.2.2.1
            rw [useL, if_neg (by simp [HE.out]), HY.out.2.2.2.2.2.2] at h
            rw [← hS2]; exact h
          have hNm := name_any (w := w3) y (by have := HY.out.2.2.1; have := H1.out.2.2.1; omega)
          rw [HY.out.2.2.2.2.1] at hNm
          have HNm := Lib.hid hNm
          have e0 := k3.cell (i := 0) rfl
          have e1 := k3.cell (i := 1) rfl
          have e2 := k3.cell (i := 2) rfl
          have H3 := Lib.hid (And.intro hx3 (And.intro (H2.out.2.2.2.trans hu3) (And.intro k3 (And.intro hF3 (And.intro hw2 hur2)))))
          clear hx3 hu3 k3 hF3 hS2 hw2 hur2 hNm
          go_wp2_with fail
          refine HNm.out.mono ?_; rintro e w4 ⟨rfl, rfl⟩
          by_cases hny : name y = []
          · have hie : (bstr (name y)).toList.isEmpty = true := by rw [hny, ByteArray.toList_eq]; rfl
            have hit : (bstr (name y)).toList = [] := by rw [hny, ByteArray.toList_eq]; rfl
            have HF := Lib.hid (fail_any H3.out.1 f l c 5)
            have HR : Hid (failP S2 f l c 5 = R) := Lib.hid (by have h := H3.out.2.2.2.2.2; rw [if_pos hny] at h; exact h)
            clear hny
            go_wp2_with fail
            refine HF.out.mono ?_; rintro e w5 ⟨F5, rfl, hx5, hu5⟩
            have H5 := Lib.hid (And.intro hx5 hu5)
            clear hx5 hu5 e0 e1 e2
            go_wp2_with fail
            go_end0
            exact ⟨F5, rfl, by (try rw [HU.out.2.1]); rw [← HR.out]; exact H5.out.1, (Upd.below HX.out.2.2.2.2.1).trans (H3.out.2.1.trans H5.out.2)⟩
          · obtain ⟨hnl, hie⟩ := bstr_ne hny
            obtain ⟨M, hM⟩ : ∃ M, bstr (name y) = M := ⟨_, rfl⟩
            have hMs : M.size = (name y).length := by rw [← hM, bstr_size]
            have hnle := name_le y
            have hyl := HY.out.2.2.1
            have hTs := HY.out.2.2.2.2.2.1
            have hMb : (a : Int) + 1 + (M.size : Int) ≤ (T.size : Int) := by omega
            have haw2 : IntKind.i64.wrap ((a : Int) + 1 + (M.size : Int)) = (a : Int) + 1 + (M.size : Int) := i64_of (by omega)
            have HIH := Lib.hid (HI.out w3 F3 S2 (name y) H3.out.1 H3.out.2.2.2.2.1 (Nat.le_trans HWW.out.2 H3.out.2.1.size) (by have := H1.out.2.2.1; omega))
            rw [hM] at hnl hie HIH ⊢
            have HR : Hid (useL U f l c k (y.drop (name y).length) (U S2 (name y)) = R) := Lib.hid (by have h := H3.out.2.2.2.2.2; rw [if_neg hny] at h; exact h)
            have HM := Lib.hid (And.intro hM (And.intro hMs hnle))
            clear hny hM hMs hnle hyl hTs
            go_wp2_with fail
            refine HIH.out.mono ?_; rintro e w5 ⟨F5, rfl, hx5, hu5⟩
            have k5 : Blk w5 w.heap.size 32 [.int .i64 f, .int .i64 l, .int .i64 c] := (hu5.block _ H3.out.2.2.1.lt (fun hh => H3.out.2.2.2.1 _ hh rfl)).trans H3.out.2.2.1
            have hw5 : WX (useP f l c d S2 (name y)) := (useP_wx f l c d S2 (name y) H3.out.2.2.2.2.1).1
            rw [HU.out.1] at hx5 hw5
            have H5 := Lib.hid (And.intro hx5 (And.intro hu5 (And.intro k5 hw5)))
            clear hx5 hu5 k5 hw5 e0 e1 e2
            go_wp2_with fail
            have hex : T.extract (a + 1 + M.size) T.size = bstr (y.drop (name y).length) := by
              rw [HY.out.2.2.2.2.2.1, H1.out.1, bstr_extract, List.take_length, HM.out.2.1, HY.out.1, ← HY.out.2.1]
              congr 1
              rw [show x.length + 1 + (name y).length = x.length + (1 + (name y).length) by omega, ← List.drop_drop, List.drop_left, ← List.drop_drop]
              rfl
            have hsl := HY.out.2.2.1
            have hsk := H1.out.2.1
            have hs3 := H1.out.2.2.1
            have hTs := HY.out.2.2.2.2.2.1
            refine ⟨⟨_, rfl, ⟨⟨y.drop (name y).length, U S2 (name y), F5, k, hex, ?_, ?_, H5.out.1, H5.out.2.2.2, H3.out.2.1.trans H5.out.2.1, HR.out⟩, H5.out.2.2.1⟩⟩, ?_⟩
            · rw [List.length_drop]; omega
            · rw [List.length_drop]; omega
            · rw [hex]
              show (bstr _).size < T.size
              rw [bstr_size, List.length_drop]; omega
      · have heb : (S1.err == 0) = false := by simp [he]
        have HE := Lib.hid he
        clear he
        have hpt := Lib.hid (HP.out _ H1.out.2.2.2.1 H1.out.2.2.2.2.2.2.2.2.1 s T H1.out.1.symm H1.out.2.2.1)
        have HR : Hid (putP S1 ⟨s, f, l, c, true⟩ f l c false = R) := Lib.hid (by
          have h := H1.out.2.2.2.2.2.2.1
          rw [useL, if_pos HE.out] at h
          rw [putP, if_pos (.inr HE.out)]; exact h)
        go_wp2_with fail
        refine hpt.out.mono ?_; rintro e w3 ⟨F3, rfl, hx3, hu3⟩
        have H3 := Lib.hid (And.intro hx3 hu3)
        clear hx3 hu3 hpt
        go_wp2_with fail
        go_end0
        exact ⟨F3, rfl, by rw [HU.out.2.1, ← HR.out]; exact H3.out.1, (Upd.below HX.out.2.2.2.2.1).trans (H1.out.2.2.2.2.2.1.trans H3.out.2)⟩
set_option maxRecDepth 100000 in
set_option maxHeartbeats 2000000 in
theorem use_zero {base bx : Nat} {tv : Value} {f l c : Int} {w : World} {F : Nat → Prop} {S : Xs} {n : Bs} (h : HasX base bx tv F w S) (hw : WX S) (hb : base ≤ w.heap.size) (hn : n.length ≤ 1000000) :
    Calls Tryz.prog 69 #[.pointer (some ⟨bx, 0, none⟩), .string (bstr n), .agg #[.int .i64 f, .int .i64 l, .int .i64 c], .int .i64 9] w (XR base bx tv F w (useP f l c 0 S n) (.tuple #[])) := by
  have hb1 := Below.new w (.cells #[.int .i64 f, .int .i64 l, .int .i64 c] 32)
  have k1 : Blk (w.alloc (.cells #[.int .i64 f, .int .i64 l, .int .i64 c] 32)) w.heap.size 32 [.int .i64 f, .int .i64 l, .int .i64 c] := Blk.new _ _
  have h1 := h.below hb1
  have HF9 := Lib.hid (fail_any h1 f l c 9)
  have HF8 := Lib.hid (fail_any h1 f l c 8)
  obtain ⟨bm, vt, vo, k, D, hx, hF⟩ := h1
  have x1 := hx.blk.cell (i := 1) rfl
  have hkey := key_of n hn
  have hown := hx.mp
  have hdk := hx.dk n
  obtain ⟨K, hK⟩ : ∃ K, S.defs n = K := ⟨_, rfl⟩
  rw [hK] at hdk
  have b0 := k1.cell (i := 0) rfl
  have b1 := k1.cell (i := 1) rfl
  have b2 := k1.cell (i := 2) rfl
  have HK := Lib.hid (And.intro hK hb1)
  generalize hWW : w.alloc (.cells #[.int .i64 f, .int .i64 l, .int .i64 c] 32) = W at *
  obtain ⟨N, hN⟩ : ∃ N, bstr n = N := ⟨_, rfl⟩
  rw [hN] at hkey ⊢
  clear h hw hb hb1 hx hF hK hN hn k1
  by_cases hk0 : K = 0
  · have hkd : ((K : Int) == 0) = true := by simp [hk0]
    have HZ := Lib.hid hk0
    clear hk0
    go_enter Tryz.func69, Tryz.ntmps69
    go_wp2_with (first
      | (at_lookup; refine wpList_lookup_own_int _ rfl _ _ 61 rfl 9 3 .i64 keyS Tryz.underlying61 Tryz.underlying3 (zeroInt _) bm k D rfl hown _ _ rfl hkey ?_; intro c2 hat hwc; obtain rfl : c2 = (K : Int) := by (rw [hdk] at hat; injection hat with hat; injection hat with _ hat; exact hat.symm))
      | fail)
    refine HF9.out.mono ?_; rintro e w3 ⟨F3, rfl, hx3, hu3⟩
    have H3 := Lib.hid (And.intro hx3 hu3)
    clear hx3 hu3
    go_wp2_with fail
    go_end0
    have hv : useP f l c 0 S n = failP S f l c 9 := by rw [useP, if_pos (by rw [HK.out.1, HZ.out])]
    rw [hv]
    exact ⟨F3, rfl, H3.out.1, (Upd.below HK.out.2).trans H3.out.2⟩
  · have hkd : ((K : Int) == 0) = false := by simp [hk0]
    have HZ := Lib.hid hk0
    clear hk0
    go_enter Tryz.func69, Tryz.ntmps69
    go_wp2_with (first
      | (at_lookup; refine wpList_lookup_own_int _ rfl _ _ 61 rfl 9 3 .i64 keyS Tryz.underlying61 Tryz.underlying3 (zeroInt _) bm k D rfl hown _ _ rfl hkey ?_; intro c2 hat hwc; obtain rfl : c2 = (K : Int) := by (rw [hdk] at hat; injection hat with hat; injection hat with _ hat; exact hat.symm))
      | fail)
    refine HF8.out.mono ?_; rintro e w3 ⟨F3, rfl, hx3, hu3⟩
    have H3 := Lib.hid (And.intro hx3 hu3)
    clear hx3 hu3
    go_wp2_with fail
    go_end0
    have hv : useP f l c 0 S n = failP S f l c 8 := by rw [useP, if_neg (by rw [HK.out.1]; exact HZ.out)]
    rw [hv]
    exact ⟨F3, rfl, H3.out.1, (Upd.below HK.out.2).trans H3.out.2⟩
/-- a use within the limit -/
theorem use_any {base bx : Nat} {tv : Value} {f l c : Int} : ∀ (d : Nat), d ≤ 8 → ∀ (w : World) (F : Nat → Prop) (S : Xs) (n : Bs), HasX base bx tv F w S → WX S → base ≤ w.heap.size → n.length ≤ 1000000 →
      Calls Tryz.prog 69 #[.pointer (some ⟨bx, 0, none⟩), .string (bstr n), .agg #[.int .i64 f, .int .i64 l, .int .i64 c], .int .i64 (9 - (d : Int))] w (XR base bx tv F w (useP f l c d S n) (.tuple #[]))
  | 0, _, w, F, S, n, h, hw, hb, hn => use_zero h hw hb hn
  | d + 1, hd, w, F, S, n, h, hw, hb, hn => by
    have := use_step (f := f) (l := l) (c := c) (d := d) (by omega) (fun w F S n h hw hb hn => use_any (f := f) (l := l) (c := c) d (by omega) w F S n h hw hb hn) h hw hb hn
    rw [show (9 : Int) - ((d + 1 : Nat) : Int) = 8 - (d : Int) by omega]
    exact this
end Go.Proofs.YtcjfelndnnhgjaaGreatDoor
namespace Go.Proofs.YtcjfelndnnhgjaaGreatDoor
set_option linter.unusedVariables false
open Go.RowKit Go.Maps

/-! # uses, plainly -/
/-- a piece of a file's own text -/
def ownPc (num : Nat) (T : Bs) (t : Bs) (m : Nat) : Pc := ⟨t, (num : Int) + 1, (plTo T m).1, (plTo T m).2, false⟩
def usesL (num : Nat) (T : Bs) : Nat → Bs → Nat → Xs → Fs → Xs × Fs
  | 0, _, _, S, P => (S, P)
  | k + 1, s, m, S, P => if S.err ≠ 0 then textP S P (ownPc num T s m) else match cutB 96 s with
    | none => textP S P (ownPc num T s m)
    | some (x, y) =>
      if name y = [] then (failP (textP S P (ownPc num T x m)).1 ((num : Int) + 1) (plTo T (m + x.length)).1 (plTo T (m + x.length)).2 5, (textP S P (ownPc num T x m)).2)
      else usesL num T k (y.drop (name y).length) (m + x.length + 1 + (name y).length)
        (useP ((num : Int) + 1) (plTo T (m + x.length)).1 (plTo T (m + x.length)).2 8 (textP S P (ownPc num T x m)).1 (name y)) { (textP S P (ownPc num T x m)).2 with joins := false }
def usesP (num : Nat) (T s : Bs) (m : Nat) (S : Xs) (P : Fs) : Xs × Fs := usesL num T (s.length + 1) s m S P
theorem textP_wx {S : Xs} (P : Fs) (p : Pc) (h : WX S) : WX (textP S P p).1 ∧ (textP S P p).1.defs = S.defs ∧ (textP S P p).1.texts = S.texts ∧ (textP S P p).2.num = P.num ∧ (textP S P p).2.conds = P.conds := by
  refine ⟨h.put _ _ _ _ _, (putP_same _ _ _ _ _ _).1, (putP_same _ _ _ _ _ _).2, ?_, ?_⟩
  all_goals
    unfold textP
    split <;> rfl
theorem usesL_wx (num : Nat) (T : Bs) : ∀ (k : Nat) (s : Bs) (m : Nat) (S : Xs) (P : Fs), WX S → WX (usesL num T k s m S P).1 ∧ (usesL num T k s m S P).1.defs = S.defs ∧ (usesL num T k s m S P).1.texts = S.texts ∧ (usesL num T k s m S P).2.num = P.num ∧ (usesL num T k s m S P).2.conds = P.conds
  | 0, _, _, S, P, h => ⟨h, rfl, rfl, rfl, rfl⟩
  | k + 1, s, m, S, P, h => by
    unfold usesL
    split
    · exact textP_wx P _ h
    · split
      · exact textP_wx P _ h
      · rename_i x y _
        obtain ⟨a1, a2, a3, a4, a5⟩ := textP_wx P (ownPc num T x m) h
        split
        · obtain ⟨g1, g2, _⟩ := failP_facts (textP S P (ownPc num T x m)).1 ((num : Int) + 1) (plTo T (m + x.length)).1 (plTo T (m + x.length)).2 5 (by decide)
          exact ⟨a1.fail _ _ _ _ (by decide), g1.trans a2, g2.trans a3, a4, a5⟩
        · obtain ⟨b1, b2, b3⟩ := useP_wx ((num : Int) + 1) (plTo T (m + x.length)).1 (plTo T (m + x.length)).2 8 (textP S P (ownPc num T x m)).1 (name y) a1
          obtain ⟨c1, c2, c3, c4, c5⟩ := usesL_wx num T k (y.drop (name y).length) (m + x.length + 1 + (name y).length) _ { (textP S P (ownPc num T x m)).2 with joins := false } b1
          exact ⟨c1, c2.trans (b2.trans a2), c3.trans (b3.trans a3), c4.trans a4, c5.trans a5⟩
end Go.Proofs.YtcjfelndnnhgjaaGreatDoor
namespace Go.Proofs.YtcjfelndnnhgjaaGreatDoor
set_option linter.unusedVariables false
open Go.RowKit Go.Maps

/-- what a line's uses do from here on -/
structure UF (base bx bf : Nat) (tv : Value) (F G : Nat → Prop) (w wr : World) (num : Nat) (T : Bs) (R : Xs × Fs) (s : Bs) (m : Nat) : Prop where
  ex : ∃ S P F' G' k, s.length < k ∧ HasXF base bx bf tv F' G' wr S P ∧ WX S ∧ P.num = num ∧ Upd (fun g => F g ∨ G g) (fun g => F' g ∨ G' g) w wr ∧ usesL num T k s m S P = R
  sz : s.length ≤ 32768
  fit : m + s.length ≤ T.length
theorem HasXF.base {base bx bf tv F G w S P} (h : HasXF base bx bf tv F G w S P) : ∀ g, (F g ∨ G g) → base ≤ g := fun g hg => hg.elim (fun hh => (h.x.lt g hh).1) (fun hh => (h.f.lt g hh).1)
set_option maxRecDepth 100000 in
set_option maxHeartbeats 8000000 in
theorem uses_any {w0 w : World} {bx bf bt : Nat} {ps : List Part} {fs : List Fil} {F G : Nat → Prop} {S : Xs} {P : Fs} (hM : Made w0 bt ps fs) (hl : fs.length ≤ 100000) (h0 : Below w0.heap.size w0 w)
    (h : HasXF w0.heap.size bx bf (.pointer (some ⟨bt, 0, none⟩)) F G w S P) (hw : WX S) (num : Nat) (hnum : P.num = num) (TB : ByteArray) (hT : (fs.getD num default).text = TB) (hn : num < fs.length) (T : Bs) (hTB : TB.data.toList = T) (s : Bs) (m : Nat) (hs : s.length ≤ 32768) (hm : m + s.length ≤ T.length) (hTl : T.length ≤ 32768) :
    Calls Tryz.prog 47 #[.pointer (some ⟨bf, 0, none⟩), .string (bstr s), .int .i64 m] w (FR w0.heap.size bx bf (.pointer (some ⟨bt, 0, none⟩)) F G w (usesP num T s m S P).1 (usesP num T s m S P).2 (.tuple #[])) := by
  obtain ⟨tv, htv⟩ : ∃ tv, Value.pointer (some ⟨bt, 0, none⟩) = tv := ⟨_, rfl⟩
  obtain ⟨base, hbase⟩ : ∃ base, w0.heap.size = base := ⟨_, rfl⟩
  have hbw : base ≤ w.heap.size := by rw [← hbase]; exact h0.size
  have hTsz : TB.size = T.length := by rw [← hTB]; simp
  -- place, from any later world
  have hplace : ∀ (w' : World) (F' G' : Nat → Prop) (S' : Xs) (P' : Fs) (j : Nat), HasXF base bx bf tv F' G' w' S' P' → P'.num = num → Upd (fun g => F g ∨ G g) (fun g => F' g ∨ G' g) w w' → j ≤ T.length →
      Calls Tryz.prog 43 #[.pointer (some ⟨bf, 0, none⟩), .int .i64 j] w' fun e w2 => e = .returned (.agg #[.int .i64 ((num : Int) + 1), .int .i64 (plTo T j).1, .int .i64 (plTo T j).2]) ∧ Below w'.heap.size w' w2 := by
    intro w' F' G' S' P' j hx hnu hu hj
    have hlow : Below w0.heap.size w0 w' := h0.trans (hu.low h.base h0.size)
    have := place_any hM hl hlow (P := P') (by rw [hbase, htv]; exact hx) j TB (by rw [hnu]; exact hT) (by rw [hnu]; exact hn) (by rw [hTsz]; exact hj)
    rw [hTB, hnu] at this
    exact this
  rw [hbase, htv] at h ⊢
  obtain ⟨R, hR⟩ : ∃ R, usesP num T s m S P = R := ⟨_, rfl⟩
  have hUF : UF base bx bf tv F G w w num T R s m := ⟨⟨S, P, F, G, s.length + 1, Nat.lt_succ_self _, h, hw, hnum, Upd.refl _ _, hR⟩, hs, hm⟩
  have HRR := Lib.hid hR
  rw [hR]
  have HPl := Lib.hid hplace
  have H0 := Lib.hid (And.intro hUF (And.intro hbw hTl))
  obtain ⟨sb, hsb⟩ : ∃ sb, bstr s = sb := ⟨_, rfl⟩
  rw [hsb]
  have HSb := Lib.hid hsb
  clear hM h0 h hw hnum hT hn hTB hs hm hTl htv hbase hbw hTsz hplace hR hUF hsb hl
  go_enter Tryz.func47, Tryz.ntmps47
  go_wp2_with fail
  go_loopw [1, 2] (fun sv iv wr => ∃ (TT : ByteArray) (s : Bs) (m : Nat), sv = .string TT ∧ bstr s = TT ∧ iv = .int .i64 m ∧ UF base bx bf tv F G w wr num T R s m) (fun sv _ _ => slen sv)
  case atStart => exact ⟨sb, s, m, rfl, HSb.out, rfl, H0.out.1⟩
  case round =>
    obtain ⟨TT, s1, m1, rfl, hTT, rfl, ⟨S1, P1, F1, G1, k1, hk, hx1, hw1, hnu1, hu1, hur⟩, hsz, hfit⟩ := hrel
    have hbw1 : base ≤ wr.heap.size := Nat.le_trans H0.out.2.1 hu1.size
    obtain ⟨k, rfl⟩ : ∃ k, k1 = k + 1 := ⟨k1 - 1, by omega⟩
    have HTx := Lib.hid (fun (W' : World) (hb : Below wr.heap.size wr W') (t : Bs) (N : ByteArray) (hN : bstr t = N) (j : Nat) (ht : t.length ≤ 32768) => hN ▸ text_any (hx1.below hb) (ownPc num T t j) (Nat.le_trans hbw1 hb.size) hw1.fx (Nat.le_trans ht (by decide)))
    obtain ⟨vc, hf, hG⟩ := hx1.f
    obtain ⟨bm, vt, vo, kk, D, hxa, hF⟩ := hx1.x
    have a0 := hf.blk.cell (i := 0) rfl
    have x9 := hxa.blk.cell (i := 9) rfl
    have H1 := Lib.hid (And.intro hTT (And.intro hk (And.intro hx1 (And.intro hw1 (And.intro hnu1 (And.intro hu1 (And.intro hur (And.intro hsz (And.intro hfit hbw1)))))))))
    have HP1 := Lib.hid (HPl.out wr F1 G1 S1 P1 m1 hx1 hnu1 hu1 (by omega))
    clear hTT hk hx1 hw1 hnu1 hu1 hur hsz hfit hbw1 hf hG hxa hF
    by_cases he : S1.err = 0
    · rw [he] at x9
      have HE := Lib.hid he
      have hTs : TT.size = s1.length := by rw [← H1.out.1, bstr_size]
      have hTd : TT.data.toList = s1 := by rw [← H1.out.1]; simp [bstr]
      have hIB := Tryz.strings_IndexByte TT 96 wr
      have hTsz : (TT.size : Int) ≤ 32768 := by have := H1.out.2.2.2.2.2.2.2.1; omega
      cases hc : cutB 96 s1 with
      | none =>
        have hi : Lib.indexByte TT.data.toList (96 : Int).toNat.toUInt8 = -1 := by rw [hTd]; exact cutB_none hc
        rw [hi] at hIB
        have HR : Hid (textP S1 P1 (ownPc num T s1 m1) = R) := Lib.hid (by
          have h := H1.out.2.2.2.2.2.2.1
          rw [usesL, if_neg (by simp [HE.out]), hc] at h
          exact h)
        have HIB := Lib.hid hIB
        clear hIB hi hTs hTd he hc
        go_wp2_with fail
        refine HIB.out.mono ?_; rintro e w2 ⟨rfl, rfl⟩
        go_wp2_with fail
        refine HP1.out.mono ?_; rintro e w2 ⟨rfl, hb2⟩
        have htx := Lib.hid (HTx.out w2 hb2 s1 TT H1.out.1 m1 H1.out.2.2.2.2.2.2.2.1)
        have HB2 := Lib.hid hb2
        clear hb2
        go_wp2_with fail
        refine htx.out.mono ?_; rintro e w3 ⟨F3, G3, rfl, hx3, hu3⟩
        have H3 := Lib.hid (And.intro hx3 hu3)
        clear hx3 hu3
        go_wp2_with fail
        go_end0
        exact ⟨F3, G3, rfl, by (try rw [HRR.out]); rw [← HR.out]; exact H3.out.1, H1.out.2.2.2.2.2.1.trans ((Upd.below HB2.out).trans H3.out.2)⟩
      | some xy =>
        obtain ⟨x, y⟩ := xy
        obtain ⟨hsx, hix⟩ := cutB_some hc
        obtain ⟨a, ha⟩ : ∃ a, x.length = a := ⟨_, rfl⟩
        have hi : Lib.indexByte TT.data.toList (96 : Int).toNat.toUInt8 = (a : Int) := by rw [hTd, ← ha]; exact hix
        rw [hi] at hIB
        have hsl : s1.length = a + 1 + y.length := by rw [hsx, ← ha]; simp; omega
        have hax : (a : Int) < (TT.size : Int) := by omega
        have haw : IntKind.i64.wrap ((a : Int) + 1) = (a : Int) + 1 := i64_of (by omega)
        have hm1 : (m1 : Int) ≤ 32768 := by have := H1.out.2.2.2.2.2.2.2.2.1; have := H0.out.2.2; omega
        obtain ⟨ma, hmad⟩ : ∃ ma, m1 + a = ma := ⟨_, rfl⟩
        have hma : IntKind.i64.wrap ((m1 : Int) + (a : Int)) = (ma : Int) := by rw [i64_of (by omega)]; omega
        have HMa := Lib.hid hmad
        clear hmad
        have he1 : bstr x = TT.extract 0 a := by rw [← H1.out.1, bstr_extract, hsx, ← ha]; simp
        have he2 : bstr y = TT.extract (a + 1) TT.size := by rw [hTs, ← H1.out.1, bstr_extract, List.take_length, hsx, ← ha]; simp
        have HIB := Lib.hid hIB
        have hxl : x.length ≤ 32768 := by have := H1.out.2.2.2.2.2.2.2.1; omega
        have HTxx := Lib.hid (fun W' hb => HTx.out W' hb x _ he1 m1 hxl)
        have HY := Lib.hid (And.intro hsx (And.intro ha (And.intro hsl (And.intro he1 (And.intro he2 (And.intro hTs hc))))))
        clear hIB hi hTs hTd he hc hsx hix ha hsl he1 he2 hxl
        go_wp2_with fail
        refine HIB.out.mono ?_; rintro e w2 ⟨rfl, rfl⟩
        go_upto_region 3 with fail
        have s0 : Below w2.heap.size w2 w2.drew := (Below.refl _ _).drew
        have HP2 : Hid (∀ W', Below w2.heap.size w2 W' → Calls Tryz.prog 43 #[.pointer (some ⟨bf, 0, none⟩), .int .i64 m1] W' fun e w2 => e = .returned (.agg #[.int .i64 ((num : Int) + 1), .int .i64 (plTo T m1).1, .int .i64 (plTo T m1).2]) ∧ Below W'.heap.size W' w2) :=
          Lib.hid fun W' hb => HPl.out W' F1 G1 S1 P1 m1 (H1.out.2.2.1.below hb) H1.out.2.2.2.2.1 (H1.out.2.2.2.2.2.1.trans (Upd.below hb)) (by have := H1.out.2.2.2.2.2.2.2.2.1; omega)
        have hal : (a ≤ TT.size) = True := eq_true (by omega)
        clear a0 x9
        go_region_held3 (fun w' => True) (trivial)
          (first
            | (go_at_call 43; refine (HP2.out _ s0).mono ?_; rintro e w6 ⟨rfl, hb6⟩; have s6 : Below w2.heap.size w2 w6 := Below.next s0 hb6; clear hb6)
            | (go_at_call 46; refine (HTxx.out _ s6).mono ?_; rintro e w7 ⟨F7, G7, rfl, hx7, hu7⟩; have H7 := Lib.hid (And.intro hx7 (And.intro hu7 s6)); clear hx7 hu7))
        clear hal s0 s6
        obtain ⟨Q2, hQ2⟩ : ∃ Q2, textP S1 P1 (ownPc num T x m1) = Q2 := ⟨_, rfl⟩
        obtain ⟨hx7, hu7, hs6⟩ := H7.out
        rw [hQ2] at hx7
        have htw := textP_wx P1 (ownPc num T x m1) H1.out.2.2.2.1
        rw [hQ2] at htw
        have hn2 : Q2.2.num = num := htw.2.2.2.1.trans H1.out.2.2.2.2.1
        have hu2 : Upd (fun g => F g ∨ G g) (fun g => F7 g ∨ G7 g) w w7 := H1.out.2.2.2.2.2.1.trans ((Upd.below hs6).trans hu7)
        have hur2 : (if name y = [] then (failP Q2.1 ((num : Int) + 1) (plTo T ma).1 (plTo T ma).2 5, Q2.2) else usesL num T k (y.drop (name y).length) (ma + 1 + (name y).length) (useP ((num : Int) + 1) (plTo T ma).1 (plTo T ma).2 8 Q2.1 (name y)) { Q2.2 with joins := false }) = R := by
          have h := H1.out.2.2.2.2.2.2.1
          rw [usesL, if_neg (by simp [HE.out]), HY.out.2.2.2.2.2.2] at h
          rw [← hQ2, ← HMa.out, ← HY.out.2.1]; exact h
        have hpl2 := HPl.out w7 F7 G7 Q2.1 Q2.2 ma hx7 hn2 hu2 (by have := H1.out.2.2.2.2.2.2.2.2.1; have := HMa.out; have := HY.out.2.2.1; omega)
        obtain ⟨pl, hpl⟩ : ∃ pl, plTo T ma = pl := ⟨_, rfl⟩
        rw [hpl] at hpl2 hur2
        have HP4 := Lib.hid hpl2
        have H8 := Lib.hid (And.intro hx7 (And.intro htw.1 (And.intro hn2 (And.intro hu2 hur2))))
        clear hx7 hu7 hs6 hQ2 htw hn2 hu2 hur2 hpl2 hpl
        go_wp2_with fail
        refine HP4.out.mono ?_; rintro e w8 ⟨rfl, hb8⟩
        have HB8 := Lib.hid hb8
        clear hb8
        go_wp2_with fail
        have k9 : Blk (w8.alloc (.cells #[.int .i64 ((num : Int) + 1), .int .i64 pl.1, .int .i64 pl.2] 32)) w8.heap.size 32 [.int .i64 ((num : Int) + 1), .int .i64 pl.1, .int .i64 pl.2] := Blk.new _ _
        have hb9 : Below w7.heap.size w7 (w8.alloc (.cells #[.int .i64 ((num : Int) + 1), .int .i64 pl.1, .int .i64 pl.2] 32)) := Below.next HB8.out (Below.new _ _)
        have hbox : ∀ g, F7 g ∨ G7 g → g ≠ w8.heap.size := by
          intro g hg
          have := HB8.out.size
          rcases hg with hg | hg
          · have := (H8.out.1.x.lt g hg).2; omega
          · have := (H8.out.1.f.lt g hg).2; omega
        have hx9 := H8.out.1.below hb9
        have hu9 := H8.out.2.2.2.1.trans (Upd.below hb9)
        obtain ⟨bo, hbo⟩ : ∃ bo, w8.heap.size = bo := ⟨_, rfl⟩
        rw [hbo] at k9 hbox
        simp only [hbo]
        generalize w8.alloc (.cells #[.int .i64 ((num : Int) + 1), .int .i64 pl.1, .int .i64 pl.2] 32) = W9 at *
        have hNm := name_any (w := W9) y (by have := HY.out.2.2.1; have := H1.out.2.2.2.2.2.2.2.1; omega)
        rw [HY.out.2.2.2.2.1] at hNm
        refine hNm.mono ?_; rintro e w4 ⟨rfl, rfl⟩
        obtain ⟨vc9, hf9, hG9⟩ := hx9.f
        have a0 := hf9.blk.cell (i := 0) rfl
        have e0 := k9.cell (i := 0) rfl
        have e1 := k9.cell (i := 1) rfl
        have e2 := k9.cell (i := 2) rfl
        have H9 := Lib.hid (And.intro hx9 (And.intro hu9 (And.intro k9 (And.intro hbox hb9))))
        have hdr : ∀ {W}, HasXF base bx bf tv F7 G7 W Q2.1 Q2.2 → HasXF base bx bf tv F7 G7 W.drew Q2.1 Q2.2 := fun h => h.below (Below.refl _ _).drew
        clear hx9 hu9 k9 hbox hb9 hf9 hG9 hNm hbo
        by_cases hny : name y = []
        · have hie : (bstr (name y)).toList.isEmpty = true := by rw [hny, ByteArray.toList_eq]; rfl
          have hit : (bstr (name y)).toList = [] := by rw [hny, ByteArray.toList_eq]; rfl
          have HR : Hid ((failP Q2.1 ((num : Int) + 1) pl.1 pl.2 5, Q2.2) = R) := Lib.hid (by have h := H8.out.2.2.2.2; rw [if_pos hny] at h; exact h)
          clear hny
          go_upto_region 7 with fail
          refine wp_region_still_tail 5 (by kernel_rfl) (by kernel_rfl) ?_
          simp only [List.take_succ_cons, List.take_zero, List.drop_succ_cons, List.drop_zero]
          change wpStill _ _ W9.drew (fun a' => wpList _ _ _ _ a' W9.drew) _ _
          have a0' : W9.drew.cell? ⟨bf, 0, none⟩ = _ := a0
          have e0' : W9.drew.cell? ⟨bo, 0, none⟩ = _ := e0
          have e1' : W9.drew.cell? ⟨bo, 1, none⟩ = _ := e1
          have e2' : W9.drew.cell? ⟨bo, 2, none⟩ = _ := e2
          have H10 : Hid (HasXF base bx bf tv F7 G7 W9.drew Q2.1 Q2.2 ∧ Upd (fun g => F g ∨ G g) (fun g => F7 g ∨ G7 g) w W9.drew) := Lib.hid ⟨hdr H9.out.1, H9.out.2.1.trans (Upd.below (w := W9) (Below.refl _ _).drew)⟩
          clear a0 e0 e1 e2 hdr
          generalize W9.drew = W4 at *
          repeat still_step
          try refine wpStill_nil ?_
          go_wp2_with fail
          refine (fail_any H10.out.1.x ((num : Int) + 1) pl.1 pl.2 5).mono ?_; rintro e w5 ⟨F5, rfl, hx5, hu5⟩
          have H5 := Lib.hid (And.intro (H10.out.1.xon hx5 hu5) (hu5.wide G7))
          clear hx5 hu5
          go_wp2_with fail
          go_end0
          exact ⟨F5, G7, rfl, by (try rw [HRR.out]); rw [← HR.out]; exact H5.out.1, H10.out.2.trans H5.out.2⟩
        · obtain ⟨hnl, hie⟩ := bstr_ne hny
          obtain ⟨M, hM⟩ : ∃ M, bstr (name y) = M := ⟨_, rfl⟩
          have hMs : M.size = (name y).length := by rw [← hM, bstr_size]
          have hnle := name_le y
          have hyl := HY.out.2.2.1
          have hTs := HY.out.2.2.2.2.2.1
          have hMb : (a : Int) + 1 + (M.size : Int) ≤ (TT.size : Int) := by omega
          have haw2 : IntKind.i64.wrap ((a : Int) + 1 + (M.size : Int)) = (a : Int) + 1 + (M.size : Int) := i64_of (by omega)
          have hmw1 : IntKind.i64.wrap ((ma : Int) + 1) = (ma : Int) + 1 := i64_of (by have := HMa.out; omega)
          have hmw2 : IntKind.i64.wrap ((ma : Int) + 1 + (M.size : Int)) = (ma : Int) + 1 + (M.size : Int) := i64_of (by have := HMa.out; omega)
          rw [hM] at hnl hie ⊢
          have HR : Hid (usesL num T k (y.drop (name y).length) (ma + 1 + (name y).length) (useP ((num : Int) + 1) pl.1 pl.2 8 Q2.1 (name y)) { Q2.2 with joins := false } = R) := Lib.hid (by have h := H8.out.2.2.2.2; rw [if_neg hny] at h; exact h)
          have HM := Lib.hid (And.intro hM (And.intro hMs hnle))
          clear hny hM hMs hnle hyl hTs
          go_upto_region 8 with fail
          refine wp_region_still_tail 6 (by kernel_rfl) (by kernel_rfl) ?_
          simp only [List.take_succ_cons, List.take_zero, List.drop_succ_cons, List.drop_zero]
          change wpStill _ _ W9.drew (fun a' => wpList _ _ _ _ a' W9.drew) _ _
          have a0' : W9.drew.cell? ⟨bf, 0, none⟩ = _ := a0
          have e0' : W9.drew.cell? ⟨bo, 0, none⟩ = _ := e0
          have e1' : W9.drew.cell? ⟨bo, 1, none⟩ = _ := e1
          have e2' : W9.drew.cell? ⟨bo, 2, none⟩ = _ := e2
          have H10 : Hid (HasXF base bx bf tv F7 G7 W9.drew Q2.1 Q2.2 ∧ Upd (fun g => F g ∨ G g) (fun g => F7 g ∨ G7 g) w W9.drew) := Lib.hid ⟨hdr H9.out.1, H9.out.2.1.trans (Upd.below (w := W9) (Below.refl _ _).drew)⟩
          clear a0 e0 e1 e2 hdr
          generalize W9.drew = W4 at *
          repeat still_step
          try refine wpStill_nil ?_
          go_wp2_with fail
          have huse := use_any (f := (num : Int) + 1) (l := pl.1) (c := pl.2) 8 (by decide) W4 F7 Q2.1 (name y) H10.out.1.x H8.out.2.1 (Nat.le_trans H0.out.2.1 H10.out.2.size) (by have := HM.out.2.2; have := HY.out.2.2.1; have := H1.out.2.2.2.2.2.2.2.1; omega)
          rw [HM.out.1] at huse
          refine huse.mono ?_; rintro e w5 ⟨F5, rfl, hx5, hu5⟩
          have h5 := H10.out.1.xon hx5 hu5
          have hj := h5.f.setJ false
          have hfin := h5.fon hj.1 hj.2
          have hw5 := (useP_wx ((num : Int) + 1) pl.1 pl.2 8 Q2.1 (name y) H8.out.2.1).1
          obtain ⟨vc5, hf5, hG5⟩ := h5.f
          have f3 := hf5.blk.frz 3
          have c3 := hf5.blk.cell (i := 3) rfl
          have H5 := Lib.hid (And.intro hfin (And.intro (H10.out.2.trans (hu5.wide G7)) hw5))
          clear hx5 hu5 h5 hj hfin hw5 hf5 hG5 huse a0' e0' e1' e2'
          go_wp2_with fail
          have hex : TT.extract (a + 1 + M.size) TT.size = bstr (y.drop (name y).length) := by
            rw [HY.out.2.2.2.2.2.1, ← H1.out.1, bstr_extract, List.take_length, HM.out.2.1, HY.out.1, ← HY.out.2.1]
            congr 1
            rw [show x.length + 1 + (name y).length = x.length + (1 + (name y).length) by omega, ← List.drop_drop, List.drop_left, ← List.drop_drop]
            rfl
          have hsl := HY.out.2.2.1
          have hsk := H1.out.2.1
          have hs3 := H1.out.2.2.2.2.2.2.2.1
          have hfit := H1.out.2.2.2.2.2.2.2.2.1
          have hTs := HY.out.2.2.2.2.2.1
          have hMs := HM.out.2.1
          have hnle := HM.out.2.2
          have hma := HMa.out
          refine ⟨⟨_, y.drop (name y).length, ma + 1 + (name y).length, rfl, hex.symm, ?_, ⟨⟨_, _, F5, G7, k, ?_, H5.out.1.1, H5.out.2.2, H8.out.2.2.1, H5.out.2.1.trans H5.out.1.2, HR.out⟩, ?_, ?_⟩⟩, ?_⟩
          · rw [hMs]; rfl
          · rw [List.length_drop]; omega
          · rw [List.length_drop]; omega
          · rw [List.length_drop]; omega
          · rw [hex]
            show (bstr _).size < TT.size
            rw [bstr_size, List.length_drop]; omega
    · have heb : (S1.err == 0) = false := by simp [he]
      have HE := Lib.hid he
      have HR : Hid (textP S1 P1 (ownPc num T s1 m1) = R) := Lib.hid (by
        have h := H1.out.2.2.2.2.2.2.1
        rw [usesL, if_pos he] at h; exact h)
      clear he
      go_wp2_with fail
      refine HP1.out.mono ?_; rintro e w2 ⟨rfl, hb2⟩
      have htx := Lib.hid (HTx.out w2 hb2 s1 TT H1.out.1 m1 H1.out.2.2.2.2.2.2.2.1)
      have HB2 := Lib.hid hb2
      clear hb2
      go_wp2_with fail
      refine htx.out.mono ?_; rintro e w3 ⟨F3, G3, rfl, hx3, hu3⟩
      have H3 := Lib.hid (And.intro hx3 hu3)
      clear hx3 hu3
      go_wp2_with fail
      go_end0
      exact ⟨F3, G3, rfl, by (try rw [HRR.out]); rw [← HR.out]; exact H3.out.1, H1.out.2.2.2.2.2.1.trans ((Upd.below HB2.out).trans H3.out.2)⟩
end Go.Proofs.YtcjfelndnnhgjaaGreatDoor
