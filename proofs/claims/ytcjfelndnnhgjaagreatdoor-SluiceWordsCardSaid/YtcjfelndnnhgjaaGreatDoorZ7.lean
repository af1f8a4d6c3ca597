/- Texts of this claim, one behind another: E15. They state lemmas; each names its own conditions. -/
import Derived.Test.YtcjfelndnnhgjaaGreatDoorZ6
namespace Go.Proofs.YtcjfelndnnhgjaaGreatDoor
set_option linter.unusedVariables false
open Go.RowKit Go.Maps

theorem infoCdB : (Tryz.prog.info? 90).map (fun i => (i.zero, i.size, i.bytes)) = some (some (.agg #[.int .i64 0, .int .i64 0, .int .i64 0, .bool false, .bool false, .bool false]), 6, 32) := by kernel_rfl
theorem TCds : SlTy Tryz.prog 84 90 6 32 (.agg #[.int .i64 0, .int .i64 0, .int .i64 0, .bool false, .bool false, .bool false]) := SlTy.of Tryz.underlying84 infoCdB rfl (by decide)
theorem Upd.wideL {G G' : Nat → Prop} {w w' : World} (h : Upd G G' w w') (F : Nat → Prop) : Upd (fun g => F g ∨ G g) (fun g => F g ∨ G' g) w w' :=
  ⟨h.os, h.tape, h.output, h.size, fun g hg hn => h.block g hg (fun hh => hn (.inr hh)), fun g hg => hg.elim (fun hh => .inl (.inl hh)) (fun hh => (h.sub g hh).imp .inr id)⟩
/-- the file's own blocks were written, new ones may be its own -/
theorem HasXF.fnew {base bx bf tv F G G' w S P P'} {w' : World} (h : HasXF base bx bf tv F G w S P) (hf : HasF base bx bf G' w' P') (hu : Upd G G' w w') : HasXF base bx bf tv F G' w' S P' ∧ Upd (fun g => F g ∨ G g) (fun g => F g ∨ G' g) w w' := by
  refine ⟨⟨h.x.keep fun g hg => hu.block g (h.x.lt g hg).2 (fun hh => h.dis g hh hg), hf, fun g hg hF => ?_⟩, hu.wideL F⟩
  rcases hu.sub g hg with hh | hh
  · exact h.dis g hh hF
  · have := (h.x.lt g hF).2; omega
theorem bstr_toList (l : Bs) : (bstr l).toList = l := by rw [ByteArray.toList_eq]; simp [bstr]
theorem bstr_cmp (l r : Bs) : ((bstr l).toList == (bstr r).toList) = decide (l = r) := by
  rw [bstr_toList, bstr_toList]
  by_cases h : l = r
  · simp [h]
  · rw [decide_eq_false h]; simpa using h
theorem bstr_is (l r : Bs) : ((bstr l).toList == r) = decide (l = r) := by
  rw [bstr_toList]
  by_cases h : l = r
  · simp [h]
  · rw [decide_eq_false h]; simpa using h
theorem ownsRow_take {w : World} {base e size m co : Nat} {po : Option Addr} {xs : List Value} (h : w.ownsRow base e size (.slice po m co) m xs) {q : Nat} (hq : q ≤ m) : w.ownsRow base e size (.slice po q co) q (xs.take (q * size)) := by
  have hle : q * size ≤ m * size := Nat.mul_le_mul_right _ hq
  refine ⟨by rw [List.length_take, h.1]; omega, ?_⟩
  rcases h.2 with ⟨hv, h0⟩ | ⟨g, cap, cur, hv, hb, hg, h1, h2, h3, h4⟩
  · cases hv
    exact .inl ⟨by rw [show q = 0 by omega], by omega⟩
  · cases hv
    refine .inr ⟨g, co, cur, rfl, hb, hg, by omega, h2, h3, ?_⟩
    rw [← h4, List.take_take]
    congr 1; omega
theorem condCells_take (l : List Cd) (q : Nat) : (condCells l).take (q * 6) = condCells (l.take q) := by
  apply List.ext_getElem?
  intro i
  by_cases hi : i < q * 6
  · rw [List.getElem?_take_of_lt hi]
    by_cases hl : i < l.length * 6
    · have e : i = i / 6 * 6 + i % 6 := by omega
      have h1 := condCells_at l (i / 6) (i % 6) (by omega) (by omega)
      have h2 := condCells_at (l.take q) (i / 6) (i % 6) (by rw [List.length_take]; omega) (by omega)
      rw [← e] at h1 h2
      rw [h1, h2]
      congr 2
      rw [List.getD, List.getD, List.getElem?_take_of_lt (by omega)]
    · rw [List.getElem?_eq_none (by rw [condCells_len]; omega), List.getElem?_eq_none (by rw [condCells_len, List.length_take]; omega)]
  · rw [List.getElem?_eq_none (by rw [List.length_take]; omega), List.getElem?_eq_none (by rw [condCells_len, List.length_take]; omega)]
theorem condCells_turn (l : List Cd) (q : Nat) (hq : q < l.length) (a b : Bool) : ((condCells l).set (q * 6 + 3) (.bool a)).set (q * 6 + 5) (.bool b) = condCells (l.modify q fun p => { p with counts := a, turned := b }) := by
  apply List.ext_getElem?
  intro i
  by_cases hi : i < l.length * 6
  · have h6 : i = i / 6 * 6 + i % 6 := by omega
    have hd : i / 6 < l.length := by omega
    have hL : (l.modify q fun p => { p with counts := a, turned := b }).length = l.length := by simp
    have hr := condCells_at (l.modify q fun p => { p with counts := a, turned := b }) (i / 6) (i % 6) (by rw [hL]; exact hd) (by omega)
    have hl := condCells_at l (i / 6) (i % 6) hd (by omega)
    rw [← h6] at hr hl
    rw [hr, List.getElem?_set, List.getElem?_set, hl]
    have hg : (l.modify q fun p => { p with counts := a, turned := b }).getD (i / 6) default = if i / 6 = q then { (l.getD q default) with counts := a, turned := b } else l.getD (i / 6) default := by
      rw [List.getD, List.getElem?_modify]
      split
      · rename_i e
        subst e
        simp [List.getD, List.getElem?_eq_getElem hd]
      · rename_i e
        rw [if_neg (Ne.symm e), List.getD]; simp
    rw [hg, List.length_set, condCells_len]
    by_cases he : i / 6 = q
    · rw [if_pos he, he]
      obtain h | h | h | h | h | h : i % 6 = 0 ∨ i % 6 = 1 ∨ i % 6 = 2 ∨ i % 6 = 3 ∨ i % 6 = 4 ∨ i % 6 = 5 := by omega
      · rw [if_neg (by omega), if_neg (by omega), h]; rfl
      · rw [if_neg (by omega), if_neg (by omega), h]; rfl
      · rw [if_neg (by omega), if_neg (by omega), h]; rfl
      · rw [if_neg (by omega), if_pos (by omega), if_pos (by omega), h]; rfl
      · rw [if_neg (by omega), if_neg (by omega), h]; rfl
      · rw [if_pos (by omega), if_pos (by omega), h]; rfl
    · rw [if_neg he, if_neg (by omega), if_neg (by omega)]
  · rw [List.getElem?_eq_none (by simp [condCells_len]; omega), List.getElem?_eq_none (by simp [condCells_len]; omega)]
/-- the last condition is dropped -/
theorem FAt.pop {base bx bf : Nat} {w : World} {P : Fs} {po : Option Addr} {m co : Nat} (h : FAt base bx bf w P (.slice po m co)) (hm : P.conds.length = m) (q : Nat) (hq : q ≤ m) :
    FAt base bx bf (w.setCell ⟨bf, 2, none⟩ (.slice po q co)) { P with conds := P.conds.take q } (.slice po q co) ∧ Upd (fFoot bf (.slice po m co)) (fFoot bf (.slice po q co)) w (w.setCell ⟨bf, 2, none⟩ (.slice po q co)) := by
  subst hm
  have hob : (Value.slice po q co).ownBlock = (Value.slice po P.conds.length co).ownBlock := by cases po <;> rfl
  have hl : (P.conds.take q).length = q := by rw [List.length_take]; omega
  refine ⟨⟨h.blk.set 2 _, ?_, by rw [hob]; exact h.ne, h.gf, by show (P.conds.take q).length ≤ _; have := h.bd; omega⟩, (upd_cell (w := w) (b := bf) (i := 2) (.slice po q co)).grow (fun g hg => .inl hg) (fun g hg => .inl ?_)⟩
  · show World.ownsRow _ base 90 6 (.slice po q co) (P.conds.take q).length (condCells (P.conds.take q))
    rw [hl, ← condCells_take]
    refine ownsRow_keep (ownsRow_take h.cs hq) fun g hg => Below.heap_setCell _ _ _ _ (fun e => h.ne ?_)
    subst e; rw [← hob]; exact hg
  · rcases hg with hg | hg
    · exact .inl hg
    · exact .inr (by rw [← hob]; exact hg)
/-- the last condition is turned -/
theorem FAt.turn {base bx bf g : Nat} {w : World} {P : Fs} {m co : Nat} (h : FAt base bx bf w P (.slice (some ⟨g, 0, none⟩) m co)) (hm : P.conds.length = m) (q : Nat) (hq : q < m) (a : Bool) :
    FAt base bx bf ((w.setCell ⟨g, q * 6 + 3, none⟩ (.bool a)).setCell ⟨g, q * 6 + 5, none⟩ (.bool true)) { P with conds := P.conds.modify q fun p => { p with counts := a, turned := true } } (.slice (some ⟨g, 0, none⟩) m co) ∧
      Upd (fFoot bf (.slice (some ⟨g, 0, none⟩) m co)) (fFoot bf (.slice (some ⟨g, 0, none⟩) m co)) w ((w.setCell ⟨g, q * 6 + 3, none⟩ (.bool a)).setCell ⟨g, q * 6 + 5, none⟩ (.bool true)) := by
  subst hm
  have hgb : g ≠ bf := fun e => h.ne (by rw [e]; rfl)
  have hl : (P.conds.modify q fun p => { p with counts := a, turned := true }).length = P.conds.length := by simp
  have hu := (upd_cell (w := w) (b := g) (i := q * 6 + 3) (.bool a)).trans (upd_cell (i := q * 6 + 5) (.bool true))
  refine ⟨⟨?_, ?_, h.ne, h.gf, by show (P.conds.modify q _).length ≤ _; rw [hl]; exact h.bd⟩, hu.grow (fun j hj => .inr (by rw [hj]; rfl)) (fun j hj => .inl hj)⟩
  · exact ((Below.heap_setCell _ _ _ _ (Ne.symm hgb)).trans (Below.heap_setCell _ _ _ _ (Ne.symm hgb))).trans h.blk
  · have h1 := ownsRow_setIn h.cs (q * 6 + 3) (by rw [condCells_len]; omega) (.bool a)
    have h2 := ownsRow_setIn h1 (q * 6 + 5) (by rw [List.length_set, condCells_len]; omega) (.bool true)
    rw [condCells_turn _ _ hq] at h2
    show World.ownsRow _ base 90 6 _ (P.conds.modify q _).length _
    rw [hl]; exact h2
set_option maxRecDepth 100000 in
set_option maxHeartbeats 8000000 in
theorem cond_else {w : World} {base bx bf : Nat} {tv : Value} {F G : Nat → Prop} {S : Xs} {P : Fs} (h : HasXF base bx bf tv F G w S P) (hb : base ≤ w.heap.size) (word rest : Bs) (f l c : Int) (apart : Bool)
    (hword : word = wIfdef ∨ word = wIfndef ∨ word = wElse ∨ word = wEndif) (hrest : rest.length ≤ 1000000) (hcl : P.conds.length ≤ 90000) (hw12 : ¬ (word = wIfdef ∨ word = wIfndef)) :
    Calls Tryz.prog 66 #[.pointer (some ⟨bf, 0, none⟩), .string (bstr word), .string (bstr rest), .agg #[.int .i64 f, .int .i64 l, .int .i64 c], .bool apart] w (FR base bx bf tv F G w (condP S P word rest f l c apart).1 (condP S P word rest f l c apart).2 (.tuple #[])) := by
  have hb1 := Below.new w (.cells #[.int .i64 f, .int .i64 l, .int .i64 c] 32)
  have k1 : Blk (w.alloc (.cells #[.int .i64 f, .int .i64 l, .int .i64 c] 32)) w.heap.size 32 [.int .i64 f, .int .i64 l, .int .i64 c] := Blk.new _ _
  have h1 := h.below hb1
  have hbox : ∀ g, F g ∨ G g → g ≠ w.heap.size := by
    intro g hg
    rcases hg with hg | hg
    · have := (h.x.lt g hg).2; omega
    · have := (h.f.lt g hg).2; omega
  have hq1 := bstr_is word wIfdef
  have hq2 := bstr_is word wIfndef
  have hq3 := bstr_is word wElse
  unfold wIfdef at hq1
  unfold wIfndef at hq2
  unfold wElse at hq3
  have hwi : decide (word = [105, 102, 100, 101, 102]) = decide (word = wIfdef) := rfl
  have hwn : decide (word = [105, 102, 110, 100, 101, 102]) = decide (word = wIfndef) := rfl
  have hwe : decide (word = [101, 108, 115, 101]) = decide (word = wElse) := rfl
  rw [hwi] at hq1
  rw [hwn] at hq2
  rw [hwe] at hq3
  obtain ⟨vc, hf, hG⟩ := h1.f
  obtain ⟨po, co, rfl, hco⟩ := ownsRow_le hf.cs
  have a0 := hf.blk.cell (i := 0) rfl
  have a2 := hf.blk.cell (i := 2) rfl
  have e0 := k1.cell (i := 0) rfl
  have e1 := k1.cell (i := 1) rfl
  have e2 := k1.cell (i := 2) rfl
  obtain ⟨m, hm⟩ : ∃ m, P.conds.length = m := ⟨_, rfl⟩
  rw [hm] at a2
  have hcs := hf.cs
  rw [hm] at hcs hco hf hG
  have hmw : P.conds.length = m := hm
  obtain ⟨R, hR⟩ : ∃ R, condP S P word rest f l c apart = R := ⟨_, rfl⟩
  rw [hR]
  have HX := Lib.hid (And.intro h1 (And.intro hb1 (And.intro k1 (And.intro hb (And.intro hbox (And.intro hf (And.intro hG hco)))))))
  have HM := Lib.hid (And.intro hm (And.intro hcl hrest))
  generalize hWW : w.alloc (.cells #[.int .i64 f, .int .i64 l, .int .i64 c] 32) = W at *
  have HWW := Lib.hid hWW
  obtain ⟨bo, hbo⟩ : ∃ bo, w.heap.size = bo := ⟨_, rfl⟩
  obtain ⟨WD, hWD⟩ : ∃ WD, bstr word = WD := ⟨_, rfl⟩
  obtain ⟨RT, hRT⟩ : ∃ RT, bstr rest = RT := ⟨_, rfl⟩
  rw [hWD] at hq1 hq2 hq3 ⊢
  rw [hRT]
  rw [hbo] at e0 e1 e2
  have HB := Lib.hid (And.intro hbo (And.intro hWD hRT))
  have HW := Lib.hid hword
  have hms : (m : Int) ≤ 90000 := by omega
  have HR0 := Lib.hid hR
  clear h hb1 k1 h1 hbox hf hG hco hm hmw hb hcs hcl hrest hWD hRT hword hR
  have hn1 : ¬ word = wIfdef := fun h => hw12 (.inl h)
  have hn2 : ¬ word = wIfndef := fun h => hw12 (.inr h)
  rw [decide_eq_false hn1] at hq1
  rw [decide_eq_false hn2] at hq2
  have hmz : ∀ {b : Bool}, decide (m = 0) = b → ((m : Int) == 0) = b := by
    intro b hb
    rw [← hb]
    by_cases h0 : m = 0
    · subst h0; rfl
    · rw [decide_eq_false h0]; simp [h0]
  by_cases hrn : rest = []
  · have hrt : RT.toList = [] := by rw [← HB.out.2.2, bstr_toList]; exact hrn
    have hrt2 : RT.toList.isEmpty = true := by rw [hrt]; rfl
    by_cases hm0 : m = 0
    · have hmz1 := hmz (decide_eq_true hm0)
      clear hmz
      by_cases hw3 : word = wElse
      · rw [decide_eq_true hw3] at hq3
        have HR1 := HR0.out
        unfold condP at HR1
        rw [if_neg hw12, if_pos hw3, if_pos (.inr (.inl (by rw [HM.out.1]; exact hm0)))] at HR1
        have HR := Lib.hid HR1.symm
        clear HR1 hrn hw12 hn1 hn2 hw3 hm0
        go_enter Tryz.func66, Tryz.ntmps66
        go_upto_region 15 with fail
        refine wp_region_still_tail 5 (by kernel_rfl) (by kernel_rfl) ?_
        simp only [List.take_succ_cons, List.take_zero, List.drop_succ_cons, List.drop_zero]
        change wpStill _ _ W.drew (fun a' => wpList _ _ _ _ a' W.drew) _ _
        have a0' : W.drew.cell? ⟨bf, 0, none⟩ = _ := a0
        have e0' : W.drew.cell? ⟨bo, 0, none⟩ = _ := e0
        have e1' : W.drew.cell? ⟨bo, 1, none⟩ = _ := e1
        have e2' : W.drew.cell? ⟨bo, 2, none⟩ = _ := e2
        have H10 : Hid (HasXF base bx bf tv F G W.drew S P ∧ Upd (fun g => F g ∨ G g) (fun g => F g ∨ G g) w W.drew) := Lib.hid ⟨HX.out.1.below (Below.refl _ _).drew, (Upd.below HX.out.2.1).trans (Upd.below (w := W) (Below.refl _ _).drew)⟩
        clear a0 a2 e0 e1 e2 hWW hbo
        generalize W.drew = W4 at *
        repeat still_step
        try refine wpStill_nil ?_
        go_wp2_with fail
        refine (fail_any H10.out.1.x f l c 5).mono ?_; rintro e w5 ⟨F5, rfl, hx5, hu5⟩
        have H5 := Lib.hid (And.intro (H10.out.1.xon hx5 hu5) (hu5.wide G))
        clear hx5 hu5
        go_wp2_with fail
        go_end0
        exact ⟨F5, G, rfl, by rw [HR.out]; exact H5.out.1, H10.out.2.trans H5.out.2⟩
      · rw [decide_eq_false hw3] at hq3
        have HR1 := HR0.out
        unfold condP at HR1
        rw [if_neg hw12, if_neg hw3, if_pos (.inr (by rw [HM.out.1]; exact hm0))] at HR1
        have HR := Lib.hid HR1.symm
        clear HR1 hrn hw12 hn1 hn2 hw3 hm0
        go_enter Tryz.func66, Tryz.ntmps66
        go_upto_region 4 with fail
        refine wp_region_still_tail 5 (by kernel_rfl) (by kernel_rfl) ?_
        simp only [List.take_succ_cons, List.take_zero, List.drop_succ_cons, List.drop_zero]
        change wpStill _ _ W.drew (fun a' => wpList _ _ _ _ a' W.drew) _ _
        have a0' : W.drew.cell? ⟨bf, 0, none⟩ = _ := a0
        have e0' : W.drew.cell? ⟨bo, 0, none⟩ = _ := e0
        have e1' : W.drew.cell? ⟨bo, 1, none⟩ = _ := e1
        have e2' : W.drew.cell? ⟨bo, 2, none⟩ = _ := e2
        have H10 : Hid (HasXF base bx bf tv F G W.drew S P ∧ Upd (fun g => F g ∨ G g) (fun g => F g ∨ G g) w W.drew) := Lib.hid ⟨HX.out.1.below (Below.refl _ _).drew, (Upd.below HX.out.2.1).trans (Upd.below (w := W) (Below.refl _ _).drew)⟩
        clear a0 a2 e0 e1 e2 hWW hbo
        generalize W.drew = W4 at *
        repeat still_step
        try refine wpStill_nil ?_
        go_wp2_with fail
        refine (fail_any H10.out.1.x f l c 5).mono ?_; rintro e w5 ⟨F5, rfl, hx5, hu5⟩
        have H5 := Lib.hid (And.intro (H10.out.1.xon hx5 hu5) (hu5.wide G))
        clear hx5 hu5
        go_wp2_with fail
        go_end0
        exact ⟨F5, G, rfl, by rw [HR.out]; exact H5.out.1, H10.out.2.trans H5.out.2⟩
    · have hmz1 := hmz (decide_eq_false hm0)
      clear hmz
      obtain ⟨q, hq⟩ : ∃ q, m = q + 1 := ⟨m - 1, by omega⟩
      have hmq : IntKind.i64.wrap ((m : Int) - 1) = (q : Int) := by rw [i64_of (by omega)]; omega
      have hqm : (q : Int) < (m : Int) := by omega
      by_cases hw3 : word = wElse
      · rw [decide_eq_true hw3] at hq3
        obtain ⟨g, rfl⟩ : ∃ g, po = some ⟨g, 0, none⟩ := by
          have h := HX.out.2.2.2.2.2.1.cs
          rw [HM.out.1] at h
          obtain ⟨g, cap, e, _⟩ := h.form (by omega)
          cases e; exact ⟨g, rfl⟩
        have hcs := HX.out.2.2.2.2.2.1.cs
        rw [HM.out.1] at hcs
        have hgl := (hcs.lt g rfl).2
        have hql : q < P.conds.length := by rw [HM.out.1]; omega
        obtain ⟨p, hp⟩ : ∃ p, P.conds.getD q default = p := ⟨_, rfl⟩
        have u3 : W.cell? ⟨g, q * 6 + 3, none⟩ = some (.bool p.counts) := by
          rw [hcs.cellAt _ (by omega), condCells_at _ _ _ hql (by decide), hp]; rfl
        have u4 : W.cell? ⟨g, q * 6 + 4, none⟩ = some (.bool p.ahead) := by
          rw [hcs.cellAt _ (by omega), condCells_at _ _ _ hql (by decide), hp]; rfl
        have u5 : W.cell? ⟨g, q * 6 + 5, none⟩ = some (.bool p.turned) := by
          rw [hcs.cellAt _ (by omega), condCells_at _ _ _ hql (by decide), hp]; rfl
        have v3 : W.frozen? ⟨g, q * 6 + 3, none⟩ = false := hcs.frozenAt _
        have v5 : W.frozen? ⟨g, q * 6 + 5, none⟩ = false := hcs.frozenAt _
        have HR1 := HR0.out
        unfold condP at HR1
        rw [if_neg hw12, if_pos hw3] at HR1
        have hgd : P.conds.getD (P.conds.length - 1) default = p := by rw [HM.out.1, hq, Nat.add_sub_cancel]; exact hp
        rw [hgd] at HR1
        cases hpt : p.turned with
        | true =>
          rw [hpt] at u5 HR1
          rw [if_pos (.inr (.inr rfl))] at HR1
          have HR := Lib.hid HR1.symm
          clear HR1 hrn hw12 hn1 hn2 hw3 hm0 hq hcs hgl hql hp hgd hpt u3 u4 v3 v5
          go_enter Tryz.func66, Tryz.ntmps66
          go_upto_region 15 with fail
          refine wp_region_still_tail 5 (by kernel_rfl) (by kernel_rfl) ?_
          simp only [List.take_succ_cons, List.take_zero, List.drop_succ_cons, List.drop_zero]
          change wpStill _ _ W.drew (fun a' => wpList _ _ _ _ a' W.drew) _ _
          have a0' : W.drew.cell? ⟨bf, 0, none⟩ = _ := a0
          have e0' : W.drew.cell? ⟨bo, 0, none⟩ = _ := e0
          have e1' : W.drew.cell? ⟨bo, 1, none⟩ = _ := e1
          have e2' : W.drew.cell? ⟨bo, 2, none⟩ = _ := e2
          have H10 : Hid (HasXF base bx bf tv F G W.drew S P ∧ Upd (fun g => F g ∨ G g) (fun g => F g ∨ G g) w W.drew) := Lib.hid ⟨HX.out.1.below (Below.refl _ _).drew, (Upd.below HX.out.2.1).trans (Upd.below (w := W) (Below.refl _ _).drew)⟩
          clear a0 a2 e0 e1 e2 hWW hbo
          generalize W.drew = W4 at *
          repeat still_step
          try refine wpStill_nil ?_
          go_wp2_with fail
          refine (fail_any H10.out.1.x f l c 5).mono ?_; rintro e w5 ⟨F5, rfl, hx5, hu5⟩
          have H5 := Lib.hid (And.intro (H10.out.1.xon hx5 hu5) (hu5.wide G))
          clear hx5 hu5
          go_wp2_with fail
          go_end0
          exact ⟨F5, G, rfl, by rw [HR.out]; exact H5.out.1, H10.out.2.trans H5.out.2⟩
        | false =>
          rw [hpt] at u5 HR1
          rw [if_neg (by rintro (h | h | h); exact h hrn; rw [HM.out.1] at h; exact hm0 h; cases h)] at HR1
          have hturn : ∀ a : Bool, a = (p.ahead && !p.counts) → ({ P with conds := P.conds.modify (P.conds.length - 1) fun q => { q with counts := q.ahead && !q.counts, turned := true } } : Fs) = { P with conds := P.conds.modify q fun p => { p with counts := a, turned := true } } := by
            intro a ha
            rw [show P.conds.length - 1 = q by rw [HM.out.1]; omega]
            congr 1
            apply List.ext_getElem?
            intro i
            rw [List.getElem?_modify, List.getElem?_modify]
            by_cases hi : q = i
            · subst hi
              have : P.conds[q]? = some p := by rw [← hp]; simp [List.getD, List.getElem?_eq_getElem hql]
              rw [this, ha]; simp
            · simp [hi]
          have HT := Lib.hid hturn
          have HR := Lib.hid HR1.symm
          have HF := HX.out.2.2.2.2.2.1
          have hturnF := fun a => HF.turn HM.out.1 q (by omega) a
          have HTF := Lib.hid hturnF
          have HPc := Lib.hid hpt
          clear HR1 hrn hw12 hn1 hn2 hw3 hm0 hq hcs hgl hql hp hgd hpt hturn HF hturnF e0 e1 e2
          obtain ⟨pa, hpa⟩ : ∃ pa, p.ahead = pa := ⟨_, rfl⟩
          obtain ⟨pc, hpc⟩ : ∃ pc, p.counts = pc := ⟨_, rfl⟩
          rw [hpa] at u4
          rw [hpc] at u3
          have HPA := Lib.hid (And.intro hpa hpc)
          clear hpa hpc
          cases pa <;> cases pc
          all_goals
            go_enter Tryz.func66, Tryz.ntmps66
            go_wp2_with fail
            go_end0
          · have hft := HTF.out false
            have hfn := HX.out.1.fnew (G' := fFoot bf (.slice (some ⟨g, 0, none⟩) m co)) ⟨_, hft.1, rfl⟩ (by rw [HX.out.2.2.2.2.2.2.1]; exact hft.2)
            exact ⟨F, _, rfl, by rw [HR.out, HT.out false (by rw [HPA.out.1, HPA.out.2]; rfl)]; exact hfn.1, (Upd.below HX.out.2.1).trans hfn.2⟩
          · have hft := HTF.out false
            have hfn := HX.out.1.fnew (G' := fFoot bf (.slice (some ⟨g, 0, none⟩) m co)) ⟨_, hft.1, rfl⟩ (by rw [HX.out.2.2.2.2.2.2.1]; exact hft.2)
            exact ⟨F, _, rfl, by rw [HR.out, HT.out false (by rw [HPA.out.1, HPA.out.2]; rfl)]; exact hfn.1, (Upd.below HX.out.2.1).trans hfn.2⟩
          · have hft := HTF.out true
            have hfn := HX.out.1.fnew (G' := fFoot bf (.slice (some ⟨g, 0, none⟩) m co)) ⟨_, hft.1, rfl⟩ (by rw [HX.out.2.2.2.2.2.2.1]; exact hft.2)
            exact ⟨F, _, rfl, by rw [HR.out, HT.out true (by rw [HPA.out.1, HPA.out.2]; rfl)]; exact hfn.1, (Upd.below HX.out.2.1).trans hfn.2⟩
          · have hft := HTF.out false
            have hfn := HX.out.1.fnew (G' := fFoot bf (.slice (some ⟨g, 0, none⟩) m co)) ⟨_, hft.1, rfl⟩ (by rw [HX.out.2.2.2.2.2.2.1]; exact hft.2)
            exact ⟨F, _, rfl, by rw [HR.out, HT.out false (by rw [HPA.out.1, HPA.out.2]; rfl)]; exact hfn.1, (Upd.below HX.out.2.1).trans hfn.2⟩
      · rw [decide_eq_false hw3] at hq3
        have HR1 := HR0.out
        unfold condP at HR1
        rw [if_neg hw12, if_neg hw3, if_neg (by rintro (h | h); exact h hrn; rw [HM.out.1] at h; exact hm0 h)] at HR1
        have HR := Lib.hid HR1.symm
        have hqc : (q : Int) ≤ (co : Int) := by have := HX.out.2.2.2.2.2.2.2; omega
        have hpop := HX.out.2.2.2.2.2.1.pop HM.out.1 q (by omega)
        have hfz := HX.out.2.2.2.2.2.1.blk.frz 2
        have HP := Lib.hid (And.intro hpop hq)
        clear HR1 hrn hw12 hn1 hn2 hw3 hm0 hq hpop e0 e1 e2
        go_enter Tryz.func66, Tryz.ntmps66
        go_wp2_with fail
        go_end0
        have hfn := HX.out.1.fnew (G' := fFoot bf (.slice po q co)) ⟨_, HP.out.1.1, rfl⟩ (by rw [HX.out.2.2.2.2.2.2.1]; exact HP.out.1.2)
        have hlq : P.conds.length - 1 = q := by have := HP.out.2; have := HM.out.1; omega
        rw [hlq] at HR
        exact ⟨F, _, rfl, by rw [HR.out]; exact hfn.1, (Upd.below HX.out.2.1).trans hfn.2⟩
  · have hrt : (RT.toList.isEmpty) = false := by rw [← HB.out.2.2]; exact (bstr_ne hrn).2
    have hrt2 : ¬ RT.toList = [] := by rw [← HB.out.2.2]; exact (bstr_ne hrn).1
    clear hmz
    by_cases hw3 : word = wElse
    · rw [decide_eq_true hw3] at hq3
      have HR1 := HR0.out
      unfold condP at HR1
      rw [if_neg hw12, if_pos hw3, if_pos (.inl hrn)] at HR1
      have HR := Lib.hid HR1.symm
      clear HR1 hrn hw12 hn1 hn2 hw3
      go_enter Tryz.func66, Tryz.ntmps66
      go_upto_region 15 with fail
      refine wp_region_still_tail 5 (by kernel_rfl) (by kernel_rfl) ?_
      simp only [List.take_succ_cons, List.take_zero, List.drop_succ_cons, List.drop_zero]
      change wpStill _ _ W.drew (fun a' => wpList _ _ _ _ a' W.drew) _ _
      have a0' : W.drew.cell? ⟨bf, 0, none⟩ = _ := a0
      have e0' : W.drew.cell? ⟨bo, 0, none⟩ = _ := e0
      have e1' : W.drew.cell? ⟨bo, 1, none⟩ = _ := e1
      have e2' : W.drew.cell? ⟨bo, 2, none⟩ = _ := e2
      have H10 : Hid (HasXF base bx bf tv F G W.drew S P ∧ Upd (fun g => F g ∨ G g) (fun g => F g ∨ G g) w W.drew) := Lib.hid ⟨HX.out.1.below (Below.refl _ _).drew, (Upd.below HX.out.2.1).trans (Upd.below (w := W) (Below.refl _ _).drew)⟩
      clear a0 a2 e0 e1 e2 hWW hbo
      generalize W.drew = W4 at *
      repeat still_step
      try refine wpStill_nil ?_
      go_wp2_with fail
      refine (fail_any H10.out.1.x f l c 5).mono ?_; rintro e w5 ⟨F5, rfl, hx5, hu5⟩
      have H5 := Lib.hid (And.intro (H10.out.1.xon hx5 hu5) (hu5.wide G))
      clear hx5 hu5
      go_wp2_with fail
      go_end0
      exact ⟨F5, G, rfl, by rw [HR.out]; exact H5.out.1, H10.out.2.trans H5.out.2⟩
    · rw [decide_eq_false hw3] at hq3
      have HR1 := HR0.out
      unfold condP at HR1
      rw [if_neg hw12, if_neg hw3, if_pos (.inl hrn)] at HR1
      have HR := Lib.hid HR1.symm
      clear HR1 hrn hw12 hn1 hn2 hw3
      go_enter Tryz.func66, Tryz.ntmps66
      go_upto_region 4 with fail
      refine wp_region_still_tail 5 (by kernel_rfl) (by kernel_rfl) ?_
      simp only [List.take_succ_cons, List.take_zero, List.drop_succ_cons, List.drop_zero]
      change wpStill _ _ W.drew (fun a' => wpList _ _ _ _ a' W.drew) _ _
      have a0' : W.drew.cell? ⟨bf, 0, none⟩ = _ := a0
      have e0' : W.drew.cell? ⟨bo, 0, none⟩ = _ := e0
      have e1' : W.drew.cell? ⟨bo, 1, none⟩ = _ := e1
      have e2' : W.drew.cell? ⟨bo, 2, none⟩ = _ := e2
      have H10 : Hid (HasXF base bx bf tv F G W.drew S P ∧ Upd (fun g => F g ∨ G g) (fun g => F g ∨ G g) w W.drew) := Lib.hid ⟨HX.out.1.below (Below.refl _ _).drew, (Upd.below HX.out.2.1).trans (Upd.below (w := W) (Below.refl _ _).drew)⟩
      clear a0 a2 e0 e1 e2 hWW hbo
      generalize W.drew = W4 at *
      repeat still_step
      try refine wpStill_nil ?_
      go_wp2_with fail
      refine (fail_any H10.out.1.x f l c 5).mono ?_; rintro e w5 ⟨F5, rfl, hx5, hu5⟩
      have H5 := Lib.hid (And.intro (H10.out.1.xon hx5 hu5) (hu5.wide G))
      clear hx5 hu5
      go_wp2_with fail
      go_end0
      exact ⟨F5, G, rfl, by rw [HR.out]; exact H5.out.1, H10.out.2.trans H5.out.2⟩
end Go.Proofs.YtcjfelndnnhgjaaGreatDoor
