import Derived.Test.YtkoggfahjlnecaaGreatDoorC7
namespace Go.Proofs.YtkoggfahjlnecaaGreatDoor
set_option linter.unusedVariables false
open Go.RowKit Go.Sort

/-! # konst: an operator of two, an expression -/
def EvR (bx : Nat) (nm : Int) (ep : Option Addr) (ec : Nat) (w : World) (o : Option Int) (e : Ending) (w' : World) : Prop :=
  (match o with
    | some n => e = .returned (.int .i64 n) ∧ KS bx nm ep ec 0 w'
    | none => e = .returned (.int .i64 0) ∧ KS bx nm ep ec 3 w') ∧ Upd (One bx) (One bx) w w'
def ExprC (bx : Nat) (nm : Int) (ep : Option Addr) (ec : Nat) (e : KE) : Prop := ∀ (w : World) (cs : List Value), KS bx nm ep ec 0 w → EX (fun k => k < bx) w e cs → Calls Tryz.prog 14 #[.pointer (some ⟨bx, 0, none⟩), .agg cs.toArray] w (EvR bx nm ep ec w (evK nm e))
/-- what two tells: the sum is not yet looked at -/
def twoK (nm : Int) (o : Nat) (a b : KE) : Option Int :=
  match evK nm a, evK nm b with
  | some x, some y => some (opI o x y)
  | _, _ => none
theorem EX.low {B : Nat} {w w' : World} {e : KE} {cs : List Value} (h : EX (fun k => k < B) w e cs) (hb : Below B w w') : EX (fun k => k < B) w' e cs := h.turn fun b hb2 _ => ⟨hb2, hb.block b hb2⟩
theorem ROA.low {B : Nat} {w w' : World} {v : Value} {size n : Nat} {cs : List Value} (h : ROA (fun k => k < B) w v size n cs) (hb : Below B w w') : ROA (fun k => k < B) w' v size n cs := h.turn fun b hb2 _ => ⟨hb2, hb.block b hb2⟩
theorem opT_free {o : Nat} (ho : o < 7) : ∀ t ∈ ([[38, 38], [124, 124], [47], [37], [60, 60], [60, 60, 60], [62, 62], [62, 62, 62]] : List (List UInt8)), ¬ (opT o).toList = t := by
  have h : o = 0 ∨ o = 1 ∨ o = 2 ∨ o = 3 ∨ o = 4 ∨ o = 5 ∨ o = 6 := by omega
  intro t ht
  simp only [List.mem_cons, List.not_mem_nil, or_false] at ht
  rcases h with rfl | rfl | rfl | rfl | rfl | rfl | rfl <;> rcases ht with rfl | rfl | rfl | rfl | rfl | rfl | rfl | rfl <;> (rw [ByteArray.toList_eq]; decide)
set_option maxRecDepth 100000 in
set_option maxHeartbeats 4000000 in
theorem ktwo_any {bx : Nat} {nm : Int} {ep : Option Addr} {ec : Nat} {o : Nat} {a b : KE} (hnm : fitI nm) (ho : o < 7) (hwa : a.wf) (hwb : b.wf) (iha : ExprC bx nm ep ec a) (ihb : ExprC bx nm ep ec b) {w : World} {p : Option Addr} {c : Nat} {ca cb : List Value} (hk : KS bx nm ep ec 0 w)
    (hr : ROA (fun k => k < bx) w (.slice p 2 c) 6 2 (ca ++ cb)) (hxa : EX (fun k => k < bx) w a ca) (hxb : EX (fun k => k < bx) w b cb) :
    Calls Tryz.prog 32 #[.pointer (some ⟨bx, 0, none⟩), .agg #[.int .i64 4, .int .i64 0, .int .i64 0, .int .i64 0, .string (opT o), .slice p 2 c]] w (EvR bx nm ep ec w (twoK nm o a b)) := by
  obtain ⟨k1, t1, p1, n1, c1, rfl⟩ := hxa.form
  obtain ⟨k2, t2, p2, n2, c2, rfl⟩ := hxb.form
  have hop := opT_free ho
  have HR := Lib.hid (fun (w : World) (x y : Int) (hx : fitI x) (hy : fitI y) => kresult_any (w := w) (bx := bx) ho (p := p) (c := c) hx hy)
  obtain ⟨t, ht⟩ : ∃ t, opT o = t := ⟨_, rfl⟩
  rw [ht] at hop HR ⊢
  have q0 := hop [38, 38] (by simp)
  have s0 : (t.toList == [38, 38]) = false := beq_eq_false_iff_ne.2 q0
  have q1 := hop [124, 124] (by simp)
  have s1 : (t.toList == [124, 124]) = false := beq_eq_false_iff_ne.2 q1
  have q2 := hop [47] (by simp)
  have s2 : (t.toList == [47]) = false := beq_eq_false_iff_ne.2 q2
  have q3 := hop [37] (by simp)
  have s3 : (t.toList == [37]) = false := beq_eq_false_iff_ne.2 q3
  have q4 := hop [60, 60] (by simp)
  have s4 : (t.toList == [60, 60]) = false := beq_eq_false_iff_ne.2 q4
  have q5 := hop [60, 60, 60] (by simp)
  have s5 : (t.toList == [60, 60, 60]) = false := beq_eq_false_iff_ne.2 q5
  have q6 := hop [62, 62] (by simp)
  have s6 : (t.toList == [62, 62]) = false := beq_eq_false_iff_ne.2 q6
  have q7 := hop [62, 62, 62] (by simp)
  have s7 : (t.toList == [62, 62, 62]) = false := beq_eq_false_iff_ne.2 q7
  clear hop ht ho
  obtain ⟨pb, po, rfl⟩ := hr.sl (j := 0) rfl
  have hn := Below.new w (.cells #[.int .i64 4, .int .i64 0, .int .i64 0, .int .i64 0, .string t, .slice (some ⟨pb, po, none⟩) 2 c] 27)
  have H := Lib.hid (And.intro (hk.next hn) (And.intro (hr.low (hn.mono (Nat.le_of_lt hk.bk.lt))) (And.intro (hxa.low (hn.mono (Nat.le_of_lt hk.bk.lt))) (And.intro (hxb.low (hn.mono (Nat.le_of_lt hk.bk.lt))) (And.intro (Upd.below (F := One bx) hn) (And.intro (Blk.new (w := w) 27 [.int .i64 4, .int .i64 0, .int .i64 0, .int .i64 0, .string t, .slice (some ⟨pb, po, none⟩) 2 c]) (Ne.symm (Nat.ne_of_lt hk.bk.lt))))))))
  have HI := Lib.hid (And.intro iha (And.intro ihb (And.intro hnm (And.intro hwa hwb))))
  clear hk hr hxa hxb hn iha ihb hnm hwa hwb
  go_enter Tryz.func32, Tryz.ntmps32
  go_upto_region 1 with fail
  obtain ⟨b1, hb1⟩ : ∃ b, w.heap.size = b := ⟨_, rfl⟩
  rw [hb1] at H ⊢
  change Hid (KS _ _ _ _ _ (w.alloc (.cells #[.int .i64 4, .int .i64 0, .int .i64 0, .int .i64 0, .string t, .slice (some ⟨pb, po, none⟩) 2 c] 27)) ∧ _) at H
  generalize (w.alloc (.cells #[.int .i64 4, .int .i64 0, .int .i64 0, .int .i64 0, .string t, .slice (some ⟨pb, po, none⟩) 2 c] 27)) = w1 at *
  clear hb1
  have x0 := H.out.2.2.2.2.2.1.cell (i := 0) rfl
  have x1 := H.out.2.2.2.2.2.1.cell (i := 1) rfl
  have x2 := H.out.2.2.2.2.2.1.cell (i := 2) rfl
  have x3 := H.out.2.2.2.2.2.1.cell (i := 3) rfl
  have x4 := H.out.2.2.2.2.2.1.cell (i := 4) rfl
  have x5 := H.out.2.2.2.2.2.1.cell (i := 5) rfl
  have z0 := H.out.2.1.ro.cell (j := 0) rfl
  have z1 := H.out.2.1.ro.cell (j := 1) rfl
  have z2 := H.out.2.1.ro.cell (j := 2) rfl
  have z3 := H.out.2.1.ro.cell (j := 3) rfl
  have z4 := H.out.2.1.ro.cell (j := 4) rfl
  have z5 := H.out.2.1.ro.cell (j := 5) rfl
  rw [Nat.add_zero] at z0
  have HC := Lib.hid (HI.out.1 _ _ H.out.1 H.out.2.2.1)
  go_wp2_with fail
  refine HC.out.mono ?_; rintro e w2 ⟨hev, hb2⟩
  clear x0 x1 x2 x3 x4 x5 z0 z1 z2 z3 z4 z5
  cases hva : evK nm a with
  | none =>
    rw [hva] at hev
    dsimp only at hev
    obtain ⟨rfl, hk2⟩ := hev
    have c4 := hk2.bk.cell (i := 4) rfl
    have HF := Lib.hid (And.intro hk2 (H.out.2.2.2.2.1.trans hb2))
    have htw : twoK nm o a b = none := by unfold twoK; rw [hva]
    have HW := Lib.hid htw
    clear hk2 hb2 htw
    go_wp2_with fail
    go_ret
    rw [HW.out]
    exact ⟨⟨rfl, HF.out.1⟩, HF.out.2⟩
  | some x =>
    rw [hva] at hev
    dsimp only at hev
    obtain ⟨rfl, hk2⟩ := hev
    have hl2 := hb2.low (Nat.le_of_lt H.out.1.bk.lt)
    have H2 := Lib.hid (And.intro hk2 (And.intro (H.out.2.1.low hl2) (And.intro hva (And.intro (H.out.2.2.2.1.low hl2) (And.intro (H.out.2.2.2.2.1.trans hb2) (And.intro (H.out.2.2.2.2.2.1.upd hb2 H.out.2.2.2.2.2.2) H.out.2.2.2.2.2.2))))))
    clear hk2 hb2 hl2 H HC
    have x0 := H2.out.2.2.2.2.2.1.cell (i := 0) rfl
    have x1 := H2.out.2.2.2.2.2.1.cell (i := 1) rfl
    have x2 := H2.out.2.2.2.2.2.1.cell (i := 2) rfl
    have x3 := H2.out.2.2.2.2.2.1.cell (i := 3) rfl
    have x4 := H2.out.2.2.2.2.2.1.cell (i := 4) rfl
    have x5 := H2.out.2.2.2.2.2.1.cell (i := 5) rfl
    have z0 := H2.out.2.1.ro.cell (j := 6) rfl
    have z1 := H2.out.2.1.ro.cell (j := 7) rfl
    have z2 := H2.out.2.1.ro.cell (j := 8) rfl
    have z3 := H2.out.2.1.ro.cell (j := 9) rfl
    have z4 := H2.out.2.1.ro.cell (j := 10) rfl
    have z5 := H2.out.2.1.ro.cell (j := 11) rfl
    have c4 := H2.out.1.bk.cell (i := 4) rfl
    have HC := Lib.hid (HI.out.2.1 _ _ H2.out.1 H2.out.2.2.2.1)
    have hxf := fit_some HI.out.2.2.1 HI.out.2.2.2.1 hva
    have HXF := Lib.hid hxf
    clear hva hxf
    go_wp2_with fail
    refine HC.out.mono ?_; rintro e w3 ⟨hev, hb3⟩
    clear x0 x1 x2 x3 x4 x5 z0 z1 z2 z3 z4 z5 c4
    cases hvb : evK nm b with
    | none =>
      rw [hvb] at hev
      dsimp only at hev
      obtain ⟨rfl, hk3⟩ := hev
      have c4 := hk3.bk.cell (i := 4) rfl
      have HF := Lib.hid (And.intro hk3 (H2.out.2.2.2.2.1.trans hb3))
      have htw : twoK nm o a b = none := by unfold twoK; rw [H2.out.2.2.1, hvb]
      have HW := Lib.hid htw
      clear hk3 hb3 htw
      go_wp2_with fail
      go_ret
      rw [HW.out]
      exact ⟨⟨rfl, HF.out.1⟩, HF.out.2⟩
    | some y =>
      rw [hvb] at hev
      dsimp only at hev
      obtain ⟨rfl, hk3⟩ := hev
      have htw : twoK nm o a b = some (opI o x y) := by unfold twoK; rw [H2.out.2.2.1, hvb]
      have hyf := fit_some HI.out.2.2.1 HI.out.2.2.2.2 hvb
      have HRR := Lib.hid (HR.out w3 x y HXF.out hyf)
      have H3 := Lib.hid (And.intro hk3 (And.intro htw (And.intro (H2.out.2.2.2.2.1.trans hb3) (And.intro (H2.out.2.2.2.2.2.1.upd hb3 H2.out.2.2.2.2.2.2) H2.out.2.2.2.2.2.2))))
      clear hk3 hb3 htw hyf H2 HC HXF HR
      have c4 := H3.out.1.bk.cell (i := 4) rfl
      have x0 := H3.out.2.2.2.1.cell (i := 0) rfl
      have x1 := H3.out.2.2.2.1.cell (i := 1) rfl
      have x2 := H3.out.2.2.2.1.cell (i := 2) rfl
      have x3 := H3.out.2.2.2.1.cell (i := 3) rfl
      have x4 := H3.out.2.2.2.1.cell (i := 4) rfl
      have x5 := H3.out.2.2.2.1.cell (i := 5) rfl
      go_wp2_with fail
      refine HRR.out.mono ?_; rintro e w4 ⟨rfl, hb4⟩
      have HF := Lib.hid (And.intro (H3.out.1.next hb4) (H3.out.2.2.1.trans (Upd.below hb4)))
      clear hb4 c4 x0 x1 x2 x3 x4 x5
      go_wp2_with fail
      go_ret
      rw [H3.out.2.1]
      exact ⟨⟨rfl, HF.out.1⟩, HF.out.2⟩
end Go.Proofs.YtkoggfahjlnecaaGreatDoor
