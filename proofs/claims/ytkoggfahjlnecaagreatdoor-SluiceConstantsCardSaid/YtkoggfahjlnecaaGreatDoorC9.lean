import Derived.Test.YtkoggfahjlnecaaGreatDoorC8
namespace Go.Proofs.YtkoggfahjlnecaaGreatDoor
set_option linter.unusedVariables false
open Go.RowKit Go.Sort

/-! # konst: an expression -/
set_option maxRecDepth 100000 in
set_option maxHeartbeats 4000000 in
theorem kexpr_num {bx : Nat} {nm : Int} {ep : Option Addr} {ec : Nat} (hnm : fitI nm) {n : Nat} (hn : n < 200) : ExprC bx nm ep ec (.num n) := by
  intro w cs hk hx
  rw [show cs = numC n from hx]
  have hw : (n : Int) < 200 := by omega
  have hlo : ¬ (n : Int) < -2147483648 := by omega
  have hhi : ¬ (2147483647 : Int) < (n : Int) := by omega
  change Calls Tryz.prog 14 #[.pointer (some ⟨bx, 0, none⟩), .agg #[.int .i64 1, .int .i64 0, .int .i64 0, .int .i64 0, .string (dec n), .slice none 0 0]] w _
  have HNm := Lib.hid (fun (w : World) (hm : Max w) => knumber_any (bx := bx) hn hm)
  have hn := Below.new w (.cells #[.int .i64 1, .int .i64 0, .int .i64 0, .int .i64 0, .string (dec n), .slice none 0 0] 27)
  have H := Lib.hid (And.intro (hk.next hn) (And.intro (Upd.below (F := One bx) hn) (And.intro (Blk.new (w := w) 27 [.int .i64 1, .int .i64 0, .int .i64 0, .int .i64 0, .string (dec n), .slice none 0 0]) (And.intro (Ne.symm (Nat.ne_of_lt hk.bk.lt)) (hn.mono (Nat.le_of_lt hk.bk.lt))))))
  go_enter Tryz.func14, Tryz.ntmps14
  go_upto_region 2 with fail
  obtain ⟨b1, hb1⟩ : ∃ b, w.heap.size = b := ⟨_, rfl⟩
  rw [hb1] at H ⊢
  change Hid (KS _ _ _ _ _ (w.alloc (.cells #[.int .i64 1, .int .i64 0, .int .i64 0, .int .i64 0, .string (dec n), .slice none 0 0] 27)) ∧ _) at H
  generalize (w.alloc (.cells #[.int .i64 1, .int .i64 0, .int .i64 0, .int .i64 0, .string (dec n), .slice none 0 0] 27)) = w1 at *
  clear hb1
  have x0 := H.out.2.2.1.cell (i := 0) rfl
  have x1 := H.out.2.2.1.cell (i := 1) rfl
  have x2 := H.out.2.2.1.cell (i := 2) rfl
  have x3 := H.out.2.2.1.cell (i := 3) rfl
  have x4 := H.out.2.2.1.cell (i := 4) rfl
  have x5 := H.out.2.2.1.cell (i := 5) rfl
  clear hk hx hw
  have HP := Lib.hid (HNm.out _ H.out.1.max)
  clear HNm
  go_wp2_with fail
  refine HP.out.mono ?_; rintro e w2 ⟨rfl, hb2⟩
  have H2 := Lib.hid (And.intro (H.out.1.next hb2) (H.out.2.1.trans (Upd.below hb2)))
  have c4 := H2.out.1.bk.cell (i := 4) rfl
  clear hb2 x0 x1 x2 x3 x4 x5 H HP
  go_wp2_with fail
  go_ret
  exact ⟨⟨rfl, H2.out.1⟩, H2.out.2⟩
set_option maxRecDepth 100000 in
set_option maxHeartbeats 4000000 in
theorem kexpr_nm {bx : Nat} {nm : Int} {ep : Option Addr} {ec : Nat} (hnm : fitI nm)  : ExprC bx nm ep ec (.nm) := by
  intro w cs hk hx
  rw [show cs = nmC from hx]
  have hlo : ¬ nm < -2147483648 := by have := hnm.1; omega
  have hhi : ¬ (2147483647 : Int) < nm := by have := hnm.2; omega
  change Calls Tryz.prog 14 #[.pointer (some ⟨bx, 0, none⟩), .agg #[.int .i64 2, .int .i64 0, .int .i64 0, .int .i64 0, .string ⟨#[80]⟩, .slice none 0 0]] w _
  have hn := Below.new w (.cells #[.int .i64 2, .int .i64 0, .int .i64 0, .int .i64 0, .string ⟨#[80]⟩, .slice none 0 0] 27)
  have H := Lib.hid (And.intro (hk.next hn) (And.intro (Upd.below (F := One bx) hn) (And.intro (Blk.new (w := w) 27 [.int .i64 2, .int .i64 0, .int .i64 0, .int .i64 0, .string ⟨#[80]⟩, .slice none 0 0]) (And.intro (Ne.symm (Nat.ne_of_lt hk.bk.lt)) (hn.mono (Nat.le_of_lt hk.bk.lt))))))
  go_enter Tryz.func14, Tryz.ntmps14
  go_upto_region 2 with fail
  obtain ⟨b1, hb1⟩ : ∃ b, w.heap.size = b := ⟨_, rfl⟩
  rw [hb1] at H ⊢
  change Hid (KS _ _ _ _ _ (w.alloc (.cells #[.int .i64 2, .int .i64 0, .int .i64 0, .int .i64 0, .string ⟨#[80]⟩, .slice none 0 0] 27)) ∧ _) at H
  generalize (w.alloc (.cells #[.int .i64 2, .int .i64 0, .int .i64 0, .int .i64 0, .string ⟨#[80]⟩, .slice none 0 0] 27)) = w1 at *
  clear hb1
  have x0 := H.out.2.2.1.cell (i := 0) rfl
  have x1 := H.out.2.2.1.cell (i := 1) rfl
  have x2 := H.out.2.2.1.cell (i := 2) rfl
  have x3 := H.out.2.2.1.cell (i := 3) rfl
  have x4 := H.out.2.2.1.cell (i := 4) rfl
  have x5 := H.out.2.2.1.cell (i := 5) rfl
  clear hk hx hnm
  go_upto_region 7 with fail
  replace x0 := After.cell x0
  replace x1 := After.cell x1
  replace x2 := After.cell x2
  replace x3 := After.cell x3
  replace x4 := After.cell x4
  replace x5 := After.cell x5
  have k0 := After.cell (H.out.1.bk.cell (i := 0) rfl)
  have HFi : Hid (∀ s : After w1, Calls Tryz.prog 29 #[.agg #[.slice ep 1 ec], .string ⟨#[80]⟩] s.val fun e w' => e = .returned (.tuple #[.int .i64 nm, .bool true]) ∧ Below s.val.heap.size s.val w') := Lib.hid fun s => kfind_any (H.out.1.next s.below).env
  refine wp_region_after (by kernel_rfl) (by kernel_rfl) ?_
  repeat (go_big_quiet_step ((first | (with_reducible exact Calls.after_of (HFi.out _)))))
  refine wpQuiet_nil ?_
  rintro _ ⟨s, rfl⟩
  have H2 := Lib.hid (And.intro (H.out.1.next s.below) (H.out.2.1.trans (Upd.below s.below)))
  generalize s.val = w2 at *
  clear x0 x1 x2 x3 x4 x5 k0 HFi H
  have c4 := H2.out.1.bk.cell (i := 4) rfl
  go_wp2_with fail
  go_ret
  exact ⟨⟨rfl, H2.out.1⟩, H2.out.2⟩
set_option maxRecDepth 100000 in
set_option maxHeartbeats 4000000 in
theorem kexpr_bin {bx : Nat} {nm : Int} {ep : Option Addr} {ec : Nat} (hnm : fitI nm) {o : Nat} {a b : KE} (ho : o < 7) (hwa : a.wf) (hwb : b.wf) (iha : ExprC bx nm ep ec a) (ihb : ExprC bx nm ep ec b) : ExprC bx nm ep ec (.bin o a b) := by
  intro w cs hk hx
  obtain ⟨p, c, ca, cb, rfl, hr, hxa, hxb⟩ := hx
  change Calls Tryz.prog 14 #[.pointer (some ⟨bx, 0, none⟩), .agg #[.int .i64 4, .int .i64 0, .int .i64 0, .int .i64 0, .string (opT o), .slice p 2 c]] w _
  have HT := Lib.hid (fun (w : World) (hk : KS bx nm ep ec 0 w) (hr : ROA (fun k => k < bx) w (.slice p 2 c) 6 2 (ca ++ cb)) (hxa : EX (fun k => k < bx) w a ca) (hxb : EX (fun k => k < bx) w b cb) => ktwo_any hnm ho hwa hwb iha ihb hk hr hxa hxb)
  have htw : evK nm (.bin o a b) = match twoK nm o a b with | some r => (if fitI r then some r else none) | none => none := by
    unfold twoK
    rw [evK]
    cases evK nm a with
    | none => rfl
    | some x =>
      cases evK nm b with
      | none => rfl
      | some y => rfl
  have HW := Lib.hid htw
  clear htw
  have hlow := Below.mono (Below.new w (.cells #[.int .i64 4, .int .i64 0, .int .i64 0, .int .i64 0, .string (opT o), .slice p 2 c] 27)) (Nat.le_of_lt hk.bk.lt)
  have HR := Lib.hid (And.intro (hr.low hlow) (And.intro (hxa.low hlow) (hxb.low hlow)))
  clear hr hxa hxb hlow
  have hn := Below.new w (.cells #[.int .i64 4, .int .i64 0, .int .i64 0, .int .i64 0, .string (opT o), .slice p 2 c] 27)
  have H := Lib.hid (And.intro (hk.next hn) (And.intro (Upd.below (F := One bx) hn) (And.intro (Blk.new (w := w) 27 [.int .i64 4, .int .i64 0, .int .i64 0, .int .i64 0, .string (opT o), .slice p 2 c]) (And.intro (Ne.symm (Nat.ne_of_lt hk.bk.lt)) (hn.mono (Nat.le_of_lt hk.bk.lt))))))
  go_enter Tryz.func14, Tryz.ntmps14
  go_upto_region 2 with fail
  obtain ⟨b1, hb1⟩ : ∃ b, w.heap.size = b := ⟨_, rfl⟩
  rw [hb1] at H ⊢
  change Hid (KS _ _ _ _ _ (w.alloc (.cells #[.int .i64 4, .int .i64 0, .int .i64 0, .int .i64 0, .string (opT o), .slice p 2 c] 27)) ∧ _) at H
  generalize (w.alloc (.cells #[.int .i64 4, .int .i64 0, .int .i64 0, .int .i64 0, .string (opT o), .slice p 2 c] 27)) = w1 at *
  clear hb1
  have x0 := H.out.2.2.1.cell (i := 0) rfl
  have x1 := H.out.2.2.1.cell (i := 1) rfl
  have x2 := H.out.2.2.1.cell (i := 2) rfl
  have x3 := H.out.2.2.1.cell (i := 3) rfl
  have x4 := H.out.2.2.1.cell (i := 4) rfl
  have x5 := H.out.2.2.1.cell (i := 5) rfl
  have HTT := Lib.hid (HT.out _ H.out.1 HR.out.1 HR.out.2.1 HR.out.2.2)
  clear hk hnm ho hwa hwb iha ihb HT HR
  go_wp2_with fail
  refine HTT.out.mono ?_; rintro e w2 ⟨hev, hu2⟩
  clear x0 x1 x2 x3 x4 x5
  have hb1 := H.out.2.2.1.upd hu2 H.out.2.2.2.1
  have HB1 := Lib.hid hb1
  clear hb1
  cases htk : twoK nm o a b with
  | none =>
    rw [htk] at hev
    dsimp only at hev
    obtain ⟨rfl, hk2⟩ := hev
    have H2 := Lib.hid (And.intro hk2 (H.out.2.1.trans hu2))
    have c4 := H2.out.1.bk.cell (i := 4) rfl
    have hz := HW.out
    rw [htk] at hz
    dsimp only at hz
    have HZ := Lib.hid hz
    clear hk2 hu2 hz htk H HTT
    go_wp2_with fail
    go_ret
    rw [HZ.out]
    exact ⟨⟨rfl, H2.out.1⟩, H2.out.2⟩
  | some r =>
    rw [htk] at hev
    dsimp only at hev
    obtain ⟨rfl, hk2⟩ := hev
    have H2 := Lib.hid (And.intro hk2 (H.out.2.1.trans hu2))
    have c4 := H2.out.1.bk.cell (i := 4) rfl
    have hz := HW.out
    rw [htk] at hz
    dsimp only at hz
    clear hk2 hu2 htk H HTT
    by_cases hf : fitI r
    · rw [if_pos hf] at hz
      have hlo : ¬ r < -2147483648 := by have := hf.1; omega
      have hhi : ¬ (2147483647 : Int) < r := by have := hf.2; omega
      have HZ := Lib.hid hz
      clear hz hf
      go_wp2_with fail
      go_ret
      rw [HZ.out]
      exact ⟨⟨rfl, H2.out.1⟩, H2.out.2⟩
    · rw [if_neg hf] at hz
      have HZ := Lib.hid hz
      have HFa := Lib.hid (kfail_any H2.out.1)
      have x0 := HB1.out.cell (i := 0) rfl
      have x1 := HB1.out.cell (i := 1) rfl
      have x2 := HB1.out.cell (i := 2) rfl
      have x3 := HB1.out.cell (i := 3) rfl
      have x4 := HB1.out.cell (i := 4) rfl
      have x5 := HB1.out.cell (i := 5) rfl
      by_cases hlo : r < -2147483648
      · clear hz hf
        go_wp2_with fail
        refine HFa.out.mono ?_; rintro e w3 ⟨rfl, hk3, hu3⟩
        have H3 := Lib.hid (And.intro hk3 (H2.out.2.trans hu3))
        clear hk3 hu3
        go_wp2_with fail
        go_ret
        rw [HZ.out]
        exact ⟨⟨rfl, H3.out.1⟩, H3.out.2⟩
      · have hhi : (2147483647 : Int) < r := by unfold fitI at hf; omega
        clear hz hf
        go_wp2_with fail
        refine HFa.out.mono ?_; rintro e w3 ⟨rfl, hk3, hu3⟩
        have H3 := Lib.hid (And.intro hk3 (H2.out.2.trans hu3))
        clear hk3 hu3
        go_wp2_with fail
        go_ret
        rw [HZ.out]
        exact ⟨⟨rfl, H3.out.1⟩, H3.out.2⟩
theorem kexpr_any {bx : Nat} {nm : Int} {ep : Option Addr} {ec : Nat} (hnm : fitI nm) : ∀ {e : KE}, e.wf → ExprC bx nm ep ec e
  | .num n, hw => kexpr_num hnm hw
  | .nm, _ => kexpr_nm hnm
  | .bin o a b, ⟨h1, h2, h3⟩ => kexpr_bin hnm h1 h2 h3 (kexpr_any hnm h2) (kexpr_any hnm h3)
end Go.Proofs.YtkoggfahjlnecaaGreatDoor
