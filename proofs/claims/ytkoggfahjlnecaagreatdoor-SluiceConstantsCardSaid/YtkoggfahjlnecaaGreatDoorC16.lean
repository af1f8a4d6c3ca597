import Derived.Test.YtkoggfahjlnecaaGreatDoorC15
namespace Go.Proofs.YtkoggfahjlnecaaGreatDoor
set_option linter.unusedVariables false
open Go.RowKit Go.Sort

/-! # the resolver: shapes -/
def SelfC (br : Nat) (nm : Int) (tp : Option Addr) (tc : Nat) (ep : Option Addr) (ec : Nat) (e : KE) : Prop := ∀ (w : World) (cs : List Value) (nodes : Nat), RSt br nm tp tc ep ec nodes w → EX (fun k => k < br) w e cs → Calls Tryz.prog 35 #[.pointer (some ⟨br, 0, none⟩), .agg cs.toArray] w fun r w' => r = .returned (.agg #[.int .i64 32, .bool true]) ∧ Below w.heap.size w w'
theorem opT_free2 {o : Nat} (ho : o < 7) : ∀ t ∈ ([[60], [60, 61], [62], [62, 61], [61, 61], [33, 61], [38, 38], [124, 124], [60, 60], [62, 62], [60, 60, 60], [62, 62, 62]] : List (List UInt8)), ¬ (opT o).toList = t := by
  have h : o = 0 ∨ o = 1 ∨ o = 2 ∨ o = 3 ∨ o = 4 ∨ o = 5 ∨ o = 6 := by omega
  intro t ht
  simp only [List.mem_cons, List.not_mem_nil, or_false] at ht
  rcases h with rfl | rfl | rfl | rfl | rfl | rfl | rfl <;> rcases ht with rfl | rfl | rfl | rfl | rfl | rfl | rfl | rfl | rfl | rfl | rfl | rfl <;> (rw [ByteArray.toList_eq]; decide)
set_option maxRecDepth 100000 in
set_option maxHeartbeats 4000000 in
theorem rtwo_any {br : Nat} {nm : Int} {tp : Option Addr} {tc : Nat} {ep : Option Addr} {ec : Nat} {nodes o : Nat} {a b : KE} (ho : o < 7) (iha : SelfC br nm tp tc ep ec a) (ihb : SelfC br nm tp tc ep ec b) {w : World} {p : Option Addr} {c : Nat} {ca cb : List Value} (hk : RSt br nm tp tc ep ec nodes w)
    (hr : ROA (fun k => k < br) w (.slice p 2 c) 6 2 (ca ++ cb)) (hxa : EX (fun k => k < br) w a ca) (hxb : EX (fun k => k < br) w b cb) :
    Calls Tryz.prog 61 #[.pointer (some ⟨br, 0, none⟩), .agg #[.int .i64 4, .int .i64 0, .int .i64 0, .int .i64 0, .string (opT o), .slice p 2 c]] w fun r w' => r = .returned (.agg #[.int .i64 32, .bool true]) ∧ Below w.heap.size w w' := by
  obtain ⟨k1, t1, p1, n1, c1, rfl⟩ := hxa.form
  obtain ⟨k2, t2, p2, n2, c2, rfl⟩ := hxb.form
  have hop := opT_free2 ho
  obtain ⟨t, ht⟩ : ∃ t, opT o = t := ⟨_, rfl⟩
  rw [ht] at hop ⊢
  have q0 := hop [60] (by simp)
  have s0 : (t.toList == [60]) = false := beq_eq_false_iff_ne.2 q0
  have q1 := hop [60, 61] (by simp)
  have s1 : (t.toList == [60, 61]) = false := beq_eq_false_iff_ne.2 q1
  have q2 := hop [62] (by simp)
  have s2 : (t.toList == [62]) = false := beq_eq_false_iff_ne.2 q2
  have q3 := hop [62, 61] (by simp)
  have s3 : (t.toList == [62, 61]) = false := beq_eq_false_iff_ne.2 q3
  have q4 := hop [61, 61] (by simp)
  have s4 : (t.toList == [61, 61]) = false := beq_eq_false_iff_ne.2 q4
  have q5 := hop [33, 61] (by simp)
  have s5 : (t.toList == [33, 61]) = false := beq_eq_false_iff_ne.2 q5
  have q6 := hop [38, 38] (by simp)
  have s6 : (t.toList == [38, 38]) = false := beq_eq_false_iff_ne.2 q6
  have q7 := hop [124, 124] (by simp)
  have s7 : (t.toList == [124, 124]) = false := beq_eq_false_iff_ne.2 q7
  have q8 := hop [60, 60] (by simp)
  have s8 : (t.toList == [60, 60]) = false := beq_eq_false_iff_ne.2 q8
  have q9 := hop [62, 62] (by simp)
  have s9 : (t.toList == [62, 62]) = false := beq_eq_false_iff_ne.2 q9
  have q10 := hop [60, 60, 60] (by simp)
  have s10 : (t.toList == [60, 60, 60]) = false := beq_eq_false_iff_ne.2 q10
  have q11 := hop [62, 62, 62] (by simp)
  have s11 : (t.toList == [62, 62, 62]) = false := beq_eq_false_iff_ne.2 q11
  clear hop ht ho
  obtain ⟨pb, po, rfl⟩ := hr.sl (j := 0) rfl
  have g1 := Below.new w (.cells #[.int .i64 4, .int .i64 0, .int .i64 0, .int .i64 0, .string t, .slice (some ⟨pb, po, none⟩) 2 c] 27)
  have g2 := Below.new (w.alloc (.cells #[.int .i64 4, .int .i64 0, .int .i64 0, .int .i64 0, .string t, .slice (some ⟨pb, po, none⟩) 2 c] 27)) (.cells #[.int .i64 0, .bool false] 99)
  have gg := Below.next g1 g2
  have H := Lib.hid (And.intro ((Blk.new (w := w) 27 [.int .i64 4, .int .i64 0, .int .i64 0, .int .i64 0, .string t, .slice (some ⟨pb, po, none⟩) 2 c]).next g2) (And.intro (Blk.new (w := (w.alloc (.cells #[.int .i64 4, .int .i64 0, .int .i64 0, .int .i64 0, .string t, .slice (some ⟨pb, po, none⟩) 2 c] 27))) 99 [.int .i64 0, .bool false]) (And.intro gg (hk.next gg))))
  simp only [World.size_alloc] at H
  have HX := Lib.hid (And.intro (hr.turn (A' := fun k => k < br) fun k hk hl => ⟨hk, gg.block k hl⟩) (And.intro (hxa.up gg) (And.intro (hxb.up gg) (And.intro iha ihb))))
  change Hid (ROA (fun k => k < br) ((w.alloc (.cells #[.int .i64 4, .int .i64 0, .int .i64 0, .int .i64 0, .string t, .slice (some ⟨pb, po, none⟩) 2 c] 27)).alloc (.cells #[.int .i64 0, .bool false] 99)) _ _ _ _ ∧ _) at HX
  clear g1 g2 gg hk hr hxa hxb iha ihb
  go_enter Tryz.func61, Tryz.ntmps61
  go_upto_region 1 with fail
  change Hid (Blk ((w.alloc (.cells #[.int .i64 4, .int .i64 0, .int .i64 0, .int .i64 0, .string t, .slice (some ⟨pb, po, none⟩) 2 c] 27)).alloc (.cells #[.int .i64 0, .bool false] 99)) _ _ _ ∧ _) at H
  generalize ((w.alloc (.cells #[.int .i64 4, .int .i64 0, .int .i64 0, .int .i64 0, .string t, .slice (some ⟨pb, po, none⟩) 2 c] 27)).alloc (.cells #[.int .i64 0, .bool false] 99)) = w1 at *
  obtain ⟨b0, hb0⟩ : ∃ b, w.heap.size = b := ⟨_, rfl⟩
  obtain ⟨b1, hb1⟩ : ∃ b, b0 + 1 = b := ⟨_, rfl⟩
  rw [hb0] at H ⊢
  rw [hb1] at H ⊢
  have HB := Lib.hid (And.intro hb0 hb1)
  clear hb0 hb1
  have x0 := H.out.1.cell (i := 0) rfl
  have x1 := H.out.1.cell (i := 1) rfl
  have x2 := H.out.1.cell (i := 2) rfl
  have x3 := H.out.1.cell (i := 3) rfl
  have x4 := H.out.1.cell (i := 4) rfl
  have x5 := H.out.1.cell (i := 5) rfl
  have z0 := HX.out.1.ro.cell (j := 0) rfl
  have z1 := HX.out.1.ro.cell (j := 1) rfl
  have z2 := HX.out.1.ro.cell (j := 2) rfl
  have z3 := HX.out.1.ro.cell (j := 3) rfl
  have z4 := HX.out.1.ro.cell (j := 4) rfl
  have z5 := HX.out.1.ro.cell (j := 5) rfl
  rw [Nat.add_zero] at z0
  have HS := Lib.hid (HX.out.2.2.2.1 _ _ _ H.out.2.2.2 HX.out.2.1)
  go_wp2_with fail
  refine HS.out.mono ?_; rintro r w2 ⟨rfl, hb2⟩
  clear x0 x1 x2 x3 x4 x5 z0 z1 z2 z3 z4 z5 HS
  have gs := Below.new w2 (.cells #[.int .i64 32, .bool true] 99)
  have gn := Below.next hb2 gs
  have H3 := Lib.hid (And.intro (H.out.1.next gn) (And.intro (H.out.2.1.next gn) (And.intro (Below.trans H.out.2.2.1 (gn.mono (by have h := H.out.1.lt; omega))) (And.intro (H.out.2.2.2.next gn) (Blk.new (w := w2) 99 sh32)))))
  have HX3 := Lib.hid (And.intro (HX.out.1.turn (A' := fun k => k < br) fun k hk hl => ⟨hk, gn.block k hl⟩) (And.intro (HX.out.2.1.up gn) (And.intro (HX.out.2.2.1.up gn) HX.out.2.2.2)))
  change Hid (Blk (w2.alloc (.cells #[.int .i64 32, .bool true] 99)) _ _ _ ∧ _) at H3
  change Hid (ROA (fun k => k < br) (w2.alloc (.cells #[.int .i64 32, .bool true] 99)) _ _ _ _ ∧ _) at HX3
  clear gs gn hb2
  go_upto_region 2 with fail
  generalize (w2.alloc (.cells #[.int .i64 32, .bool true] 99)) = w3 at *
  obtain ⟨bA, hbA⟩ : ∃ b, w2.heap.size = b := ⟨_, rfl⟩
  rw [hbA] at H3 ⊢
  clear hbA H HX
  have x0 := H3.out.1.cell (i := 0) rfl
  have x1 := H3.out.1.cell (i := 1) rfl
  have x2 := H3.out.1.cell (i := 2) rfl
  have x3 := H3.out.1.cell (i := 3) rfl
  have x4 := H3.out.1.cell (i := 4) rfl
  have x5 := H3.out.1.cell (i := 5) rfl
  have z0 := HX3.out.1.ro.cell (j := 6) rfl
  have z1 := HX3.out.1.ro.cell (j := 7) rfl
  have z2 := HX3.out.1.ro.cell (j := 8) rfl
  have z3 := HX3.out.1.ro.cell (j := 9) rfl
  have z4 := HX3.out.1.ro.cell (j := 10) rfl
  have z5 := HX3.out.1.ro.cell (j := 11) rfl
  have HS := Lib.hid (HX3.out.2.2.2.2 _ _ _ H3.out.2.2.2.1 HX3.out.2.2.1)
  go_wp2_with fail
  refine HS.out.mono ?_; rintro r w4 ⟨rfl, hb4⟩
  clear x0 x1 x2 x3 x4 x5 z0 z1 z2 z3 z4 z5 HS
  have gs := Below.new w4 (.cells #[.int .i64 32, .bool true] 99)
  have gn := Below.next hb4 gs
  have H5 := Lib.hid (And.intro (H3.out.1.next gn) (And.intro (H3.out.2.1.next gn) (And.intro (Below.trans H3.out.2.2.1 (gn.mono (by have h := H3.out.1.lt; have := HB.out.1; omega))) (And.intro (H3.out.2.2.2.2.next gn) (Blk.new (w := w4) 99 sh32)))))
  change Hid (Blk (w4.alloc (.cells #[.int .i64 32, .bool true] 99)) _ _ _ ∧ _) at H5
  clear gs gn hb4
  go_upto_region 3 with fail
  generalize (w4.alloc (.cells #[.int .i64 32, .bool true] 99)) = w5 at *
  obtain ⟨bB, hbB⟩ : ∃ b, w4.heap.size = b := ⟨_, rfl⟩
  rw [hbB] at H5 ⊢
  clear hbB H3 HX3
  have x0 := H5.out.1.cell (i := 0) rfl
  have x1 := H5.out.1.cell (i := 1) rfl
  have x2 := H5.out.1.cell (i := 2) rfl
  have x3 := H5.out.1.cell (i := 3) rfl
  have x4 := H5.out.1.cell (i := 4) rfl
  have x5 := H5.out.1.cell (i := 5) rfl
  have y0 := H5.out.2.2.2.1.cell (i := 0) rfl
  have y1 := H5.out.2.2.2.1.cell (i := 1) rfl
  have z0 := H5.out.2.2.2.2.cell (i := 0) rfl
  have z1 := H5.out.2.2.2.2.cell (i := 1) rfl
  have HJ := Lib.hid (joined_any (w := w5))
  go_wp2_with fail
  refine HJ.out.mono ?_; rintro r w6 ⟨rfl, hb6⟩
  have H7 := Lib.hid (And.intro (H5.out.2.1.next hb6) (Below.trans H5.out.2.2.1 (hb6.mono (by have h := H5.out.1.lt; have := HB.out.1; omega))))
  clear hb6 x0 x1 x2 x3 x4 x5 y0 y1 z0 z1 H5 HJ
  have r0 := H7.out.1.cell (i := 0) rfl
  have r1 := H7.out.1.cell (i := 1) rfl
  have f0 := H7.out.1.frz 0
  have f1 := H7.out.1.frz 1
  go_wp2_with fail
  have hk9 := H7.out.1.put sh32 rfl
  have hb9 := Below.sets (b := b1) (by have := HB.out; omega) sh32 0 H7.out.2
  exact bodyPost_ret (v := .agg #[.int .i64 32, .bool true]) (results_cell_row rfl _ _ b1 _ _ _ _ rfl hk9 Tryz.underlying99 rfl (by kernel_rfl)) rfl ⟨rfl, by rw [HB.out.1]; exact hb9⟩
set_option maxRecDepth 100000 in
set_option maxHeartbeats 4000000 in
theorem self_num {br : Nat} {nm : Int} {tp : Option Addr} {tc : Nat} {ep : Option Addr} {ec : Nat} {n : Nat} (hn : n < 200) : SelfC br nm tp tc ep ec (.num n) := by
  intro w cs nodes hk hx
  rw [show cs = numC n from hx]
  change Calls Tryz.prog 35 #[.pointer (some ⟨br, 0, none⟩), .agg #[.int .i64 1, .int .i64 0, .int .i64 0, .int .i64 0, .string (dec n), .slice none 0 0]] w _
  have g1 := Below.new w (.cells #[.int .i64 1, .int .i64 0, .int .i64 0, .int .i64 0, .string (dec n), .slice none 0 0] 27)
  have g2 := Below.new (w.alloc (.cells #[.int .i64 1, .int .i64 0, .int .i64 0, .int .i64 0, .string (dec n), .slice none 0 0] 27)) (.cells #[.int .i64 0, .bool false] 99)
  have gg := Below.next g1 g2
  have H := Lib.hid (And.intro ((Blk.new (w := w) 27 [.int .i64 1, .int .i64 0, .int .i64 0, .int .i64 0, .string (dec n), .slice none 0 0]).next g2) (And.intro (Blk.new (w := (w.alloc (.cells #[.int .i64 1, .int .i64 0, .int .i64 0, .int .i64 0, .string (dec n), .slice none 0 0] 27))) 99 [.int .i64 0, .bool false]) (And.intro gg (hk.next gg))))
  simp only [World.size_alloc] at H
  have HPa := Lib.hid (fun (w : World) (hm : Max w) => lparse_any n hn hm)
  clear g1 g2 gg hk hx hn
  go_enter Tryz.func35, Tryz.ntmps35
  go_upto_region 1 with fail
  change Hid (Blk ((w.alloc (.cells #[.int .i64 1, .int .i64 0, .int .i64 0, .int .i64 0, .string (dec n), .slice none 0 0] 27)).alloc (.cells #[.int .i64 0, .bool false] 99)) _ _ _ ∧ _) at H
  generalize ((w.alloc (.cells #[.int .i64 1, .int .i64 0, .int .i64 0, .int .i64 0, .string (dec n), .slice none 0 0] 27)).alloc (.cells #[.int .i64 0, .bool false] 99)) = w1 at *
  obtain ⟨b0, hb0⟩ : ∃ b, w.heap.size = b := ⟨_, rfl⟩
  obtain ⟨b1, hb1⟩ : ∃ b, b0 + 1 = b := ⟨_, rfl⟩
  rw [hb0] at H ⊢
  rw [hb1] at H ⊢
  have HB := Lib.hid (And.intro hb0 hb1)
  clear hb0 hb1
  have x0 := H.out.1.cell (i := 0) rfl
  have x1 := H.out.1.cell (i := 1) rfl
  have x2 := H.out.1.cell (i := 2) rfl
  have x3 := H.out.1.cell (i := 3) rfl
  have x4 := H.out.1.cell (i := 4) rfl
  have x5 := H.out.1.cell (i := 5) rfl
  have k5 := H.out.2.2.2.bk.cell (i := 5) rfl
  have HP := Lib.hid (HPa.out _ H.out.2.2.2.max)
  go_wp2_with fail
  refine HP.out.mono ?_; rintro r w2 ⟨p, c, rfl, hv, hb2, _⟩
  have gs := Below.new w2 (.cells #[.int .i64 32, .slice p 1 c, .bool true, .bool false] 118)
  have gn := Below.next hb2 gs
  have H3 := Lib.hid (And.intro (H.out.2.1.next gn) (And.intro (Below.trans H.out.2.2.1 (gn.mono (by have h := H.out.1.lt; have := HB.out.1; omega))) (And.intro (hv.below gs) (Blk.new (w := w2) 118 [.int .i64 32, .slice p 1 c, .bool true, .bool false]))))
  change Hid (Blk (w2.alloc (.cells #[.int .i64 32, .slice p 1 c, .bool true, .bool false] 118)) _ _ _ ∧ _) at H3
  clear gs gn hb2 hv x0 x1 x2 x3 x4 x5 k5 HP HPa H
  go_upto_region 8 with fail
  generalize (w2.alloc (.cells #[.int .i64 32, .slice p 1 c, .bool true, .bool false] 118)) = w3 at *
  obtain ⟨bL, hbL⟩ : ∃ b, w2.heap.size = b := ⟨_, rfl⟩
  rw [hbL] at H3 ⊢
  clear hbL
  have l0 := H3.out.2.2.2.cell (i := 0) rfl
  have l1 := H3.out.2.2.2.cell (i := 1) rfl
  have l2 := H3.out.2.2.2.cell (i := 2) rfl
  have HW : Hid (∀ W : World, Below w3.heap.size w3 W → Calls Tryz.prog 10 #[.agg #[.int .i64 32, .slice p 1 c]] W fun e w2 => e = .returned (.int .i64 32) ∧ Below W.heap.size W w2) := Lib.hid fun W hb => width_any (H3.out.2.2.1.below hb)
  have HTr := Lib.hid (Tr.nil w3)
  refine wp_region_webC (w0 := w3) [.known (.pointer (some ⟨bL, 0, none⟩)), .known (.agg #[.int .i64 32, .slice p 1 c]), .known (.int .i64 32), .known (.pointer (some ⟨bL, 2, none⟩)), .known (.bool true), .known (.agg #[.int .i64 32, .bool true])] [1, 1, 1, 1, 1, 1] [] 41 1 #[true, true, true, true, true, true, false] (by kernel_rfl) (by kernel_rfl) rfl rfl rfl (Nat.le_of_ble_eq_true rfl) ⟨Sp.Mono.known, Sp.Mono.known, Sp.Mono.known, Sp.Mono.known, Sp.Mono.known, Sp.Mono.known, trivial⟩ HTr.out.drew (fun _ _ _ _ _ h => h) (A := ?_) ?_ ?_ ?_
  rotate_left
  · intro u
    simp only [fillC, Sp.val, Nat.reduceBEq, cond_false, Act.put, List.setIfInBounds_toArray, List.set_cons_zero, List.set_cons_succ]
    rfl
  iterate 2 (refine ob_yes (web_op (o := _) rfl (fun u W hT hd Q K hK => ?_)) ?_; · (have cc0 : W.cell? _ = some _ := After.cell l0 ⟨W, hT.bel⟩; have cc1 : W.cell? _ = some _ := After.cell l1 ⟨W, hT.bel⟩; have cc2 : W.cell? _ = some _ := After.cell l2 ⟨W, hT.bel⟩; go_simp; exact hK.out _ _ (Below.refl _ _) rfl (fun p hp => by cases hp) List.nodup_nil))
  refine ob_yes (web_op (o := _) rfl (fun u W hT hd Q K hK => ?_)) ?_
  · (try simp only [Act.put, List.setIfInBounds_toArray, List.set_cons_zero, List.set_cons_succ] at hK)
    have cc0 : W.cell? _ = some _ := After.cell l0 ⟨W, hT.bel⟩
    have cc1 : W.cell? _ = some _ := After.cell l1 ⟨W, hT.bel⟩
    have cc2 : W.cell? _ = some _ := After.cell l2 ⟨W, hT.bel⟩
    go_simp
    refine (HW.out _ hT.bel).mono ?_; rintro r w9 ⟨rfl, hb9⟩
    exact hK.out _ _ hb9 rfl (fun p hp => by cases hp) List.nodup_nil
  iterate 3 (refine ob_yes (web_op (o := _) rfl (fun u W hT hd Q K hK => ?_)) ?_; · (have cc0 : W.cell? _ = some _ := After.cell l0 ⟨W, hT.bel⟩; have cc1 : W.cell? _ = some _ := After.cell l1 ⟨W, hT.bel⟩; have cc2 : W.cell? _ = some _ := After.cell l2 ⟨W, hT.bel⟩; go_simp; exact hK.out _ _ (Below.refl _ _) rfl (fun p hp => by cases hp) List.nodup_nil))
  exact ob_nil
  intro u wx hT hok
  obtain ⟨h0, h1, h2, h3, h4, h5, _⟩ := hok
  clear h0 h1 h2 h3 h4 h5
  simp only [ownsC, Sp.own, Nat.reduceBEq, cond_false, List.append_nil] at hT
  (try dsimp only [List.nil_append, List.cons_append] at hT)
  have HTE := Lib.hid hT
  clear hT
  clear HTr l0 l1 l2 HW
  have H5 := Lib.hid (And.intro (H3.out.1.next HTE.out.bel) (Below.trans H3.out.2.1 (HTE.out.bel.mono (by have h := H3.out.1.lt; have := HB.out; omega))))
  clear H3 HTE
  refine wpAny_of_held (S := fun _ => True) _ _ _ _ ?_
  have r0 := H5.out.1.cell (i := 0) rfl
  have r1 := H5.out.1.cell (i := 1) rfl
  have f0 := H5.out.1.frz 0
  have f1 := H5.out.1.frz 1
  refine wpAnyH_ready (rs := [6]) (by kernel_rfl) (by simp) ?_
  refine held_cons rfl (fun K hK => ?_) AllReadyH.nil
  go_simp
  refine hK.out _ _ trivial (fun _ => ?_)
  clear hK K
  (try simp only [List.setIfInBounds_toArray, List.set_cons_zero, List.set_cons_succ])
  refine wpAnyH_done (by kernel_rfl) ?_ _
  clear r0 r1 f0 f1
  have hk9 := H5.out.1.put sh32 rfl
  have hb9 := Below.sets (b := b1) (by have := HB.out; omega) sh32 0 H5.out.2
  generalize hw9 : wx.setCells b1 0 sh32 = w9 at *
  change (wx.setCell ⟨b1, 0, none⟩ (.int .i64 32)).setCell ⟨b1, 1, none⟩ (.bool true) = w9 at hw9
  rw [hw9]
  clear hw9
  go_wp2_with fail
  exact bodyPost_ret (v := .agg #[.int .i64 32, .bool true]) (results_cell_row rfl _ _ b1 _ _ _ _ rfl hk9 Tryz.underlying99 rfl (by kernel_rfl)) rfl ⟨rfl, by rw [HB.out.1]; exact hb9⟩
set_option maxRecDepth 100000 in
set_option maxHeartbeats 4000000 in
theorem self_nm {br : Nat} {nm : Int} {tp : Option Addr} {tc : Nat} {ep : Option Addr} {ec : Nat}  : SelfC br nm tp tc ep ec (.nm) := by
  intro w cs nodes hk hx
  rw [show cs = nmC from hx]
  change Calls Tryz.prog 35 #[.pointer (some ⟨br, 0, none⟩), .agg #[.int .i64 2, .int .i64 0, .int .i64 0, .int .i64 0, .string ⟨#[80]⟩, .slice none 0 0]] w _
  have g1 := Below.new w (.cells #[.int .i64 2, .int .i64 0, .int .i64 0, .int .i64 0, .string ⟨#[80]⟩, .slice none 0 0] 27)
  have g2 := Below.new (w.alloc (.cells #[.int .i64 2, .int .i64 0, .int .i64 0, .int .i64 0, .string ⟨#[80]⟩, .slice none 0 0] 27)) (.cells #[.int .i64 0, .bool false] 99)
  have gg := Below.next g1 g2
  have H := Lib.hid (And.intro ((Blk.new (w := w) 27 [.int .i64 2, .int .i64 0, .int .i64 0, .int .i64 0, .string ⟨#[80]⟩, .slice none 0 0]).next g2) (And.intro (Blk.new (w := (w.alloc (.cells #[.int .i64 2, .int .i64 0, .int .i64 0, .int .i64 0, .string ⟨#[80]⟩, .slice none 0 0] 27))) 99 [.int .i64 0, .bool false]) (And.intro gg (hk.next gg))))
  simp only [World.size_alloc] at H
  clear g1 g2 gg hk hx
  go_enter Tryz.func35, Tryz.ntmps35
  go_upto_region 1 with fail
  change Hid (Blk ((w.alloc (.cells #[.int .i64 2, .int .i64 0, .int .i64 0, .int .i64 0, .string ⟨#[80]⟩, .slice none 0 0] 27)).alloc (.cells #[.int .i64 0, .bool false] 99)) _ _ _ ∧ _) at H
  generalize ((w.alloc (.cells #[.int .i64 2, .int .i64 0, .int .i64 0, .int .i64 0, .string ⟨#[80]⟩, .slice none 0 0] 27)).alloc (.cells #[.int .i64 0, .bool false] 99)) = w1 at *
  obtain ⟨b0, hb0⟩ : ∃ b, w.heap.size = b := ⟨_, rfl⟩
  obtain ⟨b1, hb1⟩ : ∃ b, b0 + 1 = b := ⟨_, rfl⟩
  rw [hb0] at H ⊢
  rw [hb1] at H ⊢
  have HB := Lib.hid (And.intro hb0 hb1)
  clear hb0 hb1
  have x0 := H.out.1.cell (i := 0) rfl
  have x1 := H.out.1.cell (i := 1) rfl
  have x2 := H.out.1.cell (i := 2) rfl
  have x3 := H.out.1.cell (i := 3) rfl
  have x4 := H.out.1.cell (i := 4) rfl
  have x5 := H.out.1.cell (i := 5) rfl
  have k5 := H.out.2.2.2.bk.cell (i := 5) rfl
  have HP := Lib.hid (rname_any H.out.2.2.2)
  go_wp2_with fail
  refine HP.out.mono ?_; rintro r w2 ⟨rfl, hb2⟩
  have H5 := Lib.hid (And.intro (H.out.2.1.next hb2) (Below.trans H.out.2.2.1 (hb2.mono (by have h := H.out.1.lt; have := HB.out.1; omega))))
  clear hb2 x0 x1 x2 x3 x4 x5 k5 HP H
  have r0 := H5.out.1.cell (i := 0) rfl
  have r1 := H5.out.1.cell (i := 1) rfl
  have f0 := H5.out.1.frz 0
  have f1 := H5.out.1.frz 1
  go_wp2_with fail
  have hk9 := H5.out.1.put sh32 rfl
  have hb9 := Below.sets (b := b1) (by have := HB.out; omega) sh32 0 H5.out.2
  exact bodyPost_ret (v := .agg #[.int .i64 32, .bool true]) (results_cell_row rfl _ _ b1 _ _ _ _ rfl hk9 Tryz.underlying99 rfl (by kernel_rfl)) rfl ⟨rfl, by rw [HB.out.1]; exact hb9⟩
set_option maxRecDepth 100000 in
set_option maxHeartbeats 4000000 in
theorem self_bin {br : Nat} {nm : Int} {tp : Option Addr} {tc : Nat} {ep : Option Addr} {ec : Nat} {o : Nat} {a b : KE} (ho : o < 7) (iha : SelfC br nm tp tc ep ec a) (ihb : SelfC br nm tp tc ep ec b) : SelfC br nm tp tc ep ec (.bin o a b) := by
  intro w cs nodes hk hx
  obtain ⟨p, c, ca, cb, rfl, hr, hxa, hxb⟩ := hx
  change Calls Tryz.prog 35 #[.pointer (some ⟨br, 0, none⟩), .agg #[.int .i64 4, .int .i64 0, .int .i64 0, .int .i64 0, .string (opT o), .slice p 2 c]] w _
  have g1 := Below.new w (.cells #[.int .i64 4, .int .i64 0, .int .i64 0, .int .i64 0, .string (opT o), .slice p 2 c] 27)
  have g2 := Below.new (w.alloc (.cells #[.int .i64 4, .int .i64 0, .int .i64 0, .int .i64 0, .string (opT o), .slice p 2 c] 27)) (.cells #[.int .i64 0, .bool false] 99)
  have gg := Below.next g1 g2
  have H := Lib.hid (And.intro ((Blk.new (w := w) 27 [.int .i64 4, .int .i64 0, .int .i64 0, .int .i64 0, .string (opT o), .slice p 2 c]).next g2) (And.intro (Blk.new (w := (w.alloc (.cells #[.int .i64 4, .int .i64 0, .int .i64 0, .int .i64 0, .string (opT o), .slice p 2 c] 27))) 99 [.int .i64 0, .bool false]) (And.intro gg (hk.next gg))))
  simp only [World.size_alloc] at H
  have HP : Hid (Calls Tryz.prog 61 #[.pointer (some ⟨br, 0, none⟩), .agg #[.int .i64 4, .int .i64 0, .int .i64 0, .int .i64 0, .string (opT o), .slice p 2 c]] ((w.alloc (.cells #[.int .i64 4, .int .i64 0, .int .i64 0, .int .i64 0, .string (opT o), .slice p 2 c] 27)).alloc (.cells #[.int .i64 0, .bool false] 99)) fun r w' => r = .returned (.agg #[.int .i64 32, .bool true]) ∧ Below ((w.alloc (.cells #[.int .i64 4, .int .i64 0, .int .i64 0, .int .i64 0, .string (opT o), .slice p 2 c] 27)).alloc (.cells #[.int .i64 0, .bool false] 99)).heap.size ((w.alloc (.cells #[.int .i64 4, .int .i64 0, .int .i64 0, .int .i64 0, .string (opT o), .slice p 2 c] 27)).alloc (.cells #[.int .i64 0, .bool false] 99)) w') := Lib.hid (rtwo_any ho iha ihb (hk.next gg) (hr.turn (A' := fun k => k < br) fun k hk hl => ⟨hk, gg.block k hl⟩) (hxa.up gg) (hxb.up gg))
  clear g1 g2 gg hk hr hxa hxb iha ihb ho
  go_enter Tryz.func35, Tryz.ntmps35
  go_upto_region 1 with fail
  change Hid (Blk ((w.alloc (.cells #[.int .i64 4, .int .i64 0, .int .i64 0, .int .i64 0, .string (opT o), .slice p 2 c] 27)).alloc (.cells #[.int .i64 0, .bool false] 99)) _ _ _ ∧ _) at H
  generalize ((w.alloc (.cells #[.int .i64 4, .int .i64 0, .int .i64 0, .int .i64 0, .string (opT o), .slice p 2 c] 27)).alloc (.cells #[.int .i64 0, .bool false] 99)) = w1 at *
  obtain ⟨b0, hb0⟩ : ∃ b, w.heap.size = b := ⟨_, rfl⟩
  obtain ⟨b1, hb1⟩ : ∃ b, b0 + 1 = b := ⟨_, rfl⟩
  rw [hb0] at H ⊢
  rw [hb1] at H ⊢
  have HB := Lib.hid (And.intro hb0 hb1)
  clear hb0 hb1
  have x0 := H.out.1.cell (i := 0) rfl
  have x1 := H.out.1.cell (i := 1) rfl
  have x2 := H.out.1.cell (i := 2) rfl
  have x3 := H.out.1.cell (i := 3) rfl
  have x4 := H.out.1.cell (i := 4) rfl
  have x5 := H.out.1.cell (i := 5) rfl
  have k5 := H.out.2.2.2.bk.cell (i := 5) rfl
  go_wp2_with fail
  refine HP.out.mono ?_; rintro r w2 ⟨rfl, hb2⟩
  have H5 := Lib.hid (And.intro (H.out.2.1.next hb2) (Below.trans H.out.2.2.1 (hb2.mono (by have h := H.out.1.lt; have := HB.out.1; omega))))
  clear hb2 x0 x1 x2 x3 x4 x5 k5 HP H
  have r0 := H5.out.1.cell (i := 0) rfl
  have r1 := H5.out.1.cell (i := 1) rfl
  have f0 := H5.out.1.frz 0
  have f1 := H5.out.1.frz 1
  go_wp2_with fail
  have hk9 := H5.out.1.put sh32 rfl
  have hb9 := Below.sets (b := b1) (by have := HB.out; omega) sh32 0 H5.out.2
  exact bodyPost_ret (v := .agg #[.int .i64 32, .bool true]) (results_cell_row rfl _ _ b1 _ _ _ _ rfl hk9 Tryz.underlying99 rfl (by kernel_rfl)) rfl ⟨rfl, by rw [HB.out.1]; exact hb9⟩
theorem self_any {br : Nat} {nm : Int} {tp : Option Addr} {tc : Nat} {ep : Option Addr} {ec : Nat} : ∀ {e : KE}, e.wf → SelfC br nm tp tc ep ec e
  | .num n, hw => self_num hw
  | .nm, _ => self_nm
  | .bin o a b, ⟨h1, h2, h3⟩ => self_bin h1 (self_any h2) (self_any h3)
end Go.Proofs.YtkoggfahjlnecaaGreatDoor
