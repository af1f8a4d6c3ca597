import Derived.Test.YtkoggfahjlnecaaGreatDoorC30
namespace Go.Proofs.YtkoggfahjlnecaaGreatDoor
set_option linter.unusedVariables false
open Go.RowKit Go.Sort

/-! # typed.Resolve -/
theorem results_cell2_tmp {P : Program} {fn : Func} {p p2 q : Tmp} {ty ty2 : TypeId} (h : fn.results = #[.cell p ty, .cell p2 ty2, .tmp q]) (tmps : Array Value) (w : World) (g : Nat) (t : TypeId) (cs : Array Value) (fr : Nat × Nat) (d : TypeDesc)
    (hp : tmps.getD p undef = .pointer (some ⟨g, 0, none⟩)) (hg : w.heap[g]? = some (.cells cs t fr))
    (hu : P.underlying ty = some d) (hd : (match d with | .struct _ | .array _ _ => true | _ => false) = true) (hi : (P.info? ty).map (·.size) = some cs.size)
    (g2 : Nat) (t2 : TypeId) (cs2 : Array Value) (fr2 : Nat × Nat) (d2 : TypeDesc)
    (hp2 : tmps.getD p2 undef = .pointer (some ⟨g2, 0, none⟩)) (hg2 : w.heap[g2]? = some (.cells cs2 t2 fr2))
    (hu2 : P.underlying ty2 = some d2) (hd2 : (match d2 with | .struct _ | .array _ _ => true | _ => false) = true) (hi2 : (P.info? ty2).map (·.size) = some cs2.size) {v : Value} (hv : tmps.getD q undef = v) :
    (results fn tmps).run P w = .ok (.tuple #[.agg cs, .agg cs2, v]) w := by
  subst hv
  have hp' : tmps[p]?.getD undef = .pointer (some ⟨g, 0, none⟩) := by simpa using hp
  have hp2' : tmps[p2]?.getD undef = .pointer (some ⟨g2, 0, none⟩) := by simpa using hp2
  simp [results, h, hp', hp2', asAddr, run_loadVar_row w g t ty cs fr d hg hu hd hi, run_loadVar_row w g2 t2 ty2 cs2 fr2 d2 hg2 hu2 hd2 hi2]
theorem wpList_load_want {P : Program} {ops : Array Oper} {rest : List Oper} {op : Oper} {a : Act} {w : World} {Q : Exit → Act → World → Prop} (hw : Region.wanted op (yielded ops a.tmps) = true) (ty : TypeId) (x : Operand) (ho : op.op = .load ty x)
    (b o : Nat) (hx : a.eval x = .pointer (some ⟨b, o, none⟩)) (cs : List Value) (d : TypeDesc) (hc : w.rangeAt b o cs)
    (hu : P.underlying ty = some d) (hd : d.isRow = true) (hi : (P.info? ty).map (·.size) = some cs.length)
    (h : wpList P ops Q rest (a.put op.dst (.agg cs.toArray)) w) : wpList P ops Q (op :: rest) a w :=
  BigFrame.wpList_want hw fun _ hK => wp_load_mid ty x ho b o hx cs d hc hu hd hi (hK _ _ h)
theorem sizePos : (Tryz.prog.info? 24).map (·.size) = some 3 := by kernel_rfl
def ResR (nm : Int) (e : KE) (w : World) (r : Ending) (w' : World) : Prop := ∃ cs : List Value, r = .returned (.tuple #[.agg cs.toArray, .agg #[.int .i64 0, .int .i64 0, .int .i64 0], .int .i64 0]) ∧ TX nm (fun k => w.heap.size ≤ k) w' e cs ∧ Below w.heap.size w w'
set_option maxRecDepth 100000 in
set_option maxHeartbeats 4000000 in
theorem resolve_any {nm : Int} {tp ep : Option Addr} {tc ec : Nat} {e : KE} (hwf : e.wf) {w : World} {cs : List Value} (hth : ROA (fun k => k < w.heap.size) w (.slice tp 1 tc) 19 1 (thC nm)) (hen : ROA (fun k => k < w.heap.size) w (.slice ep 1 ec) 2 1 [.string ⟨#[80]⟩, .int .i64 nm]) (hm : Max w)
    (hx : EX (fun k => k < w.heap.size) w e cs) (hno : e.size ≤ 20000) (hsz : tsz e ≤ 20000) : Calls Tryz.prog 7 #[.agg #[.slice tp 1 tc, .slice ep 1 ec], .agg cs.toArray, .int .i64 32] w (ResR nm e w) := by
  obtain ⟨k1, t1, p1, n1, c1, rfl⟩ := hx.form
  obtain ⟨m, hm⟩ := hm
  have hml := World.block_lt_of_cell? _ _ hm
  change Calls Tryz.prog 7 #[.agg #[.slice tp 1 tc, .slice ep 1 ec], .agg #[.int .i64 k1, .int .i64 0, .int .i64 0, .int .i64 0, .string t1, .slice p1 n1 c1], .int .i64 32] w _
  have g1 := Below.new w (.cells #[.slice tp 1 tc, .slice ep 1 ec] 47)
  have g2 := Below.new (w.alloc (.cells #[.slice tp 1 tc, .slice ep 1 ec] 47)) (.cells #[.int .i64 k1, .int .i64 0, .int .i64 0, .int .i64 0, .string t1, .slice p1 n1 c1] 27)
  have g3 := Below.new ((w.alloc (.cells #[.slice tp 1 tc, .slice ep 1 ec] 47)).alloc (.cells #[.int .i64 k1, .int .i64 0, .int .i64 0, .int .i64 0, .string t1, .slice p1 n1 c1] 27)) (.cells #[.int .i64 0, .int .i64 0, .int .i64 0, .int .i64 0, .int .i64 0, .bool false, .int .i64 0, .slice none 0 0, .slice none 0 0] 42)
  have g4 := Below.new (((w.alloc (.cells #[.slice tp 1 tc, .slice ep 1 ec] 47)).alloc (.cells #[.int .i64 k1, .int .i64 0, .int .i64 0, .int .i64 0, .string t1, .slice p1 n1 c1] 27)).alloc (.cells #[.int .i64 0, .int .i64 0, .int .i64 0, .int .i64 0, .int .i64 0, .bool false, .int .i64 0, .slice none 0 0, .slice none 0 0] 42)) (.cells #[.int .i64 0, .int .i64 0, .int .i64 0] 24)
  have g34 := Below.next g3 g4
  have g234 := Below.next g2 g34
  have gg := Below.next g1 g234
  have H := Lib.hid (And.intro ((Blk.new (w := w) 47 [.slice tp 1 tc, .slice ep 1 ec]).next g234) (And.intro ((Blk.new (w := (w.alloc (.cells #[.slice tp 1 tc, .slice ep 1 ec] 47))) 27 [.int .i64 k1, .int .i64 0, .int .i64 0, .int .i64 0, .string t1, .slice p1 n1 c1]).next g34) (And.intro ((Blk.new (w := ((w.alloc (.cells #[.slice tp 1 tc, .slice ep 1 ec] 47)).alloc (.cells #[.int .i64 k1, .int .i64 0, .int .i64 0, .int .i64 0, .string t1, .slice p1 n1 c1] 27))) 42 [.int .i64 0, .int .i64 0, .int .i64 0, .int .i64 0, .int .i64 0, .bool false, .int .i64 0, .slice none 0 0, .slice none 0 0]).next g4) (And.intro (Blk.new (w := (((w.alloc (.cells #[.slice tp 1 tc, .slice ep 1 ec] 47)).alloc (.cells #[.int .i64 k1, .int .i64 0, .int .i64 0, .int .i64 0, .string t1, .slice p1 n1 c1] 27)).alloc (.cells #[.int .i64 0, .int .i64 0, .int .i64 0, .int .i64 0, .int .i64 0, .bool false, .int .i64 0, .slice none 0 0, .slice none 0 0] 42))) 24 [.int .i64 0, .int .i64 0, .int .i64 0]) gg))))
  have HH := Lib.hid (And.intro hth (And.intro hen (And.intro hm (And.intro hml (And.intro hx (And.intro hno (And.intro hsz hwf)))))))
  simp only [World.size_alloc] at H
  clear g1 g2 g3 g4 g34 g234 gg hth hen hm hml hx hno hsz hwf
  go_enter Tryz.func7, Tryz.ntmps7
  go_upto_region 1 with fail
  change Hid (Blk ((((w.alloc (.cells #[.slice tp 1 tc, .slice ep 1 ec] 47)).alloc (.cells #[.int .i64 k1, .int .i64 0, .int .i64 0, .int .i64 0, .string t1, .slice p1 n1 c1] 27)).alloc (.cells #[.int .i64 0, .int .i64 0, .int .i64 0, .int .i64 0, .int .i64 0, .bool false, .int .i64 0, .slice none 0 0, .slice none 0 0] 42)).alloc (.cells #[.int .i64 0, .int .i64 0, .int .i64 0] 24)) _ _ _ ∧ _) at H
  generalize ((((w.alloc (.cells #[.slice tp 1 tc, .slice ep 1 ec] 47)).alloc (.cells #[.int .i64 k1, .int .i64 0, .int .i64 0, .int .i64 0, .string t1, .slice p1 n1 c1] 27)).alloc (.cells #[.int .i64 0, .int .i64 0, .int .i64 0, .int .i64 0, .int .i64 0, .bool false, .int .i64 0, .slice none 0 0, .slice none 0 0] 42)).alloc (.cells #[.int .i64 0, .int .i64 0, .int .i64 0] 24)) = w4 at *
  obtain ⟨b0, hb0⟩ : ∃ b, w.heap.size = b := ⟨_, rfl⟩
  obtain ⟨b1, hb1⟩ : ∃ b, b0 + 1 = b := ⟨_, rfl⟩
  obtain ⟨b2, hb2⟩ : ∃ b, b1 + 1 = b := ⟨_, rfl⟩
  obtain ⟨b3, hb3⟩ : ∃ b, b2 + 1 = b := ⟨_, rfl⟩
  rw [hb0] at H ⊢
  rw [hb1] at H ⊢
  rw [hb2] at H ⊢
  rw [hb3] at H ⊢
  have HN := Lib.hid (show w.heap.size = b0 ∧ b0 < b1 ∧ b1 < b2 ∧ b2 < b3 ∧ b3 < w4.heap.size from ⟨hb0, by omega, by omega, by omega, H.out.2.2.2.1.lt⟩)
  clear hb0 hb1 hb2 hb3
  have v0 := H.out.1.cell (i := 0) rfl
  have v1 := H.out.1.cell (i := 1) rfl
  go_upto_region 2 with fail
  have hn := Below.new w4 (.cells #[.slice tp 1 tc, .slice ep 1 ec, .int .i64 0, .int .i64 0, .int .i64 0, .int .i64 0, .int .i64 0] 70)
  have hkr := Blk.new (w := w4) 70 [.slice tp 1 tc, .slice ep 1 ec, .int .i64 0, .int .i64 0, .int .i64 0, .int .i64 0, .int .i64 0]
  have hb5 : Below w.heap.size w (w4.alloc (.cells #[.slice tp 1 tc, .slice ep 1 ec, .int .i64 0, .int .i64 0, .int .i64 0, .int .i64 0, .int .i64 0] 70)) := Below.trans (show Below w.heap.size w w4 from by rw [HN.out.1]; exact H.out.2.2.2.2) (hn.mono (by have := HN.out; omega))
  obtain ⟨br, hbr⟩ : ∃ x, w4.heap.size = x := ⟨_, rfl⟩
  have hwb : w.heap.size < br := by rw [← hbr]; have := HN.out; omega
  have hrs : RSt br nm tp tc ep ec 0 (w4.alloc (.cells #[.slice tp 1 tc, .slice ep 1 ec, .int .i64 0, .int .i64 0, .int .i64 0, .int .i64 0, .int .i64 0] 70)) := ⟨by rw [← hbr]; exact hkr, HH.out.1.turn (fun k hk hl => ⟨by have : k < w.heap.size := hk; omega, hb5.block k hl⟩), HH.out.2.1.turn (fun k hk hl => ⟨by have : k < w.heap.size := hk; omega, hb5.block k hl⟩), m, (hb5.cell HH.out.2.2.2.1).trans HH.out.2.2.1, Nat.lt_trans HH.out.2.2.2.1 hwb⟩
  have hx5 : EX (fun k => k < br) (w4.alloc (.cells #[.slice tp 1 tc, .slice ep 1 ec, .int .i64 0, .int .i64 0, .int .i64 0, .int .i64 0, .int .i64 0] 70)) e [.int .i64 k1, .int .i64 0, .int .i64 0, .int .i64 0, .string t1, .slice p1 n1 c1] := HH.out.2.2.2.2.1.turn (fun k hk hl => ⟨by have : k < w.heap.size := hk; omega, hb5.block k hl⟩)
  have H5 := Lib.hid (And.intro (H.out.1.next hn) (And.intro (H.out.2.1.next hn) (And.intro (H.out.2.2.1.next hn) (And.intro (H.out.2.2.2.1.next hn) (And.intro hb5 hrs)))))
  have HB2 := Lib.hid (show b3 < br from by rw [← hbr]; exact H.out.2.2.2.1.lt)
  have HA : Hid (Calls Tryz.prog 17 #[.pointer (some ⟨br, 0, none⟩), .agg #[.int .i64 k1, .int .i64 0, .int .i64 0, .int .i64 0, .string t1, .slice p1 n1 c1], .int .i64 32] (w4.alloc (.cells #[.slice tp 1 tc, .slice ep 1 ec, .int .i64 0, .int .i64 0, .int .i64 0, .int .i64 0, .int .i64 0] 70)) (TxR br nm tp tc ep ec 0 e (w4.alloc (.cells #[.slice tp 1 tc, .slice ep 1 ec, .int .i64 0, .int .i64 0, .int .i64 0, .int .i64 0, .int .i64 0] 70)))) := Lib.hid (assigned_any HH.out.2.2.2.2.2.2.2 hrs hx5 (by have := HH.out.2.2.2.2.2.1; omega))
  clear hn hkr hb5 hwb hrs hx5 v0 v1
  change Hid (Blk (w4.alloc (.cells #[.slice tp 1 tc, .slice ep 1 ec, .int .i64 0, .int .i64 0, .int .i64 0, .int .i64 0, .int .i64 0] 70)) _ _ _ ∧ _) at H5
  change Hid (Calls _ _ _ (w4.alloc (.cells #[.slice tp 1 tc, .slice ep 1 ec, .int .i64 0, .int .i64 0, .int .i64 0, .int .i64 0, .int .i64 0] 70)) _) at HA
  (try rw [hbr])
  generalize (w4.alloc (.cells #[.slice tp 1 tc, .slice ep 1 ec, .int .i64 0, .int .i64 0, .int .i64 0, .int .i64 0, .int .i64 0] 70)) = w5 at *
  clear hbr H
  have x0 := H5.out.2.1.cell (i := 0) rfl
  have x1 := H5.out.2.1.cell (i := 1) rfl
  have x2 := H5.out.2.1.cell (i := 2) rfl
  have x3 := H5.out.2.1.cell (i := 3) rfl
  have x4 := H5.out.2.1.cell (i := 4) rfl
  have x5 := H5.out.2.1.cell (i := 5) rfl
  go_wp2_with fail
  refine HA.out.mono ?_
  rintro r w6 ⟨cs, rfl, ht, hr, hu⟩
  clear HA x0 x1 x2 x3 x4 x5
  obtain ⟨k9, op9, vw9, vp9, ap9, vn9, vc9, an9, ac9, e9⟩ := ht.form
  subst e9
  have hn := Below.new w6 (.cells #[.int .i64 k9, .int .i64 op9, .int .i64 32, .int .i64 0, .int .i64 0, .bool false, .int .i64 vw9, .slice vp9 vn9 vc9, .slice ap9 an9 ac9] 42)
  have hkn := Blk.new (w := w6) 42 [.int .i64 k9, .int .i64 op9, .int .i64 32, .int .i64 0, .int .i64 0, .bool false, .int .i64 vw9, .slice vp9 vn9 vc9, .slice ap9 an9 ac9]
  obtain ⟨bx, hbx⟩ : ∃ x, w6.heap.size = x := ⟨_, rfl⟩
  have hlt5 : br < w5.heap.size := H5.out.2.2.2.2.2.bk.lt
  have hu4 := hu.trans (Upd.below (F := One br) hn)
  rw [hbx] at hkn
  have hbl : Below w.heap.size w (w6.alloc (.cells #[.int .i64 k9, .int .i64 op9, .int .i64 32, .int .i64 0, .int .i64 0, .bool false, .int .i64 vw9, .slice vp9 vn9 vc9, .slice ap9 an9 ac9] 42)) := Below.trans H5.out.2.2.2.2.1 ((hu4.low (Nat.le_of_lt hlt5)).mono (by have := HB2.out; have := HN.out; omega))
  have H7 := Lib.hid (And.intro hkn (And.intro (H5.out.2.2.1.upd hu4 (by have := HB2.out; have := HN.out; omega)) (And.intro (H5.out.2.2.2.1.upd hu4 (by have := HB2.out; omega)) (And.intro (TX.turn (A' := fun k => w5.heap.size ≤ k) (fun k h1 hl => ⟨h1, hn.block k hl⟩) ht) (And.intro (hr.next hn) (And.intro hbl hlt5))))))
  clear hu hu4 hr ht hn hkn hbl hlt5 H5
  change Hid (Blk (w6.alloc (.cells #[.int .i64 k9, .int .i64 op9, .int .i64 32, .int .i64 0, .int .i64 0, .bool false, .int .i64 vw9, .slice vp9 vn9 vc9, .slice ap9 an9 ac9] 42)) _ _ _ ∧ _) at H7
  go_upto_region 3 with fail
  generalize (w6.alloc (.cells #[.int .i64 k9, .int .i64 op9, .int .i64 32, .int .i64 0, .int .i64 0, .bool false, .int .i64 vw9, .slice vp9 vn9 vc9, .slice ap9 an9 ac9] 42)) = w7 at *
  clear hbx
  have k5 := H7.out.2.2.2.2.1.bk.cell (i := 5) rfl
  have HG := Lib.hid (show w7.rangeAt bx 0 [.int .i64 k9, .int .i64 op9, .int .i64 32, .int .i64 0, .int .i64 0, .bool false, .int .i64 vw9, .slice vp9 vn9 vc9, .slice ap9 an9 ac9] from fun j u hj => by rw [Nat.zero_add]; exact H7.out.1.cell hj)
  have hgt : ¬ (20000 : Int) < (tsz e : Int) := by have := HH.out.2.2.2.2.2.2.1; omega
  have hgt2 : ¬ 20000 < tsz e := by have := HH.out.2.2.2.2.2.2.1; omega
  go_wp2_with (first | (refine wpList_load_mid rfl 42 _ rfl bx 0 rfl [.int .i64 k9, .int .i64 op9, .int .i64 32, .int .i64 0, .int .i64 0, .bool false, .int .i64 vw9, .slice vp9 vn9 vc9, .slice ap9 an9 ac9] _ HG.out Tryz.underlying42 rfl sizeTE ?_) | (refine wpList_load_want (by rfl) 42 _ rfl bx 0 rfl [.int .i64 k9, .int .i64 op9, .int .i64 32, .int .i64 0, .int .i64 0, .bool false, .int .i64 vw9, .slice vp9 vn9 vc9, .slice ap9 an9 ac9] _ HG.out Tryz.underlying42 rfl sizeTE ?_))
  refine (tnodes_any H7.out.2.2.2.1 HH.out.2.2.2.2.2.2.1).mono ?_
  rintro r w8 ⟨rfl, hb8⟩
  have H8 := Lib.hid (And.intro (H7.out.1.next hb8) (And.intro (H7.out.2.1.next hb8) (And.intro (H7.out.2.2.1.next hb8) (And.intro (TX.turn (A' := fun k => w5.heap.size ≤ k) (fun k h1 hl => ⟨h1, hb8.block k hl⟩) H7.out.2.2.2.1) (And.intro (H7.out.2.2.2.2.1.next hb8) (And.intro (Below.trans H7.out.2.2.2.2.2.1 (hb8.mono H7.out.2.2.2.2.2.1.size)) H7.out.2.2.2.2.2.2))))))
  have HX := Lib.hid H7.out.1.lt
  clear k5 HG hb8
  have k5 := H8.out.2.2.2.2.1.bk.cell (i := 5) rfl
  go_upto_region 7 with fail
  clear k5 hgt hgt2
  have HG := Lib.hid (show w8.rangeAt bx 0 [.int .i64 k9, .int .i64 op9, .int .i64 32, .int .i64 0, .int .i64 0, .bool false, .int .i64 vw9, .slice vp9 vn9 vc9, .slice ap9 an9 ac9] from fun j u hj => by rw [Nat.zero_add]; exact H8.out.1.cell hj)
  have HT : Hid (w8.there b2 0 9) := Lib.hid (fun j hj => by rw [Nat.zero_add]; exact ⟨by rw [H8.out.2.1.cell (List.getElem?_eq_getElem hj)]; rfl, H8.out.2.1.frz j⟩)
  obtain ⟨wA, hwA⟩ : ∃ x, (World.setCells w8 b2 0 (#[.int .i64 k9, .int .i64 op9, .int .i64 32, .int .i64 0, .int .i64 0, .bool false, .int .i64 vw9, .slice vp9 vn9 vc9, .slice ap9 an9 ac9] : Array Value).toList) = x := ⟨_, rfl⟩
  have HA9 : Hid (Blk wA b2 42 [.int .i64 k9, .int .i64 op9, .int .i64 32, .int .i64 0, .int .i64 0, .bool false, .int .i64 vw9, .slice vp9 vn9 vc9, .slice ap9 an9 ac9] ∧ Blk wA b3 24 [.int .i64 0, .int .i64 0, .int .i64 0] ∧ Below b0 w wA ∧ TX nm (fun k => w5.heap.size ≤ k) wA e [.int .i64 k9, .int .i64 op9, .int .i64 32, .int .i64 0, .int .i64 0, .bool false, .int .i64 vw9, .slice vp9 vn9 vc9, .slice ap9 an9 ac9]) := Lib.hid (by rw [← hwA]; exact ⟨H8.out.2.1.put [.int .i64 k9, .int .i64 op9, .int .i64 32, .int .i64 0, .int .i64 0, .bool false, .int .i64 vw9, .slice vp9 vn9 vc9, .slice ap9 an9 ac9] rfl, H8.out.2.2.1.eqv (put_other (by have := HN.out; omega)), Below.sets (b := b2) (by have := HN.out; omega) _ 0 (by rw [← HN.out.1]; exact H8.out.2.2.2.2.2.1), TX.turn (fun k h1 hl => ⟨h1, put_other (by have h2 : w5.heap.size ≤ k := h1; have := HN.out; have := HB2.out; have := H8.out.2.2.2.2.2.2; omega)⟩) H8.out.2.2.2.1⟩)
  have HT2 : Hid (World.there wA b3 0 3) := Lib.hid (fun j hj => by rw [Nat.zero_add]; exact ⟨by rw [HA9.out.2.1.cell (List.getElem?_eq_getElem hj)]; rfl, HA9.out.2.1.frz j⟩)
  go_wp2_with (first | (refine wpList_load_mid rfl 42 _ rfl bx 0 rfl [.int .i64 k9, .int .i64 op9, .int .i64 32, .int .i64 0, .int .i64 0, .bool false, .int .i64 vw9, .slice vp9 vn9 vc9, .slice ap9 an9 ac9] _ HG.out Tryz.underlying42 rfl sizeTE ?_) | ((refine wpList_store_mid rfl 42 _ _ rfl b2 0 #[.int .i64 k9, .int .i64 op9, .int .i64 32, .int .i64 0, .int .i64 0, .bool false, .int .i64 vw9, .slice vp9 vn9 vc9, .slice ap9 an9 ac9] rfl rfl HT.out sizeTE (by kernel_rfl) ?_); rw [hwA]) | (refine wpList_store_mid rfl 24 _ _ rfl b3 0 #[.int .i64 0, .int .i64 0, .int .i64 0] rfl rfl HT2.out sizePos (by kernel_rfl) ?_))
  have hk9 := HA9.out.1.eqv (put_other (vs := [.int .i64 0, .int .i64 0, .int .i64 0]) (b := b3) (k := b2) (by have := HN.out; omega))
  have hk8 := HA9.out.2.1.put [.int .i64 0, .int .i64 0, .int .i64 0] rfl
  have hb9 := Below.sets (b := b3) (by have := HN.out; omega) [.int .i64 0, .int .i64 0, .int .i64 0] 0 HA9.out.2.2.1
  have ht9 := TX.turn (A' := fun k => w.heap.size ≤ k) (w' := World.setCells wA b3 0 [.int .i64 0, .int .i64 0, .int .i64 0]) (fun k h1 hl => ⟨by have h2 : w5.heap.size ≤ k := h1; have := HN.out; have := HB2.out; have := H8.out.2.2.2.2.2.2; omega, put_other (by have h2 : w5.heap.size ≤ k := h1; have := HB2.out; have := H8.out.2.2.2.2.2.2; omega)⟩) HA9.out.2.2.2
  generalize World.setCells wA b3 0 [.int .i64 0, .int .i64 0, .int .i64 0] = w9 at *
  exact bodyPost_ret (v := .tuple #[.agg #[.int .i64 k9, .int .i64 op9, .int .i64 32, .int .i64 0, .int .i64 0, .bool false, .int .i64 vw9, .slice vp9 vn9 vc9, .slice ap9 an9 ac9], .agg #[.int .i64 0, .int .i64 0, .int .i64 0], .int .i64 0]) (results_cell2_tmp rfl _ _ b2 _ _ _ _ rfl hk9 Tryz.underlying42 rfl sizeTE b3 _ _ _ _ rfl hk8 Tryz.underlying24 rfl sizePos rfl) rfl ⟨[.int .i64 k9, .int .i64 op9, .int .i64 32, .int .i64 0, .int .i64 0, .bool false, .int .i64 vw9, .slice vp9 vn9 vc9, .slice ap9 an9 ac9], rfl, ht9, by rw [HN.out.1]; exact hb9⟩
end Go.Proofs.YtkoggfahjlnecaaGreatDoor
