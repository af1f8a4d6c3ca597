import Derived.Test.YtkoggfahjlnecaaGreatDoorC27
import Derived.Deep.CutBlock
namespace Go.Proofs.YtkoggfahjlnecaaGreatDoor
set_option linter.unusedVariables false
open Go.RowKit Go.Sort

/-! # the resolver's spread -/
theorem results_cell_tmp {P : Program} {fn : Func} {p q : Tmp} {ty : TypeId} (h : fn.results = #[.cell p ty, .tmp q]) (tmps : Array Value) (w : World) (g : Nat) (t : TypeId) (cs : Array Value) (fr : Nat × Nat) (d : TypeDesc)
    (hp : tmps.getD p undef = .pointer (some ⟨g, 0, none⟩)) (hg : w.heap[g]? = some (.cells cs t fr))
    (hu : P.underlying ty = some d) (hd : (match d with | .struct _ | .array _ _ => true | _ => false) = true) (hi : (P.info? ty).map (·.size) = some cs.size) {v : Value} (hv : tmps.getD q undef = v) :
    (results fn tmps).run P w = .ok (.tuple #[.agg cs, v]) w := by
  subst hv
  have hp' : tmps[p]?.getD undef = .pointer (some ⟨g, 0, none⟩) := by simpa using hp
  simp [results, h, hp', asAddr, run_loadVar_row w g t ty cs fr d hg hu hd hi]
theorem roa_rng {w W : World} {br Lx ox m n cc i : Nat} {l cs : List Value} (h : ROA (fun k => k < br) w (.slice (some ⟨Lx, ox, none⟩) n cc) 6 m l) (hu : Upd (One br) (One br) w W) (hl : ∀ j, j < 6 → l[i + j]? = cs[j]?) (hc : cs.length = 6) : W.rangeAt Lx (ox + i) cs := fun j u hj => by
  have hj6 : j < 6 := by have := (List.getElem?_eq_some_iff.1 hj).1; omega
  obtain ⟨_, p, c, e, _, h3⟩ := h
  obtain ⟨b, o, e2, ha, hc2⟩ := h3 (i + j) u ((hl j hj6).trans hj)
  cases e
  cases e2
  rw [Nat.add_assoc]
  exact (World.cell?_of_block (hu.block _ (World.block_lt_of_cell? _ _ hc2) (fun e3 => by have : Lx = br := e3; have : Lx < br := ha; omega))).trans hc2
/-- an argument of the operator, resolved, in its box -/
def AR (br : Nat) (nm : Int) (tp : Option Addr) (tc : Nat) (ep : Option Addr) (ec nodes : Nat) (w1 : World) (e : KE) (v : Value) (wx : World) : Prop := ∃ b cs, v = .pointer (some ⟨b, 0, none⟩) ∧ w1.heap.size ≤ b ∧ Blk wx b 42 cs ∧ TX nm (fun k => w1.heap.size ≤ k ∧ k ≠ b) wx e cs ∧ RSt br nm tp tc ep ec nodes wx ∧ Upd (One br) (One br) w1 wx
/-- the operator's expression, made, in its box -/
def XR (br : Nat) (nm : Int) (tp : Option Addr) (tc : Nat) (ep : Option Addr) (ec nodes : Nat) (w1 : World) (op : Int) (a b : KE) (v : Value) (wx : World) : Prop := ∃ bx L ca cb, v = .pointer (some ⟨bx, 0, none⟩) ∧ w1.heap.size ≤ bx ∧ Blk wx bx 42 (binC op L) ∧ (w1.heap.size ≤ L ∧ L ≠ bx) ∧ Blk wx L 42 (ca ++ cb) ∧ TX nm (fun k => w1.heap.size ≤ k ∧ k ≠ bx) wx a ca ∧ TX nm (fun k => w1.heap.size ≤ k ∧ k ≠ bx) wx b cb ∧ RSt br nm tp tc ep ec nodes wx ∧ Upd (One br) (One br) w1 wx
theorem put_other {b k : Nat} {vs : List Value} {w : World} (h : k ≠ b) : (w.setCells b 0 vs).heap[k]? = w.heap[k]? := setCells_other h _ _
theorem ar_store {br : Nat} {nm : Int} {tp : Option Addr} {tc : Nat} {ep : Option Addr} {ec : Nat} {nodes b : Nat} {w1 wx : World} {e : KE} {cs zs : List Value} (hbr : br < w1.heap.size) (hb : w1.heap.size ≤ b) (hk : Blk wx b 42 zs) (hl : cs.length = zs.length) (ht : TX nm (fun k => w1.heap.size ≤ k ∧ k ≠ b) wx e cs) (hr : RSt br nm tp tc ep ec nodes wx) (hu : Upd (One br) (One br) w1 wx) : AR br nm tp tc ep ec nodes w1 e (.pointer (some ⟨b, 0, none⟩)) (wx.setCells b 0 cs) :=
  ⟨b, cs, rfl, hb, hk.put cs hl, ht.turn fun k hk hl => ⟨hk, put_other hk.2⟩, RSt.puts (by omega) (by omega) cs 0 hr, Upd.puts hb cs 0 rfl hu⟩
theorem xr_store {br : Nat} {nm : Int} {tp : Option Addr} {tc : Nat} {ep : Option Addr} {ec : Nat} {nodes b L : Nat} {op : Int} {w1 wx : World} {a e : KE} {ca cb zs : List Value} (hbr : br < w1.heap.size) (hb : w1.heap.size ≤ b) (hk : Blk wx b 42 zs) (hl : zs.length = 9) (hL : w1.heap.size ≤ L ∧ L ≠ b) (hkL : Blk wx L 42 (ca ++ cb)) (ha : TX nm (fun k => w1.heap.size ≤ k ∧ k ≠ b) wx a ca) (he : TX nm (fun k => w1.heap.size ≤ k ∧ k ≠ b) wx e cb) (hr : RSt br nm tp tc ep ec nodes wx) (hu : Upd (One br) (One br) w1 wx) : XR br nm tp tc ep ec nodes w1 op a e (.pointer (some ⟨b, 0, none⟩)) (wx.setCells b 0 (binC op L)) :=
  ⟨b, L, ca, cb, rfl, hb, hk.put _ (by rw [hl]; rfl), hL, hkL.eqv (put_other hL.2), ha.turn fun k hk hl => ⟨hk, put_other hk.2⟩, he.turn fun k hk hl => ⟨hk, put_other hk.2⟩, RSt.puts (by omega) (by omega) _ 0 hr, Upd.puts hb _ 0 rfl hu⟩
theorem RSt.upd_block {br : Nat} {w w' : World} (hu : Upd (One br) (One br) w w') {k : Nat} (hk : k < w.heap.size) (hne : k ≠ br) : w'.heap[k]? = w.heap[k]? := hu.block k hk hne
theorem TX.upd {br B : Nat} {nm : Int} {A : Nat → Prop} {w w' : World} {e : KE} {cs : List Value} (h : TX nm A w e cs) (hA : ∀ k, A k → k ≠ br) (hu : Upd (One br) (One br) w w') : TX nm A w' e cs := h.turn fun k hk hl => ⟨hk, hu.block k hl (hA k hk)⟩
def SpR (br : Nat) (nm : Int) (tp : Option Addr) (tc : Nat) (ep : Option Addr) (ec : Nat) (nodes : Nat) (e : KE) (w : World) (r : Ending) (w' : World) : Prop := ∃ cs, r = .returned (.tuple #[.agg cs.toArray, .bool true]) ∧ TX nm (fun k => w.heap.size ≤ k) w' e cs ∧ RSt br nm tp tc ep ec nodes w' ∧ Upd (One br) (One br) w w'
def ExprAll (br : Nat) (nm : Int) (tp : Option Addr) (tc : Nat) (ep : Option Addr) (ec : Nat) (nodes : Nat) (e : KE) (cs : List Value) (w1 : World) : Prop := ∀ W : World, Upd (One br) (One br) w1 W → RSt br nm tp tc ep ec nodes W → Calls Tryz.prog 36 #[.pointer (some ⟨br, 0, none⟩), .agg cs.toArray, .agg #[.int .i64 32, .bool true]] W (TxR br nm tp tc ep ec nodes e W)
theorem opB_small {o : Nat} (ho : o < 7) : ¬ opB o < 0 ∧ (opB o == 3) = false ∧ (opB o == 4) = false ∧ opB o < 13 := by
  rcases (show o = 0 ∨ o = 1 ∨ o = 2 ∨ o = 3 ∨ o = 4 ∨ o = 5 ∨ o = 6 by omega) with rfl | rfl | rfl | rfl | rfl | rfl | rfl <;> decide
theorem sizeAE : (Tryz.prog.info? 27).map (·.size) = some 6 := by kernel_rfl
set_option maxRecDepth 100000 in
set_option maxHeartbeats 4000000 in
theorem spread_any {br : Nat} {nm : Int} {tp : Option Addr} {tc : Nat} {ep : Option Addr} {ec : Nat} {nodes o : Nat} {a b : KE} (ho : o < 7) {w : World} {Lx ox c : Nat} {ka kb : Int} {ta tb : ByteArray} {pa pb : Option Addr} {na nb ca cb : Nat} (h : RSt br nm tp tc ep ec nodes w)
    (hx : ROA (fun k => k < br) w (.slice (some ⟨Lx, ox, none⟩) 2 c) 6 2 ([.int .i64 ka, .int .i64 0, .int .i64 0, .int .i64 0, .string ta, .slice pa na ca] ++ [.int .i64 kb, .int .i64 0, .int .i64 0, .int .i64 0, .string tb, .slice pb nb cb])) (ia : ExprAll br nm tp tc ep ec nodes a [.int .i64 ka, .int .i64 0, .int .i64 0, .int .i64 0, .string ta, .slice pa na ca] w) (ib : ExprAll br nm tp tc ep ec (nodes + a.size) b [.int .i64 kb, .int .i64 0, .int .i64 0, .int .i64 0, .string tb, .slice pb nb cb] w) : Calls Tryz.prog 69 #[.pointer (some ⟨br, 0, none⟩), .agg #[.int .i64 4, .int .i64 0, .int .i64 0, .int .i64 0, .string (opT o), .slice (some ⟨Lx, ox, none⟩) 2 c], .agg #[.int .i64 32, .bool true]] w (SpR br nm tp tc ep ec (nodes + a.size + b.size) (.bin o a b) w) := by
  have g1 := Below.new w (.cells #[.int .i64 4, .int .i64 0, .int .i64 0, .int .i64 0, .string (opT o), .slice (some ⟨Lx, ox, none⟩) 2 c] 27)
  have g2 := Below.new (w.alloc (.cells #[.int .i64 4, .int .i64 0, .int .i64 0, .int .i64 0, .string (opT o), .slice (some ⟨Lx, ox, none⟩) 2 c] 27)) (.cells #[.int .i64 32, .bool true] 99)
  have g3 := Below.new ((w.alloc (.cells #[.int .i64 4, .int .i64 0, .int .i64 0, .int .i64 0, .string (opT o), .slice (some ⟨Lx, ox, none⟩) 2 c] 27)).alloc (.cells #[.int .i64 32, .bool true] 99)) (.cells #[.int .i64 0, .int .i64 0, .int .i64 0, .int .i64 0, .int .i64 0, .bool false, .int .i64 0, .slice none 0 0, .slice none 0 0] 42)
  have gg := Below.next (Below.next g1 g2) g3
  have hu := Upd.below (F := One br) gg
  have H := Lib.hid (And.intro ((Blk.new (w := w) 27 [.int .i64 4, .int .i64 0, .int .i64 0, .int .i64 0, .string (opT o), .slice (some ⟨Lx, ox, none⟩) 2 c]).next (Below.next g2 g3)) (And.intro ((Blk.new (w := (w.alloc (.cells #[.int .i64 4, .int .i64 0, .int .i64 0, .int .i64 0, .string (opT o), .slice (some ⟨Lx, ox, none⟩) 2 c] 27))) 99 [.int .i64 32, .bool true]).next g3) (And.intro (Blk.new (w := ((w.alloc (.cells #[.int .i64 4, .int .i64 0, .int .i64 0, .int .i64 0, .string (opT o), .slice (some ⟨Lx, ox, none⟩) 2 c] 27)).alloc (.cells #[.int .i64 32, .bool true] 99))) 42 [.int .i64 0, .int .i64 0, .int .i64 0, .int .i64 0, .int .i64 0, .bool false, .int .i64 0, .slice none 0 0, .slice none 0 0]) (And.intro hu (And.intro (h.next gg) (And.intro h.bk.lt (And.intro hx (And.intro ia (And.intro ib ho)))))))))
  simp only [World.size_alloc] at H
  clear g1 g2 g3 gg h hx ia ib hu
  go_enter Tryz.func69, Tryz.ntmps69
  go_upto_region 2 with fail
  change Hid (Blk (((w.alloc (.cells #[.int .i64 4, .int .i64 0, .int .i64 0, .int .i64 0, .string (opT o), .slice (some ⟨Lx, ox, none⟩) 2 c] 27)).alloc (.cells #[.int .i64 32, .bool true] 99)).alloc (.cells #[.int .i64 0, .int .i64 0, .int .i64 0, .int .i64 0, .int .i64 0, .bool false, .int .i64 0, .slice none 0 0, .slice none 0 0] 42)) _ _ _ ∧ _) at H
  generalize (((w.alloc (.cells #[.int .i64 4, .int .i64 0, .int .i64 0, .int .i64 0, .string (opT o), .slice (some ⟨Lx, ox, none⟩) 2 c] 27)).alloc (.cells #[.int .i64 32, .bool true] 99)).alloc (.cells #[.int .i64 0, .int .i64 0, .int .i64 0, .int .i64 0, .int .i64 0, .bool false, .int .i64 0, .slice none 0 0, .slice none 0 0] 42)) = w1 at *
  obtain ⟨b0, hb0⟩ : ∃ b, w.heap.size = b := ⟨_, rfl⟩
  obtain ⟨b1, hb1⟩ : ∃ b, b0 + 1 = b := ⟨_, rfl⟩
  obtain ⟨b2, hb2⟩ : ∃ b, b1 + 1 = b := ⟨_, rfl⟩
  rw [hb0] at H ⊢
  rw [hb1] at H ⊢
  rw [hb2] at H ⊢
  have HB := Lib.hid (And.intro hb0 (And.intro hb1 hb2))
  clear hb0 hb1 hb2
  have x4 := H.out.1.cell (i := 4) rfl
  go_upto_block 0 with fail
  go_cut [8] from 13 to 38 (fun v wx => v = .int .i64 (opB o) ∧ wx = w1)
  case first =>
    clear H x4 HB
    rcases (show o = 0 ∨ o = 1 ∨ o = 2 ∨ o = 3 ∨ o = 4 ∨ o = 5 ∨ o = 6 by omega) with rfl | rfl | rfl | rfl | rfl | rfl | rfl
    · clear ho
      simp only [opT, opL, List.getD_cons_zero]
      go_wp2_with fail
      go_meet
      exact ⟨rfl, rfl⟩
    · clear ho
      simp only [opT, opL, List.getD_cons_zero, List.getD_cons_succ]
      go_wp2_with fail
      go_meet
      exact ⟨rfl, rfl⟩
    · clear ho
      simp only [opT, opL, List.getD_cons_zero, List.getD_cons_succ]
      go_wp2_with fail
      go_meet
      exact ⟨rfl, rfl⟩
    · clear ho
      simp only [opT, opL, List.getD_cons_zero, List.getD_cons_succ]
      go_wp2_with fail
      go_meet
      exact ⟨rfl, rfl⟩
    · clear ho
      simp only [opT, opL, List.getD_cons_zero, List.getD_cons_succ]
      go_wp2_with fail
      go_meet
      exact ⟨rfl, rfl⟩
    · clear ho
      simp only [opT, opL, List.getD_cons_zero, List.getD_cons_succ]
      go_wp2_with fail
      go_meet
      exact ⟨rfl, rfl⟩
    · clear ho
      simp only [opT, opL, List.getD_cons_zero, List.getD_cons_succ]
      go_wp2_with fail
      go_meet
      exact ⟨rfl, rfl⟩
  case rest =>
    obtain ⟨rfl, hwx⟩ := hcut
    have hwx := hwx.symm
    subst hwx
    have hq := opB_small ho
    have hq1 := hq.1
    have hq2 := hq.2.1
    have hq3 := hq.2.2.1
    obtain ⟨op, hop⟩ : ∃ x, opB o = x := ⟨_, rfl⟩
    rw [hop] at hq1 hq2 hq3 ⊢
    have y1 := H.out.2.1.cell (i := 1) rfl
    go_upto_region 29 with fail
    clear x4 y1 hq hq1 hq2 hq3
    go_cut [9] from 54 to 60 (fun v wx => AR br nm tp tc ep ec (nodes + a.size) w1 a v wx)
    case first =>
      refine wp_region_held_drew (S := (fun W : World => Upd (One br) (One br) w1 W)) (by kernel_rfl) ?_ (fun hHeld => ?_)
      · exact Upd.below (below_drewK (w := w1) 1)
      have HRg : Hid (∀ W : World, Upd (One br) (One br) w1 W → W.rangeAt Lx (ox + 0) [.int .i64 ka, .int .i64 0, .int .i64 0, .int .i64 0, .string ta, .slice pa na ca]) := Lib.hid fun W hU => roa_rng H.out.2.2.2.2.2.2.1 (H.out.2.2.2.1.trans hU) (fun j hj => by (rcases (show j = 0 ∨ j = 1 ∨ j = 2 ∨ j = 3 ∨ j = 4 ∨ j = 5 by omega) with rfl | rfl | rfl | rfl | rfl | rfl) <;> rfl) rfl
      have HBk : Hid (∀ W : World, Upd (One br) (One br) w1 W → Blk W b0 27 [.int .i64 4, .int .i64 0, .int .i64 0, .int .i64 0, .string (opT o), .slice (some ⟨Lx, ox, none⟩) 2 c] ∧ Blk W b1 99 [.int .i64 32, .bool true]) := Lib.hid fun W hU => ⟨H.out.1.upd hU (by have := H.out.2.2.2.2.2.1; have := HB.out; omega), H.out.2.1.upd hU (by have := H.out.2.2.2.2.2.1; have := HB.out; omega)⟩
      refine held_take (i := 0) (v := .pointer (some ⟨br, 0, none⟩)) rfl (by kernel_rfl) (by kernel_rfl) (by kernel_rfl) (fun _ _ _ h => h) (Or.inl ⟨by rfl, ?_⟩) hHeld ?_
      · intro W hSw
        clear hSw
        go_simp
        (try with_reducible rfl)
      (try simp only [Act.put, List.setIfInBounds_toArray, List.set_cons_zero, List.set_cons_succ])
      refine held_take (i := 1) (v := .pointer (some ⟨b0, 5, none⟩)) rfl (by kernel_rfl) (by kernel_rfl) (by kernel_rfl) (fun _ _ _ h => h) (Or.inl ⟨by rfl, ?_⟩) hHeld ?_
      · intro W hSw
        clear hSw
        go_simp
        (try with_reducible rfl)
      (try simp only [Act.put, List.setIfInBounds_toArray, List.set_cons_zero, List.set_cons_succ])
      refine held_take (i := 2) (v := .slice (some ⟨Lx, ox, none⟩) 2 c) rfl (by kernel_rfl) (by kernel_rfl) (by kernel_rfl) (fun _ _ _ h => h) (Or.inl ⟨by rfl, ?_⟩) hHeld ?_
      · intro W hSw
        have q1 := (HBk.out _ hSw).1.cell (i := 5) rfl
        clear hSw
        go_simp
        (try with_reducible rfl)
      (try simp only [Act.put, List.setIfInBounds_toArray, List.set_cons_zero, List.set_cons_succ])
      refine held_take (i := 3) (v := .pointer (some ⟨Lx, ox + 0, none⟩)) rfl (by kernel_rfl) (by kernel_rfl) (by kernel_rfl) (fun _ _ _ h => h) (Or.inl ⟨by rfl, ?_⟩) hHeld ?_
      · intro W hSw
        clear hSw
        go_simp
        (try with_reducible rfl)
      (try simp only [Act.put, List.setIfInBounds_toArray, List.set_cons_zero, List.set_cons_succ])
      refine held_take (i := 4) (v := .agg #[.int .i64 ka, .int .i64 0, .int .i64 0, .int .i64 0, .string ta, .slice pa na ca]) rfl (by kernel_rfl) (by kernel_rfl) (by kernel_rfl) (fun _ _ _ h => h) (yieldsIf_load_mid (by rfl) 27 _ rfl Lx (ox + 0) rfl [.int .i64 ka, .int .i64 0, .int .i64 0, .int .i64 0, .string ta, .slice pa na ca] _ HRg.out Tryz.underlying27 rfl sizeAE) hHeld ?_
      (try simp only [Act.put, List.setIfInBounds_toArray, List.set_cons_zero, List.set_cons_succ])
      refine held_take (i := 5) (v := .agg #[.int .i64 32, .bool true]) rfl (by kernel_rfl) (by kernel_rfl) (by kernel_rfl) (fun _ _ _ h => h) (Or.inl ⟨by rfl, ?_⟩) hHeld ?_
      · intro W hSw
        have q1 := (HBk.out _ hSw).2.cell (i := 0) rfl
        have q2 := (HBk.out _ hSw).2.cell (i := 1) rfl
        clear hSw
        go_simp
        (try with_reducible rfl)
      (try simp only [Act.put, List.setIfInBounds_toArray, List.set_cons_zero, List.set_cons_succ])
      have hU := Upd.below (F := One br) (below_drewK (w := w1) (B := w1.heap.size) 1)
      have hR := H.out.2.2.2.2.1.next (below_drewK (w := w1) 1)
      have HI : Hid (∀ W : World, Upd (One br) (One br) w1 W → RSt br nm tp tc ep ec nodes W → Calls Tryz.prog 36 #[.pointer (some ⟨br, 0, none⟩), .agg #[.int .i64 ka, .int .i64 0, .int .i64 0, .int .i64 0, .string ta, .slice pa na ca], .agg #[.int .i64 32, .bool true]] W (TxR br nm tp tc ep ec nodes a W)) := Lib.hid fun W h1 h2 => H.out.2.2.2.2.2.2.2.1 W (H.out.2.2.2.1.trans h1) h2
      change Upd _ _ _ w1.drew at hU
      change RSt _ _ _ _ _ _ _ w1.drew at hR
      generalize w1.drew = wd at *
      clear HRg
      have hbr : br < w1.heap.size := H.out.2.2.2.2.1.bk.lt
      refine wpAnyH_ready (rs := [6, 7]) (by kernel_rfl) (by simp) ?_
      refine held_cons rfl (fun K hK => ?_) (held_cons rfl (fun K hK => ?_) AllReadyH.nil)
      · go_simp
        refine (HI.out _ hU hR).mono ?_
        rintro r w8 ⟨cs, rfl, ht8, hr8, hu8⟩
        obtain ⟨k9, op9, vw9, vp9, ap9, vn9, vc9, an9, ac9, e9⟩ := ht8.form
        subst e9
        (try go_simp)
        refine hK.out _ _ (hU.trans hu8) (fun hHeld2 => ?_)
        clear hK K hHeld
        have hHeld := hHeld2
        clear hHeld2
        (try simp only [Act.put, List.setIfInBounds_toArray, List.set_cons_zero, List.set_cons_succ])
        have hn := Below.new w8 (.cells #[.int .i64 0, .int .i64 0, .int .i64 0, .int .i64 0, .int .i64 0, .bool false, .int .i64 0, .slice none 0 0, .slice none 0 0] 42)
        have hU8 := (hU.trans hu8).trans (Upd.below (F := One br) hn)
        have hk := Blk.new (w := w8) 42 [.int .i64 0, .int .i64 0, .int .i64 0, .int .i64 0, .int .i64 0, .bool false, .int .i64 0, .slice none 0 0, .slice none 0 0]
        have hR8 := hr8.next hn
        have ht := ht8.turn (A' := fun k => w1.heap.size ≤ k ∧ k ≠ w8.heap.size) (fun k h1 h2 => ⟨⟨Nat.le_trans hU.size h1, Nat.ne_of_lt h2⟩, hn.block k h2⟩)
        have hbx : w1.heap.size ≤ w8.heap.size := Nat.le_trans hU.size hu8.size
        refine wpAnyH_ready (rs := [7]) (by kernel_rfl) (by simp) ?_
        refine held_cons rfl (fun K hK => ?_) AllReadyH.nil
        go_simp
        refine hK.out _ _ ?_ (fun hHeld2 => ?_)
        · (try dsimp only)
          exact hU8
        clear hK K hHeld
        have hHeld := hHeld2
        clear hHeld2
        (try simp only [Act.put, List.setIfInBounds_toArray, List.set_cons_zero, List.set_cons_succ])
        change Blk (w8.alloc (.cells #[.int .i64 0, .int .i64 0, .int .i64 0, .int .i64 0, .int .i64 0, .bool false, .int .i64 0, .slice none 0 0, .slice none 0 0] 42)) _ _ _ at hk
        generalize w8.alloc (.cells #[.int .i64 0, .int .i64 0, .int .i64 0, .int .i64 0, .int .i64 0, .bool false, .int .i64 0, .slice none 0 0, .slice none 0 0] 42) = w9 at *
        generalize w8.heap.size = bx at *
        refine wpAnyH_ready (rs := [8]) (by kernel_rfl) (by simp) ?_
        refine held_cons rfl (fun K hK => ?_) AllReadyH.nil
        refine step_store rfl _ _ _ rfl bx [.int .i64 k9, .int .i64 op9, .int .i64 32, .int .i64 0, .int .i64 0, .bool false, .int .i64 vw9, .slice vp9 vn9 vc9, .slice ap9 an9 ac9] rfl rfl hk (Nat.le_refl _) sizeTE (by simp [Value.oneCell']) ?_
        refine hK.out _ _ (Upd.puts (B := w1.heap.size) hbx _ _ rfl hU8) (fun hHeld2 => ?_)
        clear hK K hHeld hHeld2
        (try simp only [Act.put])
        refine wpAnyH_done (by kernel_rfl) ?_ _
        have hAR := Lib.hid (ar_store (cs := [.int .i64 k9, .int .i64 op9, .int .i64 32, .int .i64 0, .int .i64 0, .bool false, .int .i64 vw9, .slice vp9 vn9 vc9, .slice ap9 an9 ac9]) hbr hbx hk rfl ht hR8 hU8)
        skip
        generalize w9.setCells bx 0 [.int .i64 k9, .int .i64 op9, .int .i64 32, .int .i64 0, .int .i64 0, .bool false, .int .i64 vw9, .slice vp9 vn9 vc9, .slice ap9 an9 ac9] = wz at *
        go_wp2_with fail
        go_meet
        exact hAR.out
      · have hn := Below.new wd (.cells #[.int .i64 0, .int .i64 0, .int .i64 0, .int .i64 0, .int .i64 0, .bool false, .int .i64 0, .slice none 0 0, .slice none 0 0] 42)
        have hU7 := hU.trans (Upd.below (F := One br) hn)
        have hk7 := Blk.new (w := wd) 42 [.int .i64 0, .int .i64 0, .int .i64 0, .int .i64 0, .int .i64 0, .bool false, .int .i64 0, .slice none 0 0, .slice none 0 0]
        have hR7 := hR.next hn
        have hbx : w1.heap.size ≤ wd.heap.size := hU.size
        go_simp
        refine hK.out _ _ ?_ (fun hHeld2 => ?_)
        · (try dsimp only)
          exact hU7
        clear hK K hHeld
        have hHeld := hHeld2
        clear hHeld2
        (try simp only [Act.put, List.setIfInBounds_toArray, List.set_cons_zero, List.set_cons_succ])
        change Blk (wd.alloc (.cells #[.int .i64 0, .int .i64 0, .int .i64 0, .int .i64 0, .int .i64 0, .bool false, .int .i64 0, .slice none 0 0, .slice none 0 0] 42)) _ _ _ at hk7
        generalize wd.alloc (.cells #[.int .i64 0, .int .i64 0, .int .i64 0, .int .i64 0, .int .i64 0, .bool false, .int .i64 0, .slice none 0 0, .slice none 0 0] 42) = w7 at *
        generalize wd.heap.size = bx at *
        refine wpAnyH_ready (rs := [6]) (by kernel_rfl) (by simp) ?_
        refine held_cons rfl (fun K hK => ?_) AllReadyH.nil
        go_simp
        refine (HI.out _ hU7 hR7).mono ?_
        rintro r w8 ⟨cs, rfl, ht8, hR8, hu8⟩
        obtain ⟨k9, op9, vw9, vp9, ap9, vn9, vc9, an9, ac9, e9⟩ := ht8.form
        subst e9
        have hU8 := hU7.trans hu8
        have hk := hk7.upd hu8 (by omega)
        have ht := ht8.turn (A' := fun k => w1.heap.size ≤ k ∧ k ≠ bx) (fun k h1 h2 => ⟨⟨Nat.le_trans hU7.size h1, by have := hk7.lt; omega⟩, rfl⟩)
        (try go_simp)
        refine hK.out _ _ hU8 (fun hHeld2 => ?_)
        clear hK K hHeld
        have hHeld := hHeld2
        clear hHeld2
        (try simp only [Act.put, List.setIfInBounds_toArray, List.set_cons_zero, List.set_cons_succ])
        refine wpAnyH_ready (rs := [8]) (by kernel_rfl) (by simp) ?_
        refine held_cons rfl (fun K hK => ?_) AllReadyH.nil
        refine step_store rfl _ _ _ rfl bx [.int .i64 k9, .int .i64 op9, .int .i64 32, .int .i64 0, .int .i64 0, .bool false, .int .i64 vw9, .slice vp9 vn9 vc9, .slice ap9 an9 ac9] rfl rfl hk (Nat.le_refl _) sizeTE (by simp [Value.oneCell']) ?_
        refine hK.out _ _ (Upd.puts (B := w1.heap.size) hbx _ _ rfl hU8) (fun hHeld2 => ?_)
        clear hK K hHeld hHeld2
        (try simp only [Act.put])
        refine wpAnyH_done (by kernel_rfl) ?_ _
        have hAR := Lib.hid (ar_store (cs := [.int .i64 k9, .int .i64 op9, .int .i64 32, .int .i64 0, .int .i64 0, .bool false, .int .i64 vw9, .slice vp9 vn9 vc9, .slice ap9 an9 ac9]) hbr hbx hk rfl ht hR8 hU8)
        skip
        generalize w8.setCells bx 0 [.int .i64 k9, .int .i64 op9, .int .i64 32, .int .i64 0, .int .i64 0, .bool false, .int .i64 vw9, .slice vp9 vn9 vc9, .slice ap9 an9 ac9] = wz at *
        go_wp2_with fail
        go_meet
        exact hAR.out
    case rest =>
      obtain ⟨b3, csa, rfl, hb3, hk3, hta, hr2, hu2⟩ := hcut
      have hb3r : b3 ≠ br := by have := H.out.2.2.2.2.1.bk.lt; omega
      have hbw : br < w1.heap.size := H.out.2.2.2.2.1.bk.lt
      have HW := Lib.hid (And.intro hb3 (And.intro hb3r (And.intro hu2 (And.intro hk3 (And.intro hta hr2)))))
      clear hb3 hb3r hu2 hk3
      obtain ⟨k9, op9, vw9, vp9, ap9, vn9, vc9, an9, ac9, e9⟩ := hta.form
      subst e9
      clear hta hr2
      have H2 := Lib.hid (And.intro (H.out.1.upd HW.out.2.2.1 (by have := H.out.2.2.2.2.2.1; have := HB.out; omega)) (And.intro (H.out.2.1.upd HW.out.2.2.1 (by have := H.out.2.2.2.2.2.1; have := HB.out; omega)) (And.intro (H.out.2.2.1.upd HW.out.2.2.1 (by have := H.out.2.2.2.2.2.1; have := HB.out; omega)) (H.out.2.2.2.1.trans HW.out.2.2.1))))
      go_upto_region 30 with fail
      go_cut [10] from 61 to 70 (fun v wx => XR br nm tp tc ep ec (nodes + a.size + b.size) w1 op a b v wx)
      case first =>
        have HRg : Hid (∀ W : World, Upd (One br) (One br) wc W → W.rangeAt Lx (ox + 6) [.int .i64 kb, .int .i64 0, .int .i64 0, .int .i64 0, .string tb, .slice pb nb cb]) := Lib.hid fun W hU => roa_rng H.out.2.2.2.2.2.2.1 (H2.out.2.2.2.trans hU) (fun j hj => by (rcases (show j = 0 ∨ j = 1 ∨ j = 2 ∨ j = 3 ∨ j = 4 ∨ j = 5 by omega) with rfl | rfl | rfl | rfl | rfl | rfl) <;> rfl) rfl
        have HBk : Hid (∀ W : World, Upd (One br) (One br) wc W → Blk W b0 27 [.int .i64 4, .int .i64 0, .int .i64 0, .int .i64 0, .string (opT o), .slice (some ⟨Lx, ox, none⟩) 2 c] ∧ Blk W b1 99 [.int .i64 32, .bool true]) := Lib.hid fun W hU => ⟨H2.out.1.upd hU (by have := H.out.2.2.2.2.2.1; have := HB.out; omega), H2.out.2.1.upd hU (by have := H.out.2.2.2.2.2.1; have := HB.out; omega)⟩
        have HR3 : Hid (∀ W : World, Upd (One br) (One br) wc W → W.rangeAt b3 0 [.int .i64 k9, .int .i64 op9, .int .i64 32, .int .i64 0, .int .i64 0, .bool false, .int .i64 vw9, .slice vp9 vn9 vc9, .slice ap9 an9 ac9]) := Lib.hid fun W hU j u hj => by rw [Nat.zero_add]; exact (HW.out.2.2.2.1.upd hU HW.out.2.1).cell hj
        refine wp_region_held_drew (S := (fun W : World => Upd (One br) (One br) wc W)) (by kernel_rfl) ?_ (fun hHeld => ?_)
        · exact Upd.below (below_drewK (w := wc) 1)
        refine held_take (i := 0) (v := .int .i64 op) rfl (by kernel_rfl) (by kernel_rfl) (by kernel_rfl) (fun _ _ _ h => h) (Or.inl ⟨by rfl, ?_⟩) hHeld ?_
        · intro W hSw
          clear hSw
          go_simp
          (try with_reducible rfl)
        (try simp only [Act.put, List.setIfInBounds_toArray, List.set_cons_zero, List.set_cons_succ])
        refine held_take (i := 1) (v := .agg #[.int .i64 k9, .int .i64 op9, .int .i64 32, .int .i64 0, .int .i64 0, .bool false, .int .i64 vw9, .slice vp9 vn9 vc9, .slice ap9 an9 ac9]) rfl (by kernel_rfl) (by kernel_rfl) (by kernel_rfl) (fun _ _ _ h => h) (yieldsIf_load_mid (by rfl) 42 _ rfl b3 0 rfl [.int .i64 k9, .int .i64 op9, .int .i64 32, .int .i64 0, .int .i64 0, .bool false, .int .i64 vw9, .slice vp9 vn9 vc9, .slice ap9 an9 ac9] _ HR3.out Tryz.underlying42 rfl sizeTE) hHeld ?_
        (try simp only [Act.put, List.setIfInBounds_toArray, List.set_cons_zero, List.set_cons_succ])
        refine held_take (i := 2) (v := .pointer (some ⟨br, 0, none⟩)) rfl (by kernel_rfl) (by kernel_rfl) (by kernel_rfl) (fun _ _ _ h => h) (Or.inl ⟨by rfl, ?_⟩) hHeld ?_
        · intro W hSw
          clear hSw
          go_simp
          (try with_reducible rfl)
        (try simp only [Act.put, List.setIfInBounds_toArray, List.set_cons_zero, List.set_cons_succ])
        refine held_take (i := 3) (v := .pointer (some ⟨b0, 5, none⟩)) rfl (by kernel_rfl) (by kernel_rfl) (by kernel_rfl) (fun _ _ _ h => h) (Or.inl ⟨by rfl, ?_⟩) hHeld ?_
        · intro W hSw
          clear hSw
          go_simp
          (try with_reducible rfl)
        (try simp only [Act.put, List.setIfInBounds_toArray, List.set_cons_zero, List.set_cons_succ])
        refine held_take (i := 4) (v := .slice (some ⟨Lx, ox, none⟩) 2 c) rfl (by kernel_rfl) (by kernel_rfl) (by kernel_rfl) (fun _ _ _ h => h) (Or.inl ⟨by rfl, ?_⟩) hHeld ?_
        · intro W hSw
          have q1 := (HBk.out _ hSw).1.cell (i := 5) rfl
          clear hSw
          go_simp
          (try with_reducible rfl)
        (try simp only [Act.put, List.setIfInBounds_toArray, List.set_cons_zero, List.set_cons_succ])
        refine held_take (i := 5) (v := .pointer (some ⟨Lx, ox + 6, none⟩)) rfl (by kernel_rfl) (by kernel_rfl) (by kernel_rfl) (fun _ _ _ h => h) (Or.inl ⟨by rfl, ?_⟩) hHeld ?_
        · intro W hSw
          clear hSw
          go_simp
          (try with_reducible rfl)
        (try simp only [Act.put, List.setIfInBounds_toArray, List.set_cons_zero, List.set_cons_succ])
        refine held_take (i := 6) (v := .agg #[.int .i64 kb, .int .i64 0, .int .i64 0, .int .i64 0, .string tb, .slice pb nb cb]) rfl (by kernel_rfl) (by kernel_rfl) (by kernel_rfl) (fun _ _ _ h => h) (yieldsIf_load_mid (by rfl) 27 _ rfl Lx (ox + 6) rfl [.int .i64 kb, .int .i64 0, .int .i64 0, .int .i64 0, .string tb, .slice pb nb cb] _ HRg.out Tryz.underlying27 rfl sizeAE) hHeld ?_
        (try simp only [Act.put, List.setIfInBounds_toArray, List.set_cons_zero, List.set_cons_succ])
        refine held_take (i := 7) (v := .agg #[.int .i64 32, .bool true]) rfl (by kernel_rfl) (by kernel_rfl) (by kernel_rfl) (fun _ _ _ h => h) (Or.inl ⟨by rfl, ?_⟩) hHeld ?_
        · intro W hSw
          have q1 := (HBk.out _ hSw).2.cell (i := 0) rfl
          have q2 := (HBk.out _ hSw).2.cell (i := 1) rfl
          clear hSw
          go_simp
          (try with_reducible rfl)
        (try simp only [Act.put, List.setIfInBounds_toArray, List.set_cons_zero, List.set_cons_succ])
        have hU := Upd.below (F := One br) (below_drewK (w := wc) (B := wc.heap.size) 1)
        have hR := HW.out.2.2.2.2.2.next (below_drewK (w := wc) 1)
        have HI : Hid (∀ W : World, Upd (One br) (One br) wc W → RSt br nm tp tc ep ec (nodes + a.size) W → Calls Tryz.prog 36 #[.pointer (some ⟨br, 0, none⟩), .agg #[.int .i64 kb, .int .i64 0, .int .i64 0, .int .i64 0, .string tb, .slice pb nb cb], .agg #[.int .i64 32, .bool true]] W (TxR br nm tp tc ep ec (nodes + a.size) b W)) := Lib.hid fun W h1 h2 => H.out.2.2.2.2.2.2.2.2.1 W (H2.out.2.2.2.trans h1) h2
        change Upd _ _ _ wc.drew at hU
        change RSt _ _ _ _ _ _ _ wc.drew at hR
        generalize wc.drew = wd at *
        clear HRg HBk HR3
        have hO := (opB_small H.out.2.2.2.2.2.2.2.2.2).2.2.2
        rw [hop] at hO
        have HO := Lib.hid hO
        clear hO
        have hsz := HW.out.2.2.1.size
        refine wpAnyH_ready (rs := [8, 10]) (by kernel_rfl) (by simp) ?_
        refine held_cons rfl (fun K hK => ?_) (held_cons rfl (fun K hK => ?_) AllReadyH.nil)
        · skip
          go_simp
          refine (HI.out _ hU hR).mono ?_
          rintro r w8 ⟨cs, rfl, htb, hR8, hu8⟩
          obtain ⟨k8, op8, vw8, vp8, ap8, vn8, vc8, an8, ac8, e8⟩ := htb.form
          subst e8
          have hU8 := hU.trans hu8
          (try go_simp)
          refine hK.out _ _ hU8 (fun hHeld2 => ?_)
          clear hK K hHeld
          have hHeld := hHeld2
          clear hHeld2
          (try simp only [Act.put, List.setIfInBounds_toArray, List.set_cons_zero, List.set_cons_succ])
          refine wpAnyH_ready (rs := [9, 10]) (by kernel_rfl) (by simp) ?_
          refine held_cons rfl (fun K hK => ?_) (held_cons rfl (fun K hK => ?_) AllReadyH.nil)
          · skip
            have hsz9 := hU8.size
            go_simp
            refine (ttwo_any HO.out).mono ?_
            rintro r w9 ⟨L, rfl, hkL, hL, hb9⟩
            have hU9 := hU8.trans (Upd.below (F := One br) hb9)
            have hR9 := hR8.next hb9
            (try go_simp)
            refine hK.out _ _ hU9 (fun hHeld2 => ?_)
            clear hK K hHeld
            have hHeld := hHeld2
            clear hHeld2
            (try simp only [Act.put, List.setIfInBounds_toArray, List.set_cons_zero, List.set_cons_succ])
            refine wpAnyH_ready (rs := [10]) (by kernel_rfl) (by simp) ?_
            refine held_cons rfl (fun K hK => ?_) AllReadyH.nil
            have hn := Below.new w9 (.cells #[.int .i64 0, .int .i64 0, .int .i64 0, .int .i64 0, .int .i64 0, .bool false, .int .i64 0, .slice none 0 0, .slice none 0 0] 42)
            have hUn := hU9.trans (Upd.below (F := One br) hn)
            have hk := Blk.new (w := w9) 42 [.int .i64 0, .int .i64 0, .int .i64 0, .int .i64 0, .int .i64 0, .bool false, .int .i64 0, .slice none 0 0, .slice none 0 0]
            have hRn := hR9.next hn
            have hbx : wc.heap.size ≤ w9.heap.size := hU9.size
            go_simp
            refine hK.out _ _ ?_ (fun hHeld2 => ?_)
            · (try dsimp only)
              exact hUn
            clear hK K hHeld
            have hHeld := hHeld2
            clear hHeld2
            (try simp only [Act.put, List.setIfInBounds_toArray, List.set_cons_zero, List.set_cons_succ])
            have hLl := hkL.lt
            have hkL := hkL.next hn
            have hbn := Below.trans hb9 (hn.mono hb9.size)
            have hne := hL
            change Blk (w9.alloc (.cells #[.int .i64 0, .int .i64 0, .int .i64 0, .int .i64 0, .int .i64 0, .bool false, .int .i64 0, .slice none 0 0, .slice none 0 0] 42)) _ _ _ at hk
            generalize w9.alloc (.cells #[.int .i64 0, .int .i64 0, .int .i64 0, .int .i64 0, .int .i64 0, .bool false, .int .i64 0, .slice none 0 0, .slice none 0 0] 42) = wn at *
            obtain ⟨bx, hbe⟩ : ∃ x, w9.heap.size = x := ⟨_, rfl⟩
            rw [hbe] at hk hbx ⊢
            refine wpAnyH_ready (rs := [11]) (by kernel_rfl) (by simp) ?_
            refine held_cons rfl (fun K hK => ?_) AllReadyH.nil
            have hta := TX.turn (A' := fun k => w1.heap.size ≤ k ∧ k ≠ bx) (w' := wn) (fun k h1 hl => ⟨⟨h1.1, by omega⟩, hUn.block k hl (by intro e; have e2 : k = br := e; have := h1.1; omega)⟩) HW.out.2.2.2.2.1
            have htb := TX.turn (A' := fun k => w1.heap.size ≤ k ∧ k ≠ bx) (w' := wn) (fun k h1 hl => ⟨⟨by have := hU.size; omega, by have := hb9.size; omega⟩, hbn.block k hl⟩) htb
            have hXR := Lib.hid (xr_store (op := op) (ca := [.int .i64 k9, .int .i64 op9, .int .i64 32, .int .i64 0, .int .i64 0, .bool false, .int .i64 vw9, .slice vp9 vn9 vc9, .slice ap9 an9 ac9]) (cb := [.int .i64 k8, .int .i64 op8, .int .i64 32, .int .i64 0, .int .i64 0, .bool false, .int .i64 vw8, .slice vp8 vn8 vc8, .slice ap8 an8 ac8]) hbw (Nat.le_trans hsz hbx) hk rfl ⟨by omega, by omega⟩ hkL hta htb hRn (HW.out.2.2.1.trans hUn))
            refine step_store rfl _ _ _ rfl bx (binC op L) rfl rfl hk (Nat.le_refl _) sizeTE (by simp [Value.oneCell']) ?_
            refine hK.out _ _ (Upd.puts (B := wc.heap.size) hbx _ _ rfl hUn) (fun hHeld2 => ?_)
            clear hK K hHeld hHeld2
            (try simp only [Act.put])
            refine wpAnyH_done (by kernel_rfl) ?_ _
            generalize wn.setCells bx 0 (binC op L) = wz at *
            go_wp2_with fail
            go_meet
            exact hXR.out
          · skip
            have hn := Below.new w8 (.cells #[.int .i64 0, .int .i64 0, .int .i64 0, .int .i64 0, .int .i64 0, .bool false, .int .i64 0, .slice none 0 0, .slice none 0 0] 42)
            have hUn := hU8.trans (Upd.below (F := One br) hn)
            have hk := Blk.new (w := w8) 42 [.int .i64 0, .int .i64 0, .int .i64 0, .int .i64 0, .int .i64 0, .bool false, .int .i64 0, .slice none 0 0, .slice none 0 0]
            have hRn := hR8.next hn
            have hbx : wc.heap.size ≤ w8.heap.size := hU8.size
            go_simp
            refine hK.out _ _ ?_ (fun hHeld2 => ?_)
            · (try dsimp only)
              exact hUn
            clear hK K hHeld
            have hHeld := hHeld2
            clear hHeld2
            (try simp only [Act.put, List.setIfInBounds_toArray, List.set_cons_zero, List.set_cons_succ])
            change Blk (w8.alloc (.cells #[.int .i64 0, .int .i64 0, .int .i64 0, .int .i64 0, .int .i64 0, .bool false, .int .i64 0, .slice none 0 0, .slice none 0 0] 42)) _ _ _ at hk
            generalize w8.alloc (.cells #[.int .i64 0, .int .i64 0, .int .i64 0, .int .i64 0, .int .i64 0, .bool false, .int .i64 0, .slice none 0 0, .slice none 0 0] 42) = wn at *
            obtain ⟨bx, hbe⟩ : ∃ x, w8.heap.size = x := ⟨_, rfl⟩
            rw [hbe] at hk hbx ⊢
            refine wpAnyH_ready (rs := [9]) (by kernel_rfl) (by simp) ?_
            refine held_cons rfl (fun K hK => ?_) AllReadyH.nil
            have hsz9 := hUn.size
            go_simp
            refine (ttwo_any HO.out).mono ?_
            rintro r w9 ⟨L, rfl, hkL, hL, hb9⟩
            have hU9 := hUn.trans (Upd.below (F := One br) hb9)
            have hR9 := hRn.next hb9
            (try go_simp)
            refine hK.out _ _ hU9 (fun hHeld2 => ?_)
            clear hK K hHeld
            have hHeld := hHeld2
            clear hHeld2
            (try simp only [Act.put, List.setIfInBounds_toArray, List.set_cons_zero, List.set_cons_succ])
            have hk9 := hk.next hb9
            have hbn := Below.trans hn (hb9.mono hn.size)
            refine wpAnyH_ready (rs := [11]) (by kernel_rfl) (by simp) ?_
            refine held_cons rfl (fun K hK => ?_) AllReadyH.nil
            have hta := TX.turn (A' := fun k => w1.heap.size ≤ k ∧ k ≠ bx) (w' := w9) (fun k h1 hl => ⟨⟨h1.1, by omega⟩, hU9.block k hl (by intro e; have e2 : k = br := e; have := h1.1; omega)⟩) HW.out.2.2.2.2.1
            have htb := TX.turn (A' := fun k => w1.heap.size ≤ k ∧ k ≠ bx) (w' := w9) (fun k h1 hl => ⟨⟨by have := hU.size; omega, by omega⟩, hbn.block k hl⟩) htb
            have hXR := Lib.hid (xr_store (op := op) (ca := [.int .i64 k9, .int .i64 op9, .int .i64 32, .int .i64 0, .int .i64 0, .bool false, .int .i64 vw9, .slice vp9 vn9 vc9, .slice ap9 an9 ac9]) (cb := [.int .i64 k8, .int .i64 op8, .int .i64 32, .int .i64 0, .int .i64 0, .bool false, .int .i64 vw8, .slice vp8 vn8 vc8, .slice ap8 an8 ac8]) hbw (Nat.le_trans hsz hbx) hk9 rfl ⟨by omega, by have := hk.lt; omega⟩ hkL hta htb hR9 (HW.out.2.2.1.trans hU9))
            refine step_store rfl _ _ _ rfl bx (binC op L) rfl rfl hk9 (Nat.le_refl _) sizeTE (by simp [Value.oneCell']) ?_
            refine hK.out _ _ (Upd.puts (B := wc.heap.size) hbx _ _ rfl hU9) (fun hHeld2 => ?_)
            clear hK K hHeld hHeld2
            (try simp only [Act.put])
            refine wpAnyH_done (by kernel_rfl) ?_ _
            generalize w9.setCells bx 0 (binC op L) = wz at *
            go_wp2_with fail
            go_meet
            exact hXR.out
        · skip
          have hn := Below.new wd (.cells #[.int .i64 0, .int .i64 0, .int .i64 0, .int .i64 0, .int .i64 0, .bool false, .int .i64 0, .slice none 0 0, .slice none 0 0] 42)
          have hUn := hU.trans (Upd.below (F := One br) hn)
          have hk := Blk.new (w := wd) 42 [.int .i64 0, .int .i64 0, .int .i64 0, .int .i64 0, .int .i64 0, .bool false, .int .i64 0, .slice none 0 0, .slice none 0 0]
          have hRn := hR.next hn
          have hbx : wc.heap.size ≤ wd.heap.size := hU.size
          go_simp
          refine hK.out _ _ ?_ (fun hHeld2 => ?_)
          · (try dsimp only)
            exact hUn
          clear hK K hHeld
          have hHeld := hHeld2
          clear hHeld2
          (try simp only [Act.put, List.setIfInBounds_toArray, List.set_cons_zero, List.set_cons_succ])
          change Blk (wd.alloc (.cells #[.int .i64 0, .int .i64 0, .int .i64 0, .int .i64 0, .int .i64 0, .bool false, .int .i64 0, .slice none 0 0, .slice none 0 0] 42)) _ _ _ at hk
          generalize wd.alloc (.cells #[.int .i64 0, .int .i64 0, .int .i64 0, .int .i64 0, .int .i64 0, .bool false, .int .i64 0, .slice none 0 0, .slice none 0 0] 42) = wn at *
          obtain ⟨bx, hbe⟩ : ∃ x, wd.heap.size = x := ⟨_, rfl⟩
          rw [hbe] at hk hbx ⊢
          refine wpAnyH_ready (rs := [8]) (by kernel_rfl) (by simp) ?_
          refine held_cons rfl (fun K hK => ?_) AllReadyH.nil
          go_simp
          refine (HI.out _ hUn hRn).mono ?_
          rintro r w8 ⟨cs, rfl, htb, hR8, hu8⟩
          obtain ⟨k8, op8, vw8, vp8, ap8, vn8, vc8, an8, ac8, e8⟩ := htb.form
          subst e8
          have hU8 := hUn.trans hu8
          (try go_simp)
          refine hK.out _ _ hU8 (fun hHeld2 => ?_)
          clear hK K hHeld
          have hHeld := hHeld2
          clear hHeld2
          (try simp only [Act.put, List.setIfInBounds_toArray, List.set_cons_zero, List.set_cons_succ])
          have hk8 := hk.upd hu8 (by omega)
          refine wpAnyH_ready (rs := [9]) (by kernel_rfl) (by simp) ?_
          refine held_cons rfl (fun K hK => ?_) AllReadyH.nil
          have hsz9 := hU8.size
          go_simp
          refine (ttwo_any HO.out).mono ?_
          rintro r w9 ⟨L, rfl, hkL, hL, hb9⟩
          have hU9 := hU8.trans (Upd.below (F := One br) hb9)
          have hR9 := hR8.next hb9
          (try go_simp)
          refine hK.out _ _ hU9 (fun hHeld2 => ?_)
          clear hK K hHeld
          have hHeld := hHeld2
          clear hHeld2
          (try simp only [Act.put, List.setIfInBounds_toArray, List.set_cons_zero, List.set_cons_succ])
          have hk9 := hk8.next hb9
          refine wpAnyH_ready (rs := [11]) (by kernel_rfl) (by simp) ?_
          refine held_cons rfl (fun K hK => ?_) AllReadyH.nil
          have hta := TX.turn (A' := fun k => w1.heap.size ≤ k ∧ k ≠ bx) (w' := w9) (fun k h1 hl => ⟨⟨h1.1, by omega⟩, hU9.block k hl (by intro e; have e2 : k = br := e; have := h1.1; omega)⟩) HW.out.2.2.2.2.1
          have htb := TX.turn (A' := fun k => w1.heap.size ≤ k ∧ k ≠ bx) (w' := w9) (fun k h1 hl => ⟨⟨by have := hU.size; have := hk.lt; omega, by have := hk.lt; omega⟩, hb9.block k hl⟩) htb
          have hXR := Lib.hid (xr_store (op := op) (ca := [.int .i64 k9, .int .i64 op9, .int .i64 32, .int .i64 0, .int .i64 0, .bool false, .int .i64 vw9, .slice vp9 vn9 vc9, .slice ap9 an9 ac9]) (cb := [.int .i64 k8, .int .i64 op8, .int .i64 32, .int .i64 0, .int .i64 0, .bool false, .int .i64 vw8, .slice vp8 vn8 vc8, .slice ap8 an8 ac8]) hbw (Nat.le_trans hsz hbx) hk9 rfl ⟨by omega, by have := hk8.lt; omega⟩ hkL hta htb hR9 (HW.out.2.2.1.trans hU9))
          refine step_store rfl _ _ _ rfl bx (binC op L) rfl rfl hk9 (Nat.le_refl _) sizeTE (by simp [Value.oneCell']) ?_
          refine hK.out _ _ (Upd.puts (B := wc.heap.size) hbx _ _ rfl hU9) (fun hHeld2 => ?_)
          clear hK K hHeld hHeld2
          (try simp only [Act.put])
          refine wpAnyH_done (by kernel_rfl) ?_ _
          generalize w9.setCells bx 0 (binC op L) = wz at *
          go_wp2_with fail
          go_meet
          exact hXR.out
      case rest =>
        obtain ⟨bx, L, csa, csb, rfl, hbx, hkx, hL, hkL, hta, htb, hr5, hu5⟩ := hcut
        have hlt2 : b2 < w1.heap.size := H.out.2.2.1.lt
        have HN := Lib.hid (show b0 < b2 ∧ b2 < w1.heap.size ∧ w1.heap.size ≤ bx ∧ w1.heap.size ≤ L ∧ L ≠ bx ∧ br < b0 ∧ w.heap.size = b0 ∧ bx < wc.heap.size from ⟨by have := HB.out; omega, hlt2, hbx, hL.1, hL.2, H.out.2.2.2.2.2.1, HB.out.1, hkx.lt⟩)
        have H5 := Lib.hid (And.intro (H.out.1.upd hu5 (by have := H.out.2.2.2.2.2.1; have := HB.out; omega)) (And.intro (H.out.2.2.1.upd hu5 (by have := H.out.2.2.2.2.2.1; have := HB.out; omega)) (And.intro hkx (And.intro hkL (And.intro hta (And.intro htb (And.intro hr5 (H.out.2.2.2.1.trans hu5))))))))
        have ho := H.out.2.2.2.2.2.2.2.2.2
        clear hbx hkx hL hkL hta htb hr5 hu5 hlt2 H H2 HW HB
        have x4 := H5.out.1.cell (i := 4) rfl
        go_upto_region 31 with fail
        go_cut [73] from 71 to 73 (fun v wx => v = .bool (decide (o = 6)) ∧ wx = wc)
        case first =>
          clear H5 HN hop
          rcases (show o = 0 ∨ o = 1 ∨ o = 2 ∨ o = 3 ∨ o = 4 ∨ o = 5 ∨ o = 6 by omega) with rfl | rfl | rfl | rfl | rfl | rfl | rfl
          · clear ho
            simp only [opT, opL, List.getD_cons_zero] at x4
            go_wp2_with fail
            go_meet
            exact ⟨rfl, rfl⟩
          · clear ho
            simp only [opT, opL, List.getD_cons_zero, List.getD_cons_succ] at x4
            go_wp2_with fail
            go_meet
            exact ⟨rfl, rfl⟩
          · clear ho
            simp only [opT, opL, List.getD_cons_zero, List.getD_cons_succ] at x4
            go_wp2_with fail
            go_meet
            exact ⟨rfl, rfl⟩
          · clear ho
            simp only [opT, opL, List.getD_cons_zero, List.getD_cons_succ] at x4
            go_wp2_with fail
            go_meet
            exact ⟨rfl, rfl⟩
          · clear ho
            simp only [opT, opL, List.getD_cons_zero, List.getD_cons_succ] at x4
            go_wp2_with fail
            go_meet
            exact ⟨rfl, rfl⟩
          · clear ho
            simp only [opT, opL, List.getD_cons_zero, List.getD_cons_succ] at x4
            go_wp2_with fail
            go_meet
            exact ⟨rfl, rfl⟩
          · clear ho
            simp only [opT, opL, List.getD_cons_zero, List.getD_cons_succ] at x4
            go_wp2_with fail
            go_meet
            exact ⟨rfl, rfl⟩
        case rest =>
          obtain ⟨rfl, hwx⟩ := hcut
          have hwx := hwx.symm
          subst hwx
          clear x4
          by_cases ho6 : o = 6
          · subst ho6
            have hop : (9 : Int) = op := hop
            subst hop
            have HG := Lib.hid (show wc.rangeAt bx 0 [.int .i64 7, .int .i64 9, .int .i64 32, .int .i64 0, .int .i64 0, .bool false, .int .i64 0, .slice none 0 0, .slice (some ⟨L, 0, none⟩) 2 2] from fun j u hj => by rw [Nat.zero_add]; exact H5.out.2.2.1.cell hj)
            go_wp2_with ((refine wpList_load_mid rfl 42 _ rfl bx 0 rfl [.int .i64 7, .int .i64 9, .int .i64 32, .int .i64 0, .int .i64 0, .bool false, .int .i64 0, .slice none 0 0, .slice (some ⟨L, 0, none⟩) 2 2] _ HG.out Tryz.underlying42 rfl sizeTE ?_))
            refine (tone_any (w := wc)).mono ?_
            rintro r w6 ⟨M, rfl, hkM, hM, hb6⟩
            have HM := Lib.hid (show wc.heap.size ≤ M from hM)
            have H6 := Lib.hid (And.intro (H5.out.2.1.next hb6) (And.intro (H5.out.2.2.1.next hb6) (And.intro (H5.out.2.2.2.1.next hb6) (And.intro hkM (And.intro (H5.out.2.2.2.2.1.turn (A' := fun k => w1.heap.size ≤ k ∧ k ≠ bx) (fun k h1 hl => ⟨h1, hb6.block k hl⟩)) (And.intro (H5.out.2.2.2.2.2.1.turn (A' := fun k => w1.heap.size ≤ k ∧ k ≠ bx) (fun k h1 hl => ⟨h1, hb6.block k hl⟩)) (And.intro (H5.out.2.2.2.2.2.2.1.next hb6) (H5.out.2.2.2.2.2.2.2.trans (Upd.below (F := One br) hb6)))))))))
            clear H5 hkM hM hb6 HG
            have HT : Hid (w6.there bx 0 9) := Lib.hid (fun j hj => by rw [Nat.zero_add]; exact ⟨by rw [H6.out.2.1.cell (List.getElem?_eq_getElem hj)]; rfl, H6.out.2.1.frz j⟩)
            go_upto_region 33 with ((refine wpList_store_mid rfl 42 _ _ rfl bx 0 #[.int .i64 6, .int .i64 0, .int .i64 32, .int .i64 0, .int .i64 0, .bool false, .int .i64 0, .slice none 0 0, .slice (some ⟨M, 0, none⟩) 1 1] rfl rfl HT.out sizeTE (by kernel_rfl) ?_))
            clear HT
            have H7 := Lib.hid (And.intro (H6.out.1.eqv (put_other (vs := [.int .i64 6, .int .i64 0, .int .i64 32, .int .i64 0, .int .i64 0, .bool false, .int .i64 0, .slice none 0 0, .slice (some ⟨M, 0, none⟩) 1 1]) (b := bx) (by have := HN.out; omega))) (And.intro (H6.out.2.1.put [.int .i64 6, .int .i64 0, .int .i64 32, .int .i64 0, .int .i64 0, .bool false, .int .i64 0, .slice none 0 0, .slice (some ⟨M, 0, none⟩) 1 1] rfl) (And.intro (H6.out.2.2.1.eqv (put_other (vs := [.int .i64 6, .int .i64 0, .int .i64 32, .int .i64 0, .int .i64 0, .bool false, .int .i64 0, .slice none 0 0, .slice (some ⟨M, 0, none⟩) 1 1]) (b := bx) HN.out.2.2.2.2.1)) (And.intro (H6.out.2.2.2.1.eqv (put_other (vs := [.int .i64 6, .int .i64 0, .int .i64 32, .int .i64 0, .int .i64 0, .bool false, .int .i64 0, .slice none 0 0, .slice (some ⟨M, 0, none⟩) 1 1]) (b := bx) (by have := HN.out; have := HM.out; omega))) (And.intro (H6.out.2.2.2.2.1.turn (A' := fun k => w1.heap.size ≤ k) (fun k h1 hl => ⟨h1.1, put_other (vs := [.int .i64 6, .int .i64 0, .int .i64 32, .int .i64 0, .int .i64 0, .bool false, .int .i64 0, .slice none 0 0, .slice (some ⟨M, 0, none⟩) 1 1]) h1.2⟩)) (And.intro (H6.out.2.2.2.2.2.1.turn (A' := fun k => w1.heap.size ≤ k) (fun k h1 hl => ⟨h1.1, put_other (vs := [.int .i64 6, .int .i64 0, .int .i64 32, .int .i64 0, .int .i64 0, .bool false, .int .i64 0, .slice none 0 0, .slice (some ⟨M, 0, none⟩) 1 1]) h1.2⟩)) (And.intro (RSt.puts (b := bx) (by have := HN.out; omega) (by have := HN.out; omega) [.int .i64 6, .int .i64 0, .int .i64 32, .int .i64 0, .int .i64 0, .bool false, .int .i64 0, .slice none 0 0, .slice (some ⟨M, 0, none⟩) 1 1] 0 H6.out.2.2.2.2.2.2.1) (Upd.puts (B := w.heap.size) (b := bx) (by have := HN.out; omega) [.int .i64 6, .int .i64 0, .int .i64 32, .int .i64 0, .int .i64 0, .bool false, .int .i64 0, .slice none 0 0, .slice (some ⟨M, 0, none⟩) 1 1] 0 rfl H6.out.2.2.2.2.2.2.2))))))))
            generalize w6.setCells bx 0 [.int .i64 6, .int .i64 0, .int .i64 32, .int .i64 0, .int .i64 0, .bool false, .int .i64 0, .slice none 0 0, .slice (some ⟨M, 0, none⟩) 1 1] = w7 at *
            have HG := Lib.hid (show w7.rangeAt bx 0 [.int .i64 6, .int .i64 0, .int .i64 32, .int .i64 0, .int .i64 0, .bool false, .int .i64 0, .slice none 0 0, .slice (some ⟨M, 0, none⟩) 1 1] from fun j u hj => by rw [Nat.zero_add]; exact H7.out.2.1.cell hj)
            have HT : Hid (w7.there b2 0 9) := Lib.hid (fun j hj => by rw [Nat.zero_add]; exact ⟨by rw [H7.out.1.cell (List.getElem?_eq_getElem hj)]; rfl, H7.out.1.frz j⟩)
            go_wp2_with ((first | (refine wpList_load_mid rfl 42 _ rfl bx 0 rfl [.int .i64 6, .int .i64 0, .int .i64 32, .int .i64 0, .int .i64 0, .bool false, .int .i64 0, .slice none 0 0, .slice (some ⟨M, 0, none⟩) 1 1] _ HG.out Tryz.underlying42 rfl sizeTE ?_) | (refine wpList_store_mid rfl 42 _ _ rfl b2 0 #[.int .i64 6, .int .i64 0, .int .i64 32, .int .i64 0, .int .i64 0, .bool false, .int .i64 0, .slice none 0 0, .slice (some ⟨M, 0, none⟩) 1 1] rfl rfl HT.out sizeTE (by kernel_rfl) ?_)))
            have hk9 := H7.out.1.put [.int .i64 6, .int .i64 0, .int .i64 32, .int .i64 0, .int .i64 0, .bool false, .int .i64 0, .slice none 0 0, .slice (some ⟨M, 0, none⟩) 1 1] rfl
            have hr9 := RSt.puts (b := b2) (by have := HN.out; omega) (by have := HN.out; omega) [.int .i64 6, .int .i64 0, .int .i64 32, .int .i64 0, .int .i64 0, .bool false, .int .i64 0, .slice none 0 0, .slice (some ⟨M, 0, none⟩) 1 1] 0 H7.out.2.2.2.2.2.2.1
            have hu9 := Upd.puts (B := w.heap.size) (b := b2) (by have := HN.out; omega) [.int .i64 6, .int .i64 0, .int .i64 32, .int .i64 0, .int .i64 0, .bool false, .int .i64 0, .slice none 0 0, .slice (some ⟨M, 0, none⟩) 1 1] 0 rfl H7.out.2.2.2.2.2.2.2
            have ht9 : TX nm (fun k => w.heap.size ≤ k) (w7.setCells b2 0 [.int .i64 6, .int .i64 0, .int .i64 32, .int .i64 0, .int .i64 0, .bool false, .int .i64 0, .slice none 0 0, .slice (some ⟨M, 0, none⟩) 1 1]) (.bin 6 a b) [.int .i64 6, .int .i64 0, .int .i64 32, .int .i64 0, .int .i64 0, .bool false, .int .i64 0, .slice none 0 0, .slice (some ⟨M, 0, none⟩) 1 1] := ⟨L, csa, csb, Or.inr ⟨rfl, M, rfl, by have := HN.out; have := HM.out; omega, H7.out.2.2.2.1.eqv (put_other (by have := HN.out; have := HM.out; omega))⟩, by have := HN.out; omega, H7.out.2.2.1.eqv (put_other (by have := HN.out; omega)), H7.out.2.2.2.2.1.turn (fun k h1 hl => ⟨by have := HN.out; omega, put_other (by have := HN.out; omega)⟩), H7.out.2.2.2.2.2.1.turn (fun k h1 hl => ⟨by have := HN.out; omega, put_other (by have := HN.out; omega)⟩)⟩
            generalize w7.setCells b2 0 [.int .i64 6, .int .i64 0, .int .i64 32, .int .i64 0, .int .i64 0, .bool false, .int .i64 0, .slice none 0 0, .slice (some ⟨M, 0, none⟩) 1 1] = w9 at *
            (try go_wp2_with fail)
            exact bodyPost_ret (v := .tuple #[.agg #[.int .i64 6, .int .i64 0, .int .i64 32, .int .i64 0, .int .i64 0, .bool false, .int .i64 0, .slice none 0 0, .slice (some ⟨M, 0, none⟩) 1 1], .bool true]) (results_cell_tmp rfl _ _ b2 _ _ _ _ rfl hk9 Tryz.underlying42 rfl sizeTE rfl) rfl ⟨[.int .i64 6, .int .i64 0, .int .i64 32, .int .i64 0, .int .i64 0, .bool false, .int .i64 0, .slice none 0 0, .slice (some ⟨M, 0, none⟩) 1 1], rfl, ht9, hr9, hu9⟩
          · skip
            have hd6 : decide (o = 6) = false := decide_eq_false ho6
            have HG := Lib.hid (show wc.rangeAt bx 0 [.int .i64 7, .int .i64 op, .int .i64 32, .int .i64 0, .int .i64 0, .bool false, .int .i64 0, .slice none 0 0, .slice (some ⟨L, 0, none⟩) 2 2] from fun j u hj => by rw [Nat.zero_add]; exact H5.out.2.2.1.cell hj)
            have HT : Hid (wc.there b2 0 9) := Lib.hid (fun j hj => by rw [Nat.zero_add]; exact ⟨by rw [H5.out.2.1.cell (List.getElem?_eq_getElem hj)]; rfl, H5.out.2.1.frz j⟩)
            have HQ := Lib.hid (And.intro ho6 hop)
            rw [hd6]
            clear ho6 hop hd6 ho
            go_wp2_with ((first | (refine wpList_load_mid rfl 42 _ rfl bx 0 rfl [.int .i64 7, .int .i64 op, .int .i64 32, .int .i64 0, .int .i64 0, .bool false, .int .i64 0, .slice none 0 0, .slice (some ⟨L, 0, none⟩) 2 2] _ HG.out Tryz.underlying42 rfl sizeTE ?_) | (refine wpList_store_mid rfl 42 _ _ rfl b2 0 #[.int .i64 7, .int .i64 op, .int .i64 32, .int .i64 0, .int .i64 0, .bool false, .int .i64 0, .slice none 0 0, .slice (some ⟨L, 0, none⟩) 2 2] rfl rfl HT.out sizeTE (by kernel_rfl) ?_)))
            have hk9 := H5.out.2.1.put [.int .i64 7, .int .i64 op, .int .i64 32, .int .i64 0, .int .i64 0, .bool false, .int .i64 0, .slice none 0 0, .slice (some ⟨L, 0, none⟩) 2 2] rfl
            have hr9 := RSt.puts (b := b2) (by have := HN.out; omega) (by have := HN.out; omega) [.int .i64 7, .int .i64 op, .int .i64 32, .int .i64 0, .int .i64 0, .bool false, .int .i64 0, .slice none 0 0, .slice (some ⟨L, 0, none⟩) 2 2] 0 H5.out.2.2.2.2.2.2.1
            have hu9 := Upd.puts (B := w.heap.size) (b := b2) (by have := HN.out; omega) [.int .i64 7, .int .i64 op, .int .i64 32, .int .i64 0, .int .i64 0, .bool false, .int .i64 0, .slice none 0 0, .slice (some ⟨L, 0, none⟩) 2 2] 0 rfl H5.out.2.2.2.2.2.2.2
            have ht9 : TX nm (fun k => w.heap.size ≤ k) (wc.setCells b2 0 [.int .i64 7, .int .i64 op, .int .i64 32, .int .i64 0, .int .i64 0, .bool false, .int .i64 0, .slice none 0 0, .slice (some ⟨L, 0, none⟩) 2 2]) (.bin o a b) [.int .i64 7, .int .i64 op, .int .i64 32, .int .i64 0, .int .i64 0, .bool false, .int .i64 0, .slice none 0 0, .slice (some ⟨L, 0, none⟩) 2 2] := ⟨L, csa, csb, Or.inl ⟨HQ.out.1, by rw [HQ.out.2]⟩, by have := HN.out; omega, H5.out.2.2.2.1.eqv (put_other (by have := HN.out; omega)), H5.out.2.2.2.2.1.turn (fun k h1 hl => ⟨by have := HN.out; have := h1.1; omega, put_other (by have := HN.out; have := h1.1; omega)⟩), H5.out.2.2.2.2.2.1.turn (fun k h1 hl => ⟨by have := HN.out; have := h1.1; omega, put_other (by have := HN.out; have := h1.1; omega)⟩)⟩
            generalize wc.setCells b2 0 [.int .i64 7, .int .i64 op, .int .i64 32, .int .i64 0, .int .i64 0, .bool false, .int .i64 0, .slice none 0 0, .slice (some ⟨L, 0, none⟩) 2 2] = w9 at *
            (try go_wp2_with fail)
            exact bodyPost_ret (v := .tuple #[.agg #[.int .i64 7, .int .i64 op, .int .i64 32, .int .i64 0, .int .i64 0, .bool false, .int .i64 0, .slice none 0 0, .slice (some ⟨L, 0, none⟩) 2 2], .bool true]) (results_cell_tmp rfl _ _ b2 _ _ _ _ rfl hk9 Tryz.underlying42 rfl sizeTE rfl) rfl ⟨[.int .i64 7, .int .i64 op, .int .i64 32, .int .i64 0, .int .i64 0, .bool false, .int .i64 0, .slice none 0 0, .slice (some ⟨L, 0, none⟩) 2 2], rfl, ht9, hr9, hu9⟩
end Go.Proofs.YtkoggfahjlnecaaGreatDoor
