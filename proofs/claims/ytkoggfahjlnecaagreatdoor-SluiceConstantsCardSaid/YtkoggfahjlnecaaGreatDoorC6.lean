import Derived.Test.YtkoggfahjlnecaaGreatDoorC5
namespace Go.Proofs.YtkoggfahjlnecaaGreatDoor
set_option linter.unusedVariables false
open Go.RowKit Go.Sort

/-! # konst: the evaluator's parts -/
/-- the evaluator in memory -/
structure KS (bx : Nat) (nm : Int) (ep : Option Addr) (ec : Nat) (er : Int) (w : World) : Prop where
  bk : Blk w bx 62 [.slice ep 1 ec, .int .i64 0, .int .i64 0, .int .i64 0, .int .i64 er]
  env : ROA (fun k => k < bx) w (.slice ep 1 ec) 2 1 [.string ⟨#[80]⟩, .int .i64 nm]
  mx : ∃ m, w.cell? ⟨1, 0, none⟩ = some (.int .i64 m) ∧ 1 < bx
theorem KS.next {bx : Nat} {nm : Int} {ep : Option Addr} {ec : Nat} {er : Int} {w w' : World} (h : KS bx nm ep ec er w) (hb : Below w.heap.size w w') : KS bx nm ep ec er w' := by
  obtain ⟨m, h1, h2⟩ := h.mx
  exact ⟨h.bk.next hb, h.env.turn fun k hk hl => ⟨hk, hb.block k hl⟩, m, (hb.cell (World.block_lt_of_cell? _ _ h1)).trans h1, h2⟩
theorem KS.max {bx : Nat} {nm : Int} {ep : Option Addr} {ec : Nat} {er : Int} {w : World} (h : KS bx nm ep ec er w) : Max w := by
  obtain ⟨m, h1, _⟩ := h.mx
  exact ⟨m, h1⟩
/-- the first error is noted -/
theorem KS.err {bx : Nat} {nm : Int} {ep : Option Addr} {ec : Nat} {er : Int} {w : World} (h : KS bx nm ep ec er w) (u : Int) :
    KS bx nm ep ec u ((((w.setCell ⟨bx, 1, none⟩ (.int .i64 0)).setCell ⟨bx, 2, none⟩ (.int .i64 0)).setCell ⟨bx, 3, none⟩ (.int .i64 0)).setCell ⟨bx, 4, none⟩ (.int .i64 u)) := by
  have hb := Below.setCell (Below.setCell (Below.setCell (Below.setCell (Below.refl bx w) (p := ⟨bx, 1, none⟩) (Nat.le_refl bx) (.int .i64 0)) (p := ⟨bx, 2, none⟩) (Nat.le_refl bx) (.int .i64 0)) (p := ⟨bx, 3, none⟩) (Nat.le_refl bx) (.int .i64 0)) (p := ⟨bx, 4, none⟩) (Nat.le_refl bx) (.int .i64 u)
  obtain ⟨m, h1, h2⟩ := h.mx
  exact ⟨(((h.bk.set 1 (.int .i64 0)).set 2 (.int .i64 0)).set 3 (.int .i64 0)).set 4 (.int .i64 u), h.env.turn fun k hk hl => ⟨hk, hb.block k hk⟩, m, (hb.cell h2).trans h1, h2⟩
theorem Upd.low {b : Nat} {w w' : World} (h : Upd (One b) (One b) w w') (hb : b ≤ w.heap.size) : Below b w w' :=
  ⟨h.os, h.tape, h.output, h.size, fun k hk => h.block k (Nat.lt_of_lt_of_le hk hb) (fun e => Nat.ne_of_lt hk e)⟩
theorem Blk.upd {b b' t : Nat} {l : List Value} {w w' : World} (h : Blk w b' t l) (hu : Upd (One b) (One b) w w') (hne : b' ≠ b) : Blk w' b' t l := by
  unfold Blk at h ⊢
  rw [hu.block b' (some_lt h) hne]; exact h
set_option maxRecDepth 100000 in
theorem kfail_any {w : World} {bx : Nat} {nm : Int} {ep : Option Addr} {ec : Nat} (h : KS bx nm ep ec 0 w) : Calls Tryz.prog 30 #[.pointer (some ⟨bx, 0, none⟩), .agg #[.int .i64 0, .int .i64 0, .int .i64 0], .int .i64 3] w fun e w' => e = .returned (.int .i64 0) ∧ KS bx nm ep ec 3 w' ∧ Upd (One bx) (One bx) w w' := by
  have hn := Below.new w (.cells #[.int .i64 0, .int .i64 0, .int .i64 0] 24)
  have H := Lib.hid (And.intro (h.next hn) (And.intro (Upd.below (F := One bx) hn) (Blk.new (w := w) 24 [.int .i64 0, .int .i64 0, .int .i64 0])))
  clear h hn
  go_enter Tryz.func30, Tryz.ntmps30
  go_upto_region 1 with fail
  obtain ⟨b1, hb1⟩ : ∃ b, w.heap.size = b := ⟨_, rfl⟩
  rw [hb1] at H ⊢
  change Hid (KS _ _ _ _ _ (w.alloc (.cells #[.int .i64 0, .int .i64 0, .int .i64 0] 24)) ∧ _) at H
  generalize (w.alloc (.cells #[.int .i64 0, .int .i64 0, .int .i64 0] 24)) = w1 at *
  clear hb1
  have c1 := H.out.1.bk.cell (i := 1) rfl
  have c2 := H.out.1.bk.cell (i := 2) rfl
  have c3 := H.out.1.bk.cell (i := 3) rfl
  have c4 := H.out.1.bk.cell (i := 4) rfl
  have f1 := H.out.1.bk.frz 1
  have f2 := H.out.1.bk.frz 2
  have f3 := H.out.1.bk.frz 3
  have f4 := H.out.1.bk.frz 4
  have p0 := H.out.2.2.cell (i := 0) rfl
  have p1 := H.out.2.2.cell (i := 1) rfl
  have p2 := H.out.2.2.cell (i := 2) rfl
  go_wp2_with fail
  go_ret
  exact ⟨rfl, H.out.1.err 3, (((H.out.2.1.trans (upd_cell1 _)).trans (upd_cell1 _)).trans (upd_cell1 _)).trans (upd_cell1 _)⟩
set_option maxRecDepth 100000 in
/-- the closure of place, at the name itself -/
theorem kname_any {w : World} {b : Nat} (n : Int) (hc : w.cell? ⟨b, 0, none⟩ = some (.string ⟨#[80]⟩)) : Calls Tryz.prog 34 #[.agg #[.string ⟨#[80]⟩, .int .i64 n], .pointer (some ⟨b, 0, none⟩)] w fun e w' => e = .returned (.bool true) ∧ Below w.heap.size w w' := by
  have hlt := World.block_lt_of_cell? _ _ hc
  go_enter Tryz.func34, Tryz.ntmps34
  go_wp2_with fail
  go_ret
  exact ⟨rfl, (Below.refl _ _).alloc (Nat.le_refl _) _⟩
set_option maxRecDepth 100000 in
theorem kindex_nil {w : World} {b : Nat} : Calls Tryz.prog 33 #[.slice none 0 0, .func (Fn.func 34) #[] #[.pointer (some ⟨b, 0, none⟩)]] w fun e w' => e = .returned (.int .i64 (-1)) ∧ Below w.heap.size w w' := by
  go_enter Tryz.func33, Tryz.ntmps33
  go_wp2_with fail
  go_loopw [8] (fun iv wr => iv = .int .i64 0 ∧ Below w.heap.size w wr) (fun _ _ => 0)
  case atStart => exact ⟨rfl, Below.refl _ _⟩
  case round =>
    obtain ⟨rfl, hb⟩ := hrel
    go_wp2_with fail
    go_ret
    exact ⟨rfl, hb⟩
set_option maxRecDepth 100000 in
theorem kindex_one {w : World} {b : Nat} {p : Option Addr} {c : Nat} {n : Int} {A : Nat → Prop} (hr : ROA A w (.slice p 1 c) 2 1 [.string ⟨#[80]⟩, .int .i64 n]) (hc : w.cell? ⟨b, 0, none⟩ = some (.string ⟨#[80]⟩)) : Calls Tryz.prog 33 #[.slice p 1 c, .func (Fn.func 34) #[] #[.pointer (some ⟨b, 0, none⟩)]] w fun e w' => e = .returned (.int .i64 0) ∧ Below w.heap.size w w' := by
  obtain ⟨q, o, rfl⟩ := hr.sl (j := 0) rfl
  have c0 := hr.ro.cell (j := 0) rfl
  have c1 := hr.ro.cell (j := 1) rfl
  rw [Nat.add_zero] at c0
  have HC := Lib.hid (And.intro c0 (And.intro c1 hc))
  clear hr c0 c1 hc
  go_enter Tryz.func33, Tryz.ntmps33
  go_wp2_with fail
  go_loopw [8] (fun iv wr => iv = .int .i64 0 ∧ Below w.heap.size w wr) (fun _ _ => 0)
  case atStart => exact ⟨rfl, Below.refl _ _⟩
  case round =>
    obtain ⟨rfl, hb⟩ := hrel
    have c0 := (hb.cell (World.block_lt_of_cell? _ _ HC.out.1)).trans HC.out.1
    have c1 := (hb.cell (World.block_lt_of_cell? _ _ HC.out.2.1)).trans HC.out.2.1
    have HK := Lib.hid (kname_any (w := wr) n ((hb.cell (World.block_lt_of_cell? _ _ HC.out.2.2)).trans HC.out.2.2))
    have HB := Lib.hid hb
    clear hb
    go_wp2_with fail
    refine HK.out.mono ?_; rintro e w2 ⟨rfl, hb2⟩
    have HF := Lib.hid (HB.out.trans (hb2.mono HB.out.size))
    clear hb2 c0 c1
    go_wp2_with fail
    go_ret
    exact ⟨rfl, HF.out⟩
set_option maxRecDepth 100000 in
theorem kplace_nil {w : World} : Calls Tryz.prog 16 #[.agg #[.slice none 0 0], .string ⟨#[80]⟩] w fun e w' => e = .returned (.int .i64 (-1)) ∧ Below w.heap.size w w' := by
  have HK := Lib.hid (fun (w : World) (b : Nat) => kindex_nil (w := w) (b := b))
  go_enter Tryz.func16, Tryz.ntmps16
  go_wp2_with fail
  refine (HK.out _ _).mono ?_; rintro e w2 ⟨rfl, hb2⟩
  have hn := Below.new w (.cells #[.slice none 0 0] 35)
  have hn2 := Below.new (w.alloc (.cells #[.slice none 0 0] 35)) (.cells #[.string ⟨#[80]⟩] 9)
  have HF := Lib.hid (Below.next (Below.next hn hn2) hb2)
  clear hb2 hn hn2
  go_wp2_with fail
  go_ret
  exact ⟨rfl, HF.out⟩
set_option maxRecDepth 100000 in
theorem kplace_one {w : World} {p : Option Addr} {c : Nat} {n : Int} {A : Nat → Prop} (hr : ROA A w (.slice p 1 c) 2 1 [.string ⟨#[80]⟩, .int .i64 n]) : Calls Tryz.prog 16 #[.agg #[.slice p 1 c], .string ⟨#[80]⟩] w fun e w' => e = .returned (.int .i64 0) ∧ Below w.heap.size w w' := by
  have hn := Below.new w (.cells #[.slice p 1 c] 35)
  have hn2 := Below.new (w.alloc (.cells #[.slice p 1 c] 35)) (.cells #[.string ⟨#[80]⟩] 9)
  have hnn := Below.next hn hn2
  have hr2 := hr.turn (A' := fun _ => True) fun b _ hl => ⟨trivial, hnn.block b hl⟩
  have HK := Lib.hid (kindex_one hr2 ((Blk.new (w := (w.alloc (.cells #[.slice p 1 c] 35))) 9 [.string ⟨#[80]⟩]).cell (i := 0) rfl))
  have HN := Lib.hid hnn
  clear hr hr2 hn hn2 hnn
  rw [World.size_alloc] at HK
  go_enter Tryz.func16, Tryz.ntmps16
  go_wp2_with fail
  refine HK.out.mono ?_; rintro e w2 ⟨rfl, hb2⟩
  have HF := Lib.hid (Below.next HN.out hb2)
  clear hb2 HN HK
  go_wp2_with fail
  go_ret
  exact ⟨rfl, HF.out⟩
set_option maxRecDepth 100000 in
theorem kfind_any {w : World} {p : Option Addr} {c : Nat} {n : Int} {A : Nat → Prop} (hr : ROA A w (.slice p 1 c) 2 1 [.string ⟨#[80]⟩, .int .i64 n]) : Calls Tryz.prog 29 #[.agg #[.slice p 1 c], .string ⟨#[80]⟩] w fun e w' => e = .returned (.tuple #[.int .i64 n, .bool true]) ∧ Below w.heap.size w w' := by
  have hn := Below.new w (.cells #[.slice p 1 c] 35)
  have hr2 := hr.turn (A' := fun _ => True) fun b _ hl => ⟨trivial, hn.block b hl⟩
  have HK := Lib.hid (kplace_one hr2)
  have HN := Lib.hid (And.intro hn (And.intro hr2 (Blk.new (w := w) 35 [.slice p 1 c])))
  clear hr hr2 hn
  go_enter Tryz.func29, Tryz.ntmps29
  go_wp2_with fail
  refine HK.out.mono ?_; rintro e w2 ⟨rfl, hb2⟩
  have hro := HN.out.2.1.turn (A' := fun _ => True) (w' := w2) fun b _ hl => ⟨trivial, hb2.block b hl⟩
  obtain ⟨q, o, rfl⟩ := hro.sl (j := 0) rfl
  have c1 := hro.ro.cell (j := 1) rfl
  have e0 := (HN.out.2.2.next hb2).cell (i := 0) rfl
  have HF := Lib.hid (Below.next HN.out.1 hb2)
  clear hb2 HN HK hro
  go_wp2_with fail
  go_ret2
  exact ⟨rfl, HF.out⟩
end Go.Proofs.YtkoggfahjlnecaaGreatDoor
