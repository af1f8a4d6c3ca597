import Derived.Test.YtkoggfahjlnecaaGreatDoorC14
namespace Go.Proofs.YtkoggfahjlnecaaGreatDoor
set_option linter.unusedVariables false
open Go.RowKit Go.Sort

/-! # the resolver: the shape of an expression -/
structure RSt (br : Nat) (nm : Int) (tp : Option Addr) (tc : Nat) (ep : Option Addr) (ec nodes : Nat) (w : World) : Prop where
  bk : Blk w br 70 [.slice tp 1 tc, .slice ep 1 ec, .int .i64 0, .int .i64 0, .int .i64 0, .int .i64 0, .int .i64 nodes]
  th : ROA (fun k => k < br) w (.slice tp 1 tc) 19 1 (thC nm)
  env : ROA (fun k => k < br) w (.slice ep 1 ec) 2 1 [.string ⟨#[80]⟩, .int .i64 nm]
  mx : ∃ m, w.cell? ⟨1, 0, none⟩ = some (.int .i64 m) ∧ 1 < br
section
variable {br : Nat} {nm : Int} {tp : Option Addr} {tc : Nat} {ep : Option Addr} {ec nodes : Nat} {w w' : World}
theorem RSt.next (h : RSt br nm tp tc ep ec nodes w) (hb : Below w.heap.size w w') : RSt br nm tp tc ep ec nodes w' := by
  obtain ⟨m, h1, h2⟩ := h.mx
  exact ⟨h.bk.next hb, h.th.turn fun k hk hl => ⟨hk, hb.block k hl⟩, h.env.turn fun k hk hl => ⟨hk, hb.block k hl⟩, m, (hb.cell (World.block_lt_of_cell? _ _ h1)).trans h1, h2⟩
theorem RSt.max (h : RSt br nm tp tc ep ec nodes w) : Max w := by
  obtain ⟨m, h1, _⟩ := h.mx
  exact ⟨m, h1⟩
end
abbrev sh32 : List Value := [.int .i64 32, .bool true]
set_option maxRecDepth 100000 in
theorem joined_any {w : World} : Calls Tryz.prog 62 #[.agg #[.int .i64 32, .bool true], .agg #[.int .i64 32, .bool true]] w fun e w' => e = .returned (.agg #[.int .i64 32, .bool true]) ∧ Below w.heap.size w w' := by
  have g1 := Below.new w (.cells #[.int .i64 32, .bool true] 99)
  have g2 := Below.new (w.alloc (.cells #[.int .i64 32, .bool true] 99)) (.cells #[.int .i64 32, .bool true] 99)
  have g3 := Below.new ((w.alloc (.cells #[.int .i64 32, .bool true] 99)).alloc (.cells #[.int .i64 32, .bool true] 99)) (.cells #[.int .i64 0, .bool false] 99)
  have H := Lib.hid (And.intro ((Blk.new (w := w) 99 sh32).next (Below.next g2 g3)) (And.intro ((Blk.new (w := (w.alloc (.cells #[.int .i64 32, .bool true] 99))) 99 sh32).next g3) (And.intro (Blk.new (w := ((w.alloc (.cells #[.int .i64 32, .bool true] 99)).alloc (.cells #[.int .i64 32, .bool true] 99))) 99 [.int .i64 0, .bool false]) (Below.next (Below.next g1 g2) g3))))
  simp only [World.size_alloc] at H
  clear g1 g2 g3
  go_enter Tryz.func62, Tryz.ntmps62
  go_upto_region 1 with fail
  change Hid (Blk (((w.alloc (.cells #[.int .i64 32, .bool true] 99)).alloc (.cells #[.int .i64 32, .bool true] 99)).alloc (.cells #[.int .i64 0, .bool false] 99)) _ _ _ ∧ _) at H
  generalize (((w.alloc (.cells #[.int .i64 32, .bool true] 99)).alloc (.cells #[.int .i64 32, .bool true] 99)).alloc (.cells #[.int .i64 0, .bool false] 99)) = w1 at *
  have v0 := H.out.1.cell (i := 0) rfl
  have v1 := H.out.1.cell (i := 1) rfl
  have u0 := H.out.2.1.cell (i := 0) rfl
  have u1 := H.out.2.1.cell (i := 1) rfl
  have r0 := H.out.2.2.1.cell (i := 0) rfl
  have r1 := H.out.2.2.1.cell (i := 1) rfl
  have f0 := H.out.2.2.1.frz 0
  have f1 := H.out.2.2.1.frz 1
  go_wp2_with fail
  have hk9 := H.out.2.2.1.put sh32 rfl
  have hb9 := Below.sets (b := w.heap.size + 1 + 1) (by omega) sh32 0 H.out.2.2.2
  exact bodyPost_ret (v := .agg #[.int .i64 32, .bool true]) (results_cell_row rfl _ _ (w.heap.size + 1 + 1) _ _ _ _ rfl hk9 Tryz.underlying99 rfl (by kernel_rfl)) rfl ⟨rfl, hb9⟩
set_option maxRecDepth 100000 in
theorem rname_any {br : Nat} {nm : Int} {tp : Option Addr} {tc : Nat} {ep : Option Addr} {ec nodes : Nat} {w : World} (h : RSt br nm tp tc ep ec nodes w) : Calls Tryz.prog 58 #[.pointer (some ⟨br, 0, none⟩), .agg #[.int .i64 2, .int .i64 0, .int .i64 0, .int .i64 0, .string ⟨#[80]⟩, .slice none 0 0]] w fun e w' => e = .returned (.agg #[.int .i64 32, .bool true]) ∧ Below w.heap.size w w' := by
  have g1 := Below.new w (.cells #[.int .i64 2, .int .i64 0, .int .i64 0, .int .i64 0, .string ⟨#[80]⟩, .slice none 0 0] 27)
  have g2 := Below.new (w.alloc (.cells #[.int .i64 2, .int .i64 0, .int .i64 0, .int .i64 0, .string ⟨#[80]⟩, .slice none 0 0] 27)) (.cells #[.int .i64 0, .bool false] 99)
  have H := Lib.hid (And.intro ((Blk.new (w := w) 27 [.int .i64 2, .int .i64 0, .int .i64 0, .int .i64 0, .string ⟨#[80]⟩, .slice none 0 0]).next g2) (And.intro (Blk.new (w := (w.alloc (.cells #[.int .i64 2, .int .i64 0, .int .i64 0, .int .i64 0, .string ⟨#[80]⟩, .slice none 0 0] 27))) 99 [.int .i64 0, .bool false]) (And.intro (Below.next g1 g2) (h.next (Below.next g1 g2)))))
  simp only [World.size_alloc] at H
  clear g1 g2 h
  go_enter Tryz.func58, Tryz.ntmps58
  go_upto_region 1 with fail
  change Hid (Blk ((w.alloc (.cells #[.int .i64 2, .int .i64 0, .int .i64 0, .int .i64 0, .string ⟨#[80]⟩, .slice none 0 0] 27)).alloc (.cells #[.int .i64 0, .bool false] 99)) _ _ _ ∧ _) at H
  generalize ((w.alloc (.cells #[.int .i64 2, .int .i64 0, .int .i64 0, .int .i64 0, .string ⟨#[80]⟩, .slice none 0 0] 27)).alloc (.cells #[.int .i64 0, .bool false] 99)) = w1 at *
  have x4 := After.cell (H.out.1.cell (i := 4) rfl)
  have k0 := After.cell (H.out.2.2.2.bk.cell (i := 0) rfl)
  have k1 := After.cell (H.out.2.2.2.bk.cell (i := 1) rfl)
  have HFi : Hid (∀ s : After w1, Calls Tryz.prog 101 #[.agg #[.slice tp 1 tc, .slice ep 1 ec], .string ⟨#[80]⟩] s.val fun e w' => e = .returned (.agg #[.string ⟨#[80]⟩, .int .i64 1, .int .i64 nm, .string ⟨#[]⟩, .int .i64 0, .bool false, .int .i64 0, .slice none 0 0, .int .i64 0, .bool false, .int .i64 0, .int .i64 0, .int .i64 0, .int .i64 0, .int .i64 0, .bool false, .int .i64 0, .slice none 0 0, .slice none 0 0]) ∧ Below s.val.heap.size s.val w') := Lib.hid fun s => tfind_any (H.out.2.2.2.next s.below).th
  have hfd : ∀ W : World, (Instr.field 81 (.agg #[.string ⟨#[80]⟩, .int .i64 1, .int .i64 nm, .string ⟨#[]⟩, .int .i64 0, .bool false, .int .i64 0, .slice none 0 0, .int .i64 0, .bool false, .int .i64 0, .int .i64 0, .int .i64 0, .int .i64 0, .int .i64 0, .bool false, .int .i64 0, .slice none 0 0, .slice none 0 0]) 1).run Tryz.prog W = .ok (.int .i64 1) W := fun W => by kernel_rfl
  refine wp_region_after (by kernel_rfl) (by kernel_rfl) ?_
  repeat (go_big_quiet_step ((first | (with_reducible exact Calls.after_of (HFi.out _)))))
  refine wpQuiet_nil ?_
  rintro _ ⟨s, rfl⟩
  have H2 := Lib.hid (And.intro (H.out.2.1.next s.below) (Below.trans H.out.2.2.1 (s.below.mono (Nat.le_trans (Nat.le_succ _) (Nat.le_of_lt H.out.2.1.lt)))))
  generalize s.val = w2 at *
  clear x4 k0 k1 HFi H
  have r0 := H2.out.1.cell (i := 0) rfl
  have r1 := H2.out.1.cell (i := 1) rfl
  have f0 := H2.out.1.frz 0
  have f1 := H2.out.1.frz 1
  go_wp2_with fail
  have hk9 := H2.out.1.put sh32 rfl
  have hb9 := Below.sets (b := w.heap.size + 1) (by omega) sh32 0 H2.out.2
  exact bodyPost_ret (v := .agg #[.int .i64 32, .bool true]) (results_cell_row rfl _ _ (w.heap.size + 1) _ _ _ _ rfl hk9 Tryz.underlying99 rfl (by kernel_rfl)) rfl ⟨rfl, hb9⟩
end Go.Proofs.YtkoggfahjlnecaaGreatDoor
