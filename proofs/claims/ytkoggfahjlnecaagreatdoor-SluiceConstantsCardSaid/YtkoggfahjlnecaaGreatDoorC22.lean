import Derived.Test.YtkoggfahjlnecaaGreatDoorC20
namespace Go.Proofs.YtkoggfahjlnecaaGreatDoor
set_option linter.unusedVariables false
open Go.RowKit Go.Sort

/-! # typed: Nodes -/
def CntR (bn : Nat) (w : World) (m : Nat) (r : Ending) (w' : World) : Prop := r = .returned (.tuple #[]) ∧ Blk w' bn 3 [.int .i64 m] ∧ Upd (One bn) (One bn) w w'
set_option maxRecDepth 100000 in
theorem tcount_any {w : World} {bn m : Nat} {k op vw : Int} {vp ap : Option Addr} {vn vc an ac : Nat} (h : Blk w bn 3 [.int .i64 m]) (hm : m < 20000) : Calls Tryz.prog 39 #[.agg #[.int .i64 k, .int .i64 op, .int .i64 32, .int .i64 0, .int .i64 0, .bool false, .int .i64 vw, .slice vp vn vc, .slice ap an ac], .pointer (some ⟨bn, 0, none⟩)] w (CntR bn w (m + 1)) := by
  have hw : IntKind.i64.wrap ((m : Int) + 1) = ((m + 1 : Nat) : Int) := by rw [i64_of (by omega)]; rfl
  have gg := Below.new w (.cells #[.int .i64 k, .int .i64 op, .int .i64 32, .int .i64 0, .int .i64 0, .bool false, .int .i64 vw, .slice vp vn vc, .slice ap an ac] 42)
  have H := Lib.hid (And.intro (h.next gg) (Upd.below (F := One bn) gg))
  clear gg h hm
  go_enter Tryz.func39, Tryz.ntmps39
  go_upto_region 1 with fail
  change Hid (Blk (w.alloc (.cells #[.int .i64 k, .int .i64 op, .int .i64 32, .int .i64 0, .int .i64 0, .bool false, .int .i64 vw, .slice vp vn vc, .slice ap an ac] 42)) _ _ _ ∧ _) at H
  generalize (w.alloc (.cells #[.int .i64 k, .int .i64 op, .int .i64 32, .int .i64 0, .int .i64 0, .bool false, .int .i64 vw, .slice vp vn vc, .slice ap an ac] 42)) = w1 at *
  have c0 := H.out.1.cell (i := 0) rfl
  have f0 := H.out.1.frz 0
  go_wp2_with fail
  refine bodyPost_ret (results_none rfl _ _ _) rfl ⟨rfl, H.out.1.set 0 _, H.out.2.trans (upd_cell1 _)⟩
def WalkC (bn : Nat) (w : World) (cs : List Value) (sz : Nat) : Prop := ∀ (w' : World) (m : Nat), Upd (One bn) (One bn) w w' → Blk w' bn 3 [.int .i64 m] → m + sz ≤ 20000 → Calls Tryz.prog 38 #[.agg cs.toArray, .func (Fn.func 39) #[] #[.pointer (some ⟨bn, 0, none⟩)]] w' (CntR bn w' (m + sz))
/-- a node: its children's cells lie one behind the other -/
structure Kid (bn : Nat) (w : World) (p : Option Addr) (i sz : Nat) : Prop where
  ex : ∃ (L o : Nat) (k op vw : Int) (vp ap : Option Addr) (vn vc an ac : Nat), p = some ⟨L, o, none⟩ ∧ (∀ w', Upd (One bn) (One bn) w w' → w'.rangeAt L (o + i * 9) [.int .i64 k, .int .i64 op, .int .i64 32, .int .i64 0, .int .i64 0, .bool false, .int .i64 vw, .slice vp vn vc, .slice ap an ac]) ∧ WalkC bn w [.int .i64 k, .int .i64 op, .int .i64 32, .int .i64 0, .int .i64 0, .bool false, .int .i64 vw, .slice vp vn vc, .slice ap an ac] sz
def sumF (f : Nat → Nat) : Nat → Nat
  | 0 => 0
  | n + 1 => sumF f n + f n
theorem sumF_mono (f : Nat → Nat) {i n : Nat} (h : i ≤ n) : sumF f i ≤ sumF f n := by
  induction n with
  | zero => have : i = 0 := by omega
            subst this; exact Nat.le_refl _
  | succ n ih =>
    rcases Nat.lt_or_ge i (n + 1) with h1 | h1
    · have := ih (by omega); show sumF f i ≤ sumF f n + f n; omega
    · have : i = n + 1 := by omega
      subst this; exact Nat.le_refl _
set_option maxRecDepth 100000 in
set_option maxHeartbeats 4000000 in
theorem twalk_any {w : World} {bn m : Nat} {k op vw : Int} {vp ap : Option Addr} {vn vc an ac : Nat} {sz : Nat → Nat} (h : Blk w bn 3 [.int .i64 m]) (hm : m + 1 + sumF sz an ≤ 20000) (hk : ∀ i, i < an → Kid bn w ap i (sz i)) (han : an ≤ 2) : Calls Tryz.prog 38 #[.agg #[.int .i64 k, .int .i64 op, .int .i64 32, .int .i64 0, .int .i64 0, .bool false, .int .i64 vw, .slice vp vn vc, .slice ap an ac], .func (Fn.func 39) #[] #[.pointer (some ⟨bn, 0, none⟩)]] w (CntR bn w (m + 1 + sumF sz an)) := by
  have gg := Below.new w (.cells #[.int .i64 k, .int .i64 op, .int .i64 32, .int .i64 0, .int .i64 0, .bool false, .int .i64 vw, .slice vp vn vc, .slice ap an ac] 42)
  have H := Lib.hid (And.intro (h.next gg) (And.intro (Upd.below (F := One bn) gg) (And.intro (Blk.new (w := w) 42 [.int .i64 k, .int .i64 op, .int .i64 32, .int .i64 0, .int .i64 0, .bool false, .int .i64 vw, .slice vp vn vc, .slice ap an ac]) (Ne.symm (Nat.ne_of_lt h.lt)))))
  have HK := Lib.hid (And.intro hk (And.intro hm han))
  clear gg h hm hk
  go_enter Tryz.func38, Tryz.ntmps38
  go_upto_region 1 with fail
  obtain ⟨b0, hb0⟩ : ∃ b, w.heap.size = b := ⟨_, rfl⟩
  rw [hb0] at H ⊢
  change Hid (Blk (w.alloc (.cells #[.int .i64 k, .int .i64 op, .int .i64 32, .int .i64 0, .int .i64 0, .bool false, .int .i64 vw, .slice vp vn vc, .slice ap an ac] 42)) _ _ _ ∧ _) at H
  generalize (w.alloc (.cells #[.int .i64 k, .int .i64 op, .int .i64 32, .int .i64 0, .int .i64 0, .bool false, .int .i64 vw, .slice vp vn vc, .slice ap an ac] 42)) = w1 at *
  clear hb0
  have HG := Lib.hid (show w1.rangeAt b0 0 [.int .i64 k, .int .i64 op, .int .i64 32, .int .i64 0, .int .i64 0, .bool false, .int .i64 vw, .slice vp vn vc, .slice ap an ac] from fun j u hj => by rw [Nat.zero_add]; exact H.out.2.2.1.cell hj)
  have HC := Lib.hid (tcount_any (k := k) (op := op) (vw := vw) (vp := vp) (ap := ap) (vn := vn) (vc := vc) (an := an) (ac := ac) H.out.1 (by have := HK.out.2.1; omega))
  go_wp2_with ((refine wpList_load_mid rfl 42 _ rfl b0 0 rfl [.int .i64 k, .int .i64 op, .int .i64 32, .int .i64 0, .int .i64 0, .bool false, .int .i64 vw, .slice vp vn vc, .slice ap an ac] _ HG.out Tryz.underlying42 rfl sizeTE ?_))
  refine HC.out.mono ?_; rintro r w2 ⟨rfl, hk2, hu2⟩
  have H2 := Lib.hid (And.intro hk2 (And.intro (H.out.2.1.trans hu2) (H.out.2.2.1.upd hu2 H.out.2.2.2)))
  clear hk2 hu2 HC HG
  have x8 := H2.out.2.2.cell (i := 8) rfl
  have han2 : (an : Int) ≤ 2 := by omega
  go_wp2_with fail
  go_loopw [12] (fun iv wr => ∃ i : Nat, iv = .int .i64 i ∧ i ≤ an ∧ Blk wr bn 3 [.int .i64 ((m + 1 + sumF sz i : Nat) : Int)] ∧ Upd (One bn) (One bn) w wr) (fun iv _ => an - (intOf iv).toNat)
  case atStart => exact ⟨0, rfl, Nat.zero_le _, H2.out.1, H2.out.2.1⟩
  case round =>
    obtain ⟨i, rfl, hin, hkr, hur⟩ := hrel
    clear x8
    by_cases hlt : i < an
    · skip
      obtain ⟨L, o, kb, opb, vwb, vpb, apb, vnb, vcb, anb, acb, hap, hrg, hwk⟩ := (HK.out.1 i hlt).ex
      subst hap
      have hle := sumF_mono sz (show i + 1 ≤ an from hlt)
      have hs : sumF sz (i + 1) = sumF sz i + sz i := rfl
      have gg := Below.new wr (.cells #[.int .i64 kb, .int .i64 opb, .int .i64 32, .int .i64 0, .int .i64 0, .bool false, .int .i64 vwb, .slice vpb vnb vcb, .slice apb anb acb] 42)
      have hkr2 := hkr.next gg
      have hur2 := hur.trans (Upd.below gg)
      have HW := Lib.hid (hwk (wr.alloc (.cells #[.int .i64 kb, .int .i64 opb, .int .i64 32, .int .i64 0, .int .i64 0, .bool false, .int .i64 vwb, .slice vpb vnb vcb, .slice apb anb acb] 42)) (m + 1 + sumF sz i) hur2 hkr2 (by have := HK.out.2.1; omega))
      have HR2 := Lib.hid (And.intro hur2 (And.intro hlt (And.intro hs (Blk.new (w := wr) 42 [.int .i64 kb, .int .i64 opb, .int .i64 32, .int .i64 0, .int .i64 0, .bool false, .int .i64 vwb, .slice vpb vnb vcb, .slice apb anb acb]))))
      change Hid (Upd _ _ w (wr.alloc (.cells #[.int .i64 kb, .int .i64 opb, .int .i64 32, .int .i64 0, .int .i64 0, .bool false, .int .i64 vwb, .slice vpb vnb vcb, .slice apb anb acb] 42)) ∧ _) at HR2
      have HG : Hid (wr.rangeAt L (o + i * 9) [.int .i64 kb, .int .i64 opb, .int .i64 32, .int .i64 0, .int .i64 0, .bool false, .int .i64 vwb, .slice vpb vnb vcb, .slice apb anb acb]) := Lib.hid (hrg wr hur)
      have hii : (i : Int) < (an : Int) := by omega
      have hi0 : (0 : Int) ≤ (i : Int) := by omega
      have hiw : IntKind.i64.wrap ((i : Int) + 1) = ((i + 1 : Nat) : Int) := by rw [i64_of (by omega)]; rfl
      clear hkr hur hlt hwk hrg hin hle hs gg hkr2 hur2
      go_upto_region 5 with (refine wpList_load_mid rfl 42 _ rfl L (o + i * 9) rfl [.int .i64 kb, .int .i64 opb, .int .i64 32, .int .i64 0, .int .i64 0, .bool false, .int .i64 vwb, .slice vpb vnb vcb, .slice apb anb acb] _ HG.out Tryz.underlying42 rfl sizeTE ?_)
      obtain ⟨b5, hb5⟩ : ∃ b, wr.heap.size = b := ⟨_, rfl⟩
      rw [hb5] at HR2 ⊢
      generalize (wr.alloc (.cells #[.int .i64 kb, .int .i64 opb, .int .i64 32, .int .i64 0, .int .i64 0, .bool false, .int .i64 vwb, .slice vpb vnb vcb, .slice apb anb acb] 42)) = w5 at *
      clear hb5 HG
      have HG2 := Lib.hid (show w5.rangeAt b5 0 [.int .i64 kb, .int .i64 opb, .int .i64 32, .int .i64 0, .int .i64 0, .bool false, .int .i64 vwb, .slice vpb vnb vcb, .slice apb anb acb] from fun j u hj => by rw [Nat.zero_add]; exact HR2.out.2.2.2.cell hj)
      go_wp2_with ((refine wpList_load_mid rfl 42 _ rfl b5 0 rfl [.int .i64 kb, .int .i64 opb, .int .i64 32, .int .i64 0, .int .i64 0, .bool false, .int .i64 vwb, .slice vpb vnb vcb, .slice apb anb acb] _ HG2.out Tryz.underlying42 rfl sizeTE ?_))
      refine HW.out.mono ?_; rintro r w6 ⟨rfl, hk6, hu6⟩
      have H6 := Lib.hid (And.intro hk6 (HR2.out.1.trans hu6))
      clear hk6 hu6 HW HG2
      go_wp2_with fail
      go_roundw
      case measure => simp [intOf]; have := HR2.out.2.1; omega
      case rel => exact ⟨i + 1, by go_num, HR2.out.2.1, by rw [HR2.out.2.2.1, ← Nat.add_assoc]; exact H6.out.1, H6.out.2⟩
    · obtain rfl : i = an := by omega
      have hii : ¬ (i : Int) < (i : Int) := by omega
      have HF := Lib.hid (And.intro hkr hur)
      clear hkr hur hlt hin
      go_wp2_with fail
      refine bodyPost_ret (results_none rfl _ _ _) rfl ⟨rfl, HF.out.1, HF.out.2⟩
end Go.Proofs.YtkoggfahjlnecaaGreatDoor
