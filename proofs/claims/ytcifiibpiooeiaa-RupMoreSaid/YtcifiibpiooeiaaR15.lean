import Derived.Test.YtcifiibpiooeiaaRP7
namespace Go.Proofs.Ytcifiibpiooeiaa
set_option linter.unusedVariables false
open Go Go.Lib Go.RowKit Go.Sort

def LoopQ (w : World) (bc : Nat) (W4 : World) (i : Nat) (wr : World) : Prop :=
  ∃ F, HasC (fun _ => False) wr bc F 2 (awC.take i) ∧ (∀ k, F k → k = bc ∨ W4.heap.size ≤ k) ∧ W4.heap.size ≤ wr.heap.size ∧ (∀ k, k < W4.heap.size → k ≠ bc → wr.heap[k]? = W4.heap[k]?) ∧ Below w.heap.size w wr ∧ w.heap.size ≤ W4.heap.size
def RowsAt (W4 : World) (bc g5 : Nat) : Prop := ∀ i, i < 4 → ∃ g, W4.cell? ⟨g5, i, none⟩ = some (.slice (some ⟨g, 0, none⟩) 2 2) ∧ Blk W4 g 3 (ints (awC.getD i [])) ∧ g ≠ bc ∧ g5 ≠ bc
theorem aw_step {i : Nat} (h : i < 4) : addC 2 (awC.take i) (awC.getD i []) = (awC.take (i + 1), 0) := by
  rcases (show i = 0 ∨ i = 1 ∨ i = 2 ∨ i = 3 by omega) with rfl | rfl | rfl | rfl <;> decide +kernel
theorem aw_wf (i : Nat) : WFC 2 (awC.take i) := by
  have h0 : WFC 2 [] := ⟨by omega, by simp, fun i hi => absurd hi (by simp)⟩
  induction i with
  | zero => exact h0
  | succ i ih =>
    by_cases h : i < 4
    · have := addC_wf ih (awC.getD i [])
      rw [aw_step h] at this
      exact this
    · have e : awC.take (i + 1) = awC.take i := by rw [List.take_of_length_le (by simp [awC]; omega), List.take_of_length_le (by simp [awC]; omega)]
      rw [e]; exact ih
theorem alloc5 (w1 : World) (t u : Nat) (a b c d e : List Value) :
    Blk (((((w1.alloc (.cells a.toArray t)).alloc (.cells b.toArray t)).alloc (.cells c.toArray t)).alloc (.cells d.toArray t)).alloc (.cells e.toArray u)) w1.heap.size t a ∧
    Blk (((((w1.alloc (.cells a.toArray t)).alloc (.cells b.toArray t)).alloc (.cells c.toArray t)).alloc (.cells d.toArray t)).alloc (.cells e.toArray u)) (w1.heap.size + 1) t b ∧
    Blk (((((w1.alloc (.cells a.toArray t)).alloc (.cells b.toArray t)).alloc (.cells c.toArray t)).alloc (.cells d.toArray t)).alloc (.cells e.toArray u)) (w1.heap.size + 1 + 1) t c ∧
    Blk (((((w1.alloc (.cells a.toArray t)).alloc (.cells b.toArray t)).alloc (.cells c.toArray t)).alloc (.cells d.toArray t)).alloc (.cells e.toArray u)) (w1.heap.size + 1 + 1 + 1) t d ∧
    Blk (((((w1.alloc (.cells a.toArray t)).alloc (.cells b.toArray t)).alloc (.cells c.toArray t)).alloc (.cells d.toArray t)).alloc (.cells e.toArray u)) (w1.heap.size + 1 + 1 + 1 + 1) u e ∧
    Below w1.heap.size w1 (((((w1.alloc (.cells a.toArray t)).alloc (.cells b.toArray t)).alloc (.cells c.toArray t)).alloc (.cells d.toArray t)).alloc (.cells e.toArray u)) := by
  have n1 := Below.new w1 (.cells a.toArray t)
  have n2 := Below.new (w1.alloc (.cells a.toArray t)) (.cells b.toArray t)
  have n3 := Below.new ((w1.alloc (.cells a.toArray t)).alloc (.cells b.toArray t)) (.cells c.toArray t)
  have n4 := Below.new (((w1.alloc (.cells a.toArray t)).alloc (.cells b.toArray t)).alloc (.cells c.toArray t)) (.cells d.toArray t)
  have n5 := Below.new ((((w1.alloc (.cells a.toArray t)).alloc (.cells b.toArray t)).alloc (.cells c.toArray t)).alloc (.cells d.toArray t)) (.cells e.toArray u)
  have k1 := Blk.new (w := w1) t a
  have k2 := Blk.new (w := w1.alloc (.cells a.toArray t)) t b
  have k3 := Blk.new (w := (w1.alloc (.cells a.toArray t)).alloc (.cells b.toArray t)) t c
  have k4 := Blk.new (w := ((w1.alloc (.cells a.toArray t)).alloc (.cells b.toArray t)).alloc (.cells c.toArray t)) t d
  have k5 := Blk.new (w := (((w1.alloc (.cells a.toArray t)).alloc (.cells b.toArray t)).alloc (.cells c.toArray t)).alloc (.cells d.toArray t)) u e
  have k2' := ((k2.next n3).next n4).next n5
  have k3' := (k3.next n4).next n5
  have k4' := k4.next n5
  refine ⟨(((k1.next n2).next n3).next n4).next n5, ?_, ?_, ?_, ?_, Below.next (Below.next (Below.next (Below.next n1 n2) n3) n4) n5⟩
  · rw [World.size_alloc] at k2'; exact k2'
  · rw [World.size_alloc, World.size_alloc] at k3'; exact k3'
  · rw [World.size_alloc, World.size_alloc, World.size_alloc] at k4'; exact k4'
  · rw [World.size_alloc, World.size_alloc, World.size_alloc, World.size_alloc] at k5; exact k5
set_option maxRecDepth 100000 in
set_option maxHeartbeats 8000000 in
theorem kawake_any {w : World} : Calls Try.prog 7 #[] w fun e w' => e = .returned (.bool true) ∧ Below w.heap.size w w' := by
  have HNew := Lib.hid (new_any 2 w)
  have HHas := Lib.hid (new_has (fun _ => False) 2 w)
  have HbN := Lib.hid (Below.new w (.cells #[.int .i64 2, .slice none 0 0] 59))
  go_enter Try.func7, Try.ntmps7
  go_wp2_with fail
  refine HNew.out.mono ?_
  rintro e w1 ⟨rfl, hw1⟩
  have h1 : HasC (fun _ => False) w1 w.heap.size (foot w.heap.size (.slice none 0 0)) 2 [] := by rw [hw1]; exact HHas.out
  have b1 : Below w.heap.size w w1 := by rw [hw1]; exact HbN.out
  have s1 : w1.heap.size = w.heap.size + 1 := by rw [hw1, World.size_alloc]
  have H1 := Lib.hid (And.intro h1 (And.intro b1 s1))
  clear h1 b1 hw1 s1 HNew HHas HbN
  go_upto_region 5 with fail
  have HW : Hid (RowsAt (((((w1.alloc (.cells #[.int .i64 1, .int .i64 2] 3)).alloc (.cells #[.int .i64 1, .int .i64 (-2)] 3)).alloc (.cells #[.int .i64 (-1), .int .i64 2] 3)).alloc (.cells #[.int .i64 (-1), .int .i64 (-2)] 3)).alloc (.cells #[.slice (some ⟨w1.heap.size, 0, none⟩) 2 2, .slice (some ⟨w1.heap.size + 1, 0, none⟩) 2 2, .slice (some ⟨w1.heap.size + 1 + 1, 0, none⟩) 2 2, .slice (some ⟨w1.heap.size + 1 + 1 + 1, 0, none⟩) 2 2] 23)) w.heap.size (w1.heap.size + 1 + 1 + 1 + 1) ∧
      LoopQ w w.heap.size (((((w1.alloc (.cells #[.int .i64 1, .int .i64 2] 3)).alloc (.cells #[.int .i64 1, .int .i64 (-2)] 3)).alloc (.cells #[.int .i64 (-1), .int .i64 2] 3)).alloc (.cells #[.int .i64 (-1), .int .i64 (-2)] 3)).alloc (.cells #[.slice (some ⟨w1.heap.size, 0, none⟩) 2 2, .slice (some ⟨w1.heap.size + 1, 0, none⟩) 2 2, .slice (some ⟨w1.heap.size + 1 + 1, 0, none⟩) 2 2, .slice (some ⟨w1.heap.size + 1 + 1 + 1, 0, none⟩) 2 2] 23)) 0 (((((w1.alloc (.cells #[.int .i64 1, .int .i64 2] 3)).alloc (.cells #[.int .i64 1, .int .i64 (-2)] 3)).alloc (.cells #[.int .i64 (-1), .int .i64 2] 3)).alloc (.cells #[.int .i64 (-1), .int .i64 (-2)] 3)).alloc (.cells #[.slice (some ⟨w1.heap.size, 0, none⟩) 2 2, .slice (some ⟨w1.heap.size + 1, 0, none⟩) 2 2, .slice (some ⟨w1.heap.size + 1 + 1, 0, none⟩) 2 2, .slice (some ⟨w1.heap.size + 1 + 1 + 1, 0, none⟩) 2 2] 23))) := by
    obtain ⟨h1, b1, s1⟩ := H1.out
    obtain ⟨k1, k2, k3, k4, k5, kb⟩ := alloc5 w1 3 23 [.int .i64 1, .int .i64 2] [.int .i64 1, .int .i64 (-2)] [.int .i64 (-1), .int .i64 2] [.int .i64 (-1), .int .i64 (-2)] [.slice (some ⟨w1.heap.size, 0, none⟩) 2 2, .slice (some ⟨w1.heap.size + 1, 0, none⟩) 2 2, .slice (some ⟨w1.heap.size + 1 + 1, 0, none⟩) 2 2, .slice (some ⟨w1.heap.size + 1 + 1 + 1, 0, none⟩) 2 2]
    refine Lib.hid ⟨fun i hi => ?_, _, h1.below kb, fun k hk => ?_, Nat.le_refl _, fun _ _ _ => rfl, ?_⟩
    · rcases (show i = 0 ∨ i = 1 ∨ i = 2 ∨ i = 3 by omega) with rfl | rfl | rfl | rfl
      · exact ⟨_, k5.cell (i := 0) rfl, k1, by omega, by omega⟩
      · exact ⟨_, k5.cell (i := 1) rfl, k2, by omega, by omega⟩
      · exact ⟨_, k5.cell (i := 2) rfl, k3, by omega, by omega⟩
      · exact ⟨_, k5.cell (i := 3) rfl, k4, by omega, by omega⟩
    · rcases hk with hk | hk
      · exact .inl hk
      · cases hk
    · exact ⟨b1.trans (kb.mono b1.size), Nat.le_trans b1.size kb.size⟩
  generalize ((((w1.alloc (.cells #[.int .i64 1, .int .i64 2] 3)).alloc (.cells #[.int .i64 1, .int .i64 (-2)] 3)).alloc (.cells #[.int .i64 (-1), .int .i64 2] 3)).alloc (.cells #[.int .i64 (-1), .int .i64 (-2)] 3)).alloc (.cells #[.slice (some ⟨w1.heap.size, 0, none⟩) 2 2, .slice (some ⟨w1.heap.size + 1, 0, none⟩) 2 2, .slice (some ⟨w1.heap.size + 1 + 1, 0, none⟩) 2 2, .slice (some ⟨w1.heap.size + 1 + 1 + 1, 0, none⟩) 2 2] 23) = W4 at *
  generalize w1.heap.size + 1 + 1 + 1 + 1 = g5 at *
  have HQ0 := Lib.hid HW.out.2
  have HRw := Lib.hid HW.out.1
  clear HW H1
  go_wp2_with fail
  go_loopw [17] (fun iv wr => ∃ i : Nat, i ≤ 4 ∧ iv = .int .i64 i ∧ LoopQ w w.heap.size W4 i wr) (fun iv _ => 4 - (intOf iv).toNat)
  case atStart => exact ⟨0, Nat.zero_le _, rfl, HQ0.out⟩
  case round =>
    clear HQ0
    obtain ⟨i, hin, rfl, hL⟩ := hrel
    have HL := Lib.hid hL
    by_cases hlt : i < 4
    · obtain ⟨g, hc, hb, hgb, h5⟩ := HRw.out i hlt
      obtain ⟨F, hF, hFk, hsz, hkeep, hbel, hwW⟩ := hL
      have hgl : g < W4.heap.size := hb.lt
      have hb2 : Blk wr g 3 (ints (awC.getD i [])) := (hkeep g hgl hgb).trans hb
      have hlen : (awC.getD i []).length = 2 := by
        rcases (show i = 0 ∨ i = 1 ∨ i = 2 ∨ i = 3 by omega) with rfl | rfl | rfl | rfl <;> rfl
      have hcw := (World.cell?_of_block (a := ⟨g5, i, none⟩) (hkeep g5 (World.block_lt_of_cell? _ _ hc) h5)).trans hc
      have hro : RO wr (.slice (some ⟨g, 0, none⟩) 2 2) 1 2 (ints (awC.getD i [])) := RO.ofCells hb2 (by rw [ints_len, hlen])
      have had := add_any (l := awC.getD i []) (fun k hk => hk.elim) hF (aw_wf i) (lv := .slice (some ⟨g, 0, none⟩) 2 2) (by rw [hlen]; exact hro) (by rw [hlen]; omega)
      have HA := Lib.hid had
      have HF := Lib.hid (And.intro hFk (And.intro hsz (And.intro hkeep (And.intro hbel hwW))))
      have hid : decide (i < 4) = true := decide_eq_true hlt
      have hii : (i : Int) < 4 := by omega
      have hi0 : (0 : Int) ≤ i := by omega
      have hiw : IntKind.i64.wrap ((i : Int) + 1) = (i : Int) + 1 := i64_of (by omega)
      clear hc hb hb2 hF hFk hsz hkeep hbel hwW hro had hlen
      go_wp2_with fail
      refine HA.out.mono ?_
      rintro e w2 ⟨rfl, F2, hc2, hu2⟩
      rw [aw_step hlt] at hc2 ⊢
      have H2 : Hid (LoopQ w w.heap.size W4 (i + 1) w2) := Lib.hid ⟨F2, hc2, fun k hk => by
        rcases hu2.sub k hk with h | h
        · exact HF.out.1 k h
        · exact .inr (Nat.le_trans HF.out.2.1 h), Nat.le_trans HF.out.2.1 hu2.size, fun k hk hkb => (hu2.block k (by have := HF.out.2.1; omega) (fun h => by rcases HF.out.1 k h with e | e <;> omega)).trans (HF.out.2.2.1 k hk hkb),
        HF.out.2.2.2.1.trans (hu2.toBelow (fun k hk => by have := HF.out.2.2.2.2; rcases HF.out.1 k hk with e | e <;> omega) HF.out.2.2.2.1.size), HF.out.2.2.2.2⟩
      clear hc2 hu2
      go_wp2_with fail
      go_roundw
      case rel => exact ⟨i + 1, by omega, by go_num, H2.out⟩
      case measure => simp [intOf]; omega
    · have hid : decide (i < 4) = false := decide_eq_false hlt
      obtain ⟨F, hF, _, _, _, hbel, _⟩ := hL
      have e4 : awC.take i = awC := List.take_of_length_le (by show 4 ≤ i; omega)
      rw [e4] at hF
      have hwf : WFC 2 awC := aw_wf 4
      have HF := Lib.hid (And.intro hF (And.intro hbel hwf))
      have Z1 := Below.new wr (.cells #[.int .i64 1] 3)
      have Z2 := Below.new (wr.alloc (.cells #[.int .i64 1] 3)) (.cells #[.slice (some ⟨wr.heap.size, 0, none⟩) 1 1, .slice none 0 0] 23)
      have k1 := (Blk.new (w := wr) 3 [.int .i64 1]).next Z2
      have k2 := Blk.new (w := wr.alloc (.cells #[.int .i64 1] 3)) 23 [.slice (some ⟨wr.heap.size, 0, none⟩) 1 1, .slice none 0 0]
      rw [World.size_alloc] at k2
      have hn : Nest ((wr.alloc (.cells #[.int .i64 1] 3)).alloc (.cells #[.slice (some ⟨wr.heap.size, 0, none⟩) 1 1, .slice none 0 0] 23)) [(some ⟨wr.heap.size, 0, none⟩, 1, 1), (none, 0, 0)] [[1], []] := by
        refine ⟨rfl, fun j hj => ?_⟩
        rcases (show j = 0 ∨ j = 1 by simp at hj; omega) with rfl | rfl
        · exact ⟨rfl, Nat.le_refl _, RO.ofCells k1 rfl⟩
        · exact ⟨rfl, Nat.le_refl _, rfl, none, 0, rfl, fun j u hj => by simp [ints] at hj⟩
      have hc1 := kcheck_any (sls := [(some ⟨wr.heap.size, 0, none⟩, 1, 1), (none, 0, 0)]) (ps := [[1], []]) (pl := some ⟨wr.heap.size + 1, 0, none⟩) (cl := 2) ((hF.below Z1).below Z2) hwf (RO.ofCells k2 rfl) hn (by simp) (fun j => by rcases j with _ | _ | j <;> simp)
      have HC1 := Lib.hid hc1
      have HB1 := Lib.hid (hbel.trans ((Z1.trans (Z2.mono Z1.size)).mono hbel.size))
      have hF1 := (hF.below Z1).below Z2
      have HF1 := Lib.hid hF1
      clear hF hbel hwf Z1 Z2 k1 k2 hn hc1 hF1 e4
      go_wp2_with fail
      refine HC1.out.mono ?_
      rintro e w3 ⟨n, c, rfl, hb3, hchk⟩
      obtain ⟨rfl, rfl⟩ := aw_chk1 hchk
      have hF3 := HF1.out.below hb3
      have hbel3 := HB1.out.trans (hb3.mono HB1.out.size)
      clear hchk hb3 HC1
      have Z1 := Below.new w3 (.cells #[] 3)
      have Z2 := Below.new (w3.alloc (.cells #[] 3)) (.cells #[.slice (some ⟨w3.heap.size, 0, none⟩) 0 0] 23)
      have k2 := Blk.new (w := w3.alloc (.cells #[] 3)) 23 [.slice (some ⟨w3.heap.size, 0, none⟩) 0 0]
      rw [World.size_alloc] at k2
      have hn : Nest ((w3.alloc (.cells #[] 3)).alloc (.cells #[.slice (some ⟨w3.heap.size, 0, none⟩) 0 0] 23)) [(some ⟨w3.heap.size, 0, none⟩, 0, 0)] [[]] := by
        refine ⟨rfl, fun j hj => ?_⟩
        obtain rfl : j = 0 := by simp at hj; omega
        exact ⟨rfl, Nat.le_refl _, rfl, _, 0, rfl, fun j u hj => by simp [ints] at hj⟩
      have hc1 := kcheck_any (sls := [(some ⟨w3.heap.size, 0, none⟩, 0, 0)]) (ps := [[]]) (pl := some ⟨w3.heap.size + 1, 0, none⟩) (cl := 1) ((hF3.below Z1).below Z2) HF.out.2.2 (RO.ofCells k2 rfl) hn (by simp) (fun j => by rcases j with _ | j <;> simp)
      have HC1 := Lib.hid hc1
      have HB2 := Lib.hid (hbel3.trans ((Z1.trans (Z2.mono Z1.size)).mono hbel3.size))
      have hF2 := (hF3.below Z1).below Z2
      have HF2 := Lib.hid hF2
      clear Z1 Z2 k2 hn hc1 hF2 hF3 hbel3 HF1 HB1
      go_wp2_with fail
      refine HC1.out.mono ?_
      rintro e w4 ⟨n, c, rfl, hb4, hchk⟩
      obtain ⟨rfl, rfl⟩ := aw_chk2 hchk
      have hF4 := HF2.out.below hb4
      have hbel4 := HB2.out.trans (hb4.mono HB2.out.size)
      clear hchk hb4 HC1
      have Z1 := Below.new w4 (.cells #[.int .i64 1] 3)
      have k1 := Blk.new (w := w4) 3 [.int .i64 1]
      have hf := kfollows_any (l := [1]) (lv := .slice (some ⟨w4.heap.size, 0, none⟩) 1 1) (hF4.below Z1) HF.out.2.2 (RO.ofCells k1 rfl) (by simp)
      have HFo := Lib.hid hf
      have HB3 := Lib.hid (hbel4.trans (Z1.mono hbel4.size))
      clear Z1 k1 hf hF4 hbel4 HF2 HB2
      go_wp2_with fail
      refine HFo.out.mono ?_
      rintro e w5 ⟨f, rfl, hb5, hiff⟩
      obtain rfl : f = true := hiff.2 ⟨by decide, aw_f1 fun l h => h⟩
      have HB5 := Lib.hid (HB3.out.trans (hb5.mono HB3.out.size))
      clear hb5 hiff
      go_wp2_with fail
      go_ret
      exact ⟨rfl, HB5.out⟩
end Go.Proofs.Ytcifiibpiooeiaa
