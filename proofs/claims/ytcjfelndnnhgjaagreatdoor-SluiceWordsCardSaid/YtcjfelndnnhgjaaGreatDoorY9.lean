/- Texts of this claim, one behind another: L2. They state lemmas; each names its own conditions. -/
import Derived.Test.YtcjfelndnnhgjaaGreatDoorY8
namespace Go.Proofs.YtcjfelndnnhgjaaGreatDoor.L
set_option linter.unusedVariables false
open Go.RowKit

/-! # lit.Parse, on any text -/
def BasedA (n : Nat) (w : World) (e : Ending) (w' : World) : Prop := ∃ (r : ByteArray) (b : Nat) (sg : Bool) (err : Int), e = .returned (.tuple #[.string r, .int .i64 b, .bool sg, .int .i64 err]) ∧ r.size ≤ n ∧ b ≤ 16 ∧ w = w'
theorem ext1_size (s : ByteArray) : (s.extract 1 s.size).size ≤ s.size := by rw [ByteArray.size_extract]; omega
set_option maxRecDepth 100000 in
set_option maxHeartbeats 4000000 in
/-- behind an s, if there is one -/
theorem based_all {w : World} (s : ByteArray) (hl : s.size ≤ 1000000) : Calls Tryz.prog 76 #[.string s] w (BasedA s.size w) := by
  have HBa := Lib.hid (fun (c : Nat) (w : World) => base_all c w)
  by_cases h0 : 0 < s.size
  rotate_left
  · have hnl : s.toList = [] := by rw [ByteArray.toList_eq]; exact List.eq_nil_of_length_eq_zero (by show s.data.toList.length = 0; simp only [Array.length_toList]; show s.size = 0; omega)
    have hie : s.toList.isEmpty = true := by rw [hnl]; rfl
    clear hl h0
    go_enter Tryz.func76, Tryz.ntmps76
    go_wp2_with fail
    (try simp only [Exit.inBlock, Exit.then])
    refine bodyPost_ret (results_tmp4 rfl _ _ _) rfl ?_
    exact ⟨_, 0, _, _, rfl, Nat.zero_le _, Nat.zero_le _, rfl⟩
  obtain ⟨hnl, hie⟩ := str_ne h0
  obtain ⟨s2, hs2⟩ : ∃ s2, s.extract 1 s.size = s2 := ⟨_, rfl⟩
  have hz2 := ext1_size s
  rw [hs2] at hz2
  obtain ⟨q, hq⟩ : ∃ q, (bits .or .u8 (s[0].toNat : Int) 32 == 115) = q := ⟨_, rfl⟩
  cases q
  · have HZ := Lib.hid hz2
    have HH := Lib.hid hl
    clear hl hz2
    go_enter Tryz.func76, Tryz.ntmps76
    go_wp2_with fail
    refine (HBa.out _ _).mono ?_; rintro e w' ⟨b, hb, rfl, rfl⟩
    have HB := Lib.hid hb
    by_cases hbz : b = 0
    · subst hbz
      clear hb
      go_wp2_with fail
      (try simp only [Exit.inBlock, Exit.then])
      refine bodyPost_ret (results_tmp4 rfl _ _ _) rfl ?_
      exact ⟨_, 0, _, _, rfl, Nat.zero_le _, Nat.zero_le _, rfl⟩
    · have hbe : ((b : Int) == 0) = false := by simp; omega
      have hb0' : (0 : Int) < b := by omega
      clear hb hbz
      go_wp2_with fail
      (try simp only [Exit.inBlock, Exit.then])
      refine bodyPost_ret (results_tmp4 rfl _ _ _) rfl ?_
      exact ⟨_, b, _, _, rfl, HZ.out, HB.out, rfl⟩
  · by_cases h2 : 0 < s2.size
    rotate_left
    · have hnl2 : s2.toList = [] := by rw [ByteArray.toList_eq]; exact List.eq_nil_of_length_eq_zero (by show s2.data.toList.length = 0; simp only [Array.length_toList]; show s2.size = 0; omega)
      have hie2 : s2.toList.isEmpty = true := by rw [hnl2]; rfl
      clear hl hz2 h2
      go_enter Tryz.func76, Tryz.ntmps76
      go_wp2_with fail
      (try simp only [Exit.inBlock, Exit.then])
      refine bodyPost_ret (results_tmp4 rfl _ _ _) rfl ?_
      exact ⟨_, 0, _, _, rfl, Nat.zero_le _, Nat.zero_le _, rfl⟩
    · obtain ⟨hnl2, hie2⟩ := str_ne h2
      obtain ⟨s3, hs3⟩ : ∃ s3, s2.extract 1 s2.size = s3 := ⟨_, rfl⟩
      have hz3 := ext1_size s2
      rw [hs3] at hz3
      have HZ := Lib.hid (Nat.le_trans hz3 hz2)
      clear hl hz2 hz3
      go_enter Tryz.func76, Tryz.ntmps76
      go_wp2_with fail
      refine (HBa.out _ _).mono ?_; rintro e w' ⟨b, hb, rfl, rfl⟩
      have HB := Lib.hid hb
      by_cases hbz : b = 0
      · subst hbz
        clear hb
        go_wp2_with fail
        (try simp only [Exit.inBlock, Exit.then])
        refine bodyPost_ret (results_tmp4 rfl _ _ _) rfl ?_
        exact ⟨_, 0, _, _, rfl, Nat.zero_le _, Nat.zero_le _, rfl⟩
      · have hbe : ((b : Int) == 0) = false := by simp; omega
        have hb0' : (0 : Int) < b := by omega
        clear hb hbz
        go_wp2_with fail
        (try simp only [Exit.inBlock, Exit.then])
        refine bodyPost_ret (results_tmp4 rfl _ _ _) rfl ?_
        exact ⟨_, b, _, _, rfl, HZ.out, HB.out, rfl⟩
theorem new_32 {w : World} (d : Nat) (hd : d < 2147483648) (t : Nat) : Calls Tryz.prog 97 #[.int .i64 32, .slice (some ⟨w.heap.size, 0, none⟩) 1 1] (w.alloc (.cells #[.int .u64 ((d : Nat) : Int)] t)) (RetE (w.alloc (.cells #[.int .u64 ((d : Nat) : Int)] t)) 32 (d % 2 ^ 32) 0) := by
  have h := new_good 32 (by decide) (by decide) _ (ro_lit w t d) (by intro x hx; simp at hx; omega)
  rwa [valW_one] at h
/-- what plain, Of and Parse hand back: a value of four limbs, and an error -/
def LitA (w : World) (e : Ending) (w' : World) : Prop := ∃ (n : Int) (p : Option Addr) (k c : Nat) (sg sz : Bool) (err : Int), e = .returned (.tuple #[.agg #[.int .i64 n, .slice p k c, .bool sg, .bool sz], .int .i64 err]) ∧ Below w.heap.size w w'
set_option maxRecDepth 100000 in
set_option maxHeartbeats 4000000 in
theorem of_all {w : World} (d : Nat) (hd : d ≤ 2147483648) : Calls Tryz.prog 94 #[.int .i64 d] w (LitA w) := by
  have hb0 := Below.new w (.cells #[.int .i64 0, .slice none 0 0, .bool false, .bool false] 117)
  have hk0 := Blk.new (w := w) 117 [.int .i64 0, .slice none 0 0, .bool false, .bool false]
  have HB := Lib.hid (And.intro hb0 hk0)
  have hdz : (0 : Int) ≤ d := by omega
  clear hb0 hk0
  go_enter Tryz.func94, Tryz.ntmps94
  go_upto_region 1 with fail
  generalize w.alloc (.cells #[.int .i64 0, .slice none 0 0, .bool false, .bool false] 117) = W at *
  by_cases h31 : d < 2147483648
  · have hge : decide ((2147483648 : Int) ≤ d) = false := decide_eq_false (by omega)
    have hge2 : ¬ (2147483648 : Int) ≤ d := by omega
    have hcv : IntKind.u64.wrap (d : Int) = (d : Int) := by rw [IntKind.wrap_u64]; omega
    have HN := Lib.hid (new_32 (w := W) d h31 158)
    have hbA := Below.new W (.cells #[.int .u64 ((d : Nat) : Int)] 158)
    have HA := Lib.hid (And.intro (HB.out.1.trans (hbA.mono HB.out.1.size)) (HB.out.2.next hbA))
    clear h31 hd hbA
    go_wp2_with fail
    refine HN.out.mono ?_; rintro e w2 ⟨v2, rfl, hv2, hb2, hf2⟩
    obtain ⟨p2, c2, rfl, _⟩ := hv2.ex
    have hbx := Below.new w2 (.cells #[.int .i64 32, .slice p2 (wcount 32) c2] 115)
    have h3 := hb2.trans (hbx.mono hb2.size)
    have H3 := Lib.hid (And.intro (HA.out.1.trans (h3.mono HA.out.1.size)) (HA.out.2.next h3))
    have hkx := Blk.new (w := w2) 115 [.int .i64 32, .slice p2 (wcount 32) c2]
    clear hv2 hb2 hf2 hbx h3 HN HA
    go_upto_region 4 with fail
    generalize w2.alloc (.cells #[.int .i64 32, .slice p2 (wcount 32) c2] 115) = w3 at *
    have k0 := hkx.cell (i := 0) rfl
    have k1 := hkx.cell (i := 1) rfl
    clear hkx
    generalize w2.heap.size = g2 at *
    have d0 := H3.out.2.cell (i := 0) rfl
    have d1 := H3.out.2.cell (i := 1) rfl
    have d2 := H3.out.2.cell (i := 2) rfl
    have d3 := H3.out.2.cell (i := 3) rfl
    have f0 := H3.out.2.frz 0
    have f1 := H3.out.2.frz 1
    have f2 := H3.out.2.frz 2
    have f3 := H3.out.2.frz 3
    go_wp2_with fail
    have hk := (((H3.out.2.set 0 (.int .i64 32)).set 1 (.slice p2 (wcount 32) c2)).set 2 (.bool true)).set 3 (.bool false)
    have hb := (((H3.out.1.setCell (show w.heap.size ≤ (⟨w.heap.size, 0, none⟩ : Addr).block from Nat.le_refl _) (.int .i64 32)).setCell (show w.heap.size ≤ (⟨w.heap.size, 1, none⟩ : Addr).block from Nat.le_refl _) (.slice p2 (wcount 32) c2)).setCell (show w.heap.size ≤ (⟨w.heap.size, 2, none⟩ : Addr).block from Nat.le_refl _) (.bool true)).setCell (show w.heap.size ≤ (⟨w.heap.size, 3, none⟩ : Addr).block from Nat.le_refl _) (.bool false)
    have e0 := hk.cell (i := 0) rfl
    have e1 := hk.cell (i := 1) rfl
    have e2 := hk.cell (i := 2) rfl
    have e3 := hk.cell (i := 3) rfl
    clear d0 d1 d2 d3 f0 f1 f2 f3
    exact bodyPost_ret (v := .tuple #[.agg #[.int .i64 32, .slice p2 (wcount 32) c2, .bool true, .bool false], .int .i64 (0)]) (by simp [results, Tryz.results94, go_sem, e0, e1, e2, e3]) rfl ⟨_, _, _, _, _, _, _, rfl, hb⟩
  · have hge : decide ((2147483648 : Int) ≤ d) = true := decide_eq_true (by omega)
    have hge2 : (2147483648 : Int) ≤ d := by omega
    clear h31 hd
    have d0 := HB.out.2.cell (i := 0) rfl
    have d1 := HB.out.2.cell (i := 1) rfl
    have d2 := HB.out.2.cell (i := 2) rfl
    have d3 := HB.out.2.cell (i := 3) rfl
    have f0 := HB.out.2.frz 0
    have f1 := HB.out.2.frz 1
    have f2 := HB.out.2.frz 2
    have f3 := HB.out.2.frz 3
    go_wp2_with fail
    have hk := (((HB.out.2.set 0 (.int .i64 0)).set 1 (.slice none 0 0)).set 2 (.bool false)).set 3 (.bool false)
    have hb := (((HB.out.1.setCell (show w.heap.size ≤ (⟨w.heap.size, 0, none⟩ : Addr).block from Nat.le_refl _) (.int .i64 0)).setCell (show w.heap.size ≤ (⟨w.heap.size, 1, none⟩ : Addr).block from Nat.le_refl _) (.slice none 0 0)).setCell (show w.heap.size ≤ (⟨w.heap.size, 2, none⟩ : Addr).block from Nat.le_refl _) (.bool false)).setCell (show w.heap.size ≤ (⟨w.heap.size, 3, none⟩ : Addr).block from Nat.le_refl _) (.bool false)
    have e0 := hk.cell (i := 0) rfl
    have e1 := hk.cell (i := 1) rfl
    have e2 := hk.cell (i := 2) rfl
    have e3 := hk.cell (i := 3) rfl
    clear d0 d1 d2 d3 f0 f1 f2 f3
    exact bodyPost_ret (v := .tuple #[.agg #[.int .i64 0, .slice none 0 0, .bool false, .bool false], .int .i64 (3)]) (by simp [results, Tryz.results94, go_sem, e0, e1, e2, e3]) rfl ⟨_, _, _, _, _, _, _, rfl, hb⟩
set_option maxRecDepth 100000 in
set_option maxHeartbeats 4000000 in
theorem plain_all {w : World} (s : ByteArray) (hl : s.size ≤ 1000000) : Calls Tryz.prog 73 #[.string s] w (LitA w) := by
  have hb0 := Below.new w (.cells #[.int .i64 0, .slice none 0 0, .bool false, .bool false] 117)
  have hk0 := Blk.new (w := w) 117 [.int .i64 0, .slice none 0 0, .bool false, .bool false]
  have HB := Lib.hid (And.intro hb0 hk0)
  have HD := Lib.hid (fun w : World => digits_all (w := w) s 10 (by decide) hl)
  clear hb0 hk0
  go_enter Tryz.func73, Tryz.ntmps73
  go_upto_region 1 with fail
  generalize w.alloc (.cells #[.int .i64 0, .slice none 0 0, .bool false, .bool false] 117) = W at *
  go_wp2_with fail
  refine (HD.out _).mono ?_; rintro e w1 ⟨v1, ds, err, rfl, ho, hd16, hdl, hb1⟩
  obtain ⟨po, co, rfl⟩ := ownsRow_form ho
  have H1 := Lib.hid (And.intro (HB.out.1.trans (hb1.mono HB.out.1.size)) (HB.out.2.next hb1))
  by_cases he : err = 0
  · subst he
    have HS := Lib.hid (small_all ds 2147483648 (RO.own ho) hd16 (by decide) (by omega))
    have HO := Lib.hid (of_all (w := w1) (smallP 2147483648 ds) (smallP_le _ _))
    generalize ds.length = L at *
    clear ho hd16 hdl hb1 HB HD hl
    go_wp2_with fail
    refine HS.out.mono ?_; rintro e w2 ⟨rfl, rfl⟩
    go_wp2_with fail
    refine HO.out.mono ?_; rintro e w3 ⟨n, p, k, c, sg, sz, er, rfl, hb3⟩
    have H3 := Lib.hid (And.intro (H1.out.1.trans (hb3.mono H1.out.1.size)) (H1.out.2.next hb3))
    clear hb3 HS HO
    have d0 := H3.out.2.cell (i := 0) rfl
    have d1 := H3.out.2.cell (i := 1) rfl
    have d2 := H3.out.2.cell (i := 2) rfl
    have d3 := H3.out.2.cell (i := 3) rfl
    have f0 := H3.out.2.frz 0
    have f1 := H3.out.2.frz 1
    have f2 := H3.out.2.frz 2
    have f3 := H3.out.2.frz 3
    go_wp2_with fail
    have hk := (((H3.out.2.set 0 (.int .i64 n)).set 1 (.slice p k c)).set 2 (.bool sg)).set 3 (.bool sz)
    have hb := (((H3.out.1.setCell (show w.heap.size ≤ (⟨w.heap.size, 0, none⟩ : Addr).block from Nat.le_refl _) (.int .i64 n)).setCell (show w.heap.size ≤ (⟨w.heap.size, 1, none⟩ : Addr).block from Nat.le_refl _) (.slice p k c)).setCell (show w.heap.size ≤ (⟨w.heap.size, 2, none⟩ : Addr).block from Nat.le_refl _) (.bool sg)).setCell (show w.heap.size ≤ (⟨w.heap.size, 3, none⟩ : Addr).block from Nat.le_refl _) (.bool sz)
    have e0 := hk.cell (i := 0) rfl
    have e1 := hk.cell (i := 1) rfl
    have e2 := hk.cell (i := 2) rfl
    have e3 := hk.cell (i := 3) rfl
    clear d0 d1 d2 d3 f0 f1 f2 f3
    exact bodyPost_ret (v := .tuple #[.agg #[.int .i64 n, .slice p k c, .bool sg, .bool sz], .int .i64 (er)]) (by simp [results, Tryz.results73, go_sem, e0, e1, e2, e3]) rfl ⟨_, _, _, _, _, _, _, rfl, hb⟩
  · have heb : (err == 0) = false := by simp [he]
    generalize ds.length = L at *
    clear ho hd16 hdl hb1 HB HD hl he
    have d0 := H1.out.2.cell (i := 0) rfl
    have d1 := H1.out.2.cell (i := 1) rfl
    have d2 := H1.out.2.cell (i := 2) rfl
    have d3 := H1.out.2.cell (i := 3) rfl
    have f0 := H1.out.2.frz 0
    have f1 := H1.out.2.frz 1
    have f2 := H1.out.2.frz 2
    have f3 := H1.out.2.frz 3
    go_wp2_with fail
    have hk := (((H1.out.2.set 0 (.int .i64 0)).set 1 (.slice none 0 0)).set 2 (.bool false)).set 3 (.bool false)
    have hb := (((H1.out.1.setCell (show w.heap.size ≤ (⟨w.heap.size, 0, none⟩ : Addr).block from Nat.le_refl _) (.int .i64 0)).setCell (show w.heap.size ≤ (⟨w.heap.size, 1, none⟩ : Addr).block from Nat.le_refl _) (.slice none 0 0)).setCell (show w.heap.size ≤ (⟨w.heap.size, 2, none⟩ : Addr).block from Nat.le_refl _) (.bool false)).setCell (show w.heap.size ≤ (⟨w.heap.size, 3, none⟩ : Addr).block from Nat.le_refl _) (.bool false)
    have e0 := hk.cell (i := 0) rfl
    have e1 := hk.cell (i := 1) rfl
    have e2 := hk.cell (i := 2) rfl
    have e3 := hk.cell (i := 3) rfl
    clear d0 d1 d2 d3 f0 f1 f2 f3
    exact bodyPost_ret (v := .tuple #[.agg #[.int .i64 0, .slice none 0 0, .bool false, .bool false], .int .i64 (err)]) (by simp [results, Tryz.results73, go_sem, e0, e1, e2, e3]) rfl ⟨_, _, _, _, _, _, _, rfl, hb⟩
set_option maxRecDepth 100000 in
set_option maxHeartbeats 4000000 in
theorem parse_all {w : World} (s : ByteArray) (hl : s.size ≤ 1000000) (hm : ∃ m, w.cell? ⟨0, 0, none⟩ = some (.int .i64 m)) : Calls Tryz.prog 52 #[.string s] w (LitA w) := by
  have hb0 := Below.new w (.cells #[.int .i64 0, .slice none 0 0, .bool false, .bool false] 117)
  have hk0 := Blk.new (w := w) 117 [.int .i64 0, .slice none 0 0, .bool false, .bool false]
  have HB := Lib.hid (And.intro hb0 hk0)
  have HCut : Hid (∀ w', Below w.heap.size w w' → Calls Tryz.prog 72 #[.string s, .string ⟨#[39]⟩] w' fun e w'' => ∃ (a b : ByteArray) (q : Bool), e = .returned (.tuple #[.string a, .string b, .bool q]) ∧ a.size ≤ 1000000 ∧ b.size ≤ 1000000 ∧ Below w'.heap.size w' w'') := Lib.hid fun w' hbw => by
    obtain ⟨m, hm⟩ := hm
    have hcc := Tryz.strings_Cut s ⟨#[39]⟩ m w' (by omega) ((hbw.cell (World.block_lt_of_cell? _ _ hm)).trans hm)
    have hlen : ∀ l : List UInt8, (Lib.cut l [39]).1.length ≤ l.length ∧ (Lib.cut l [39]).2.1.length ≤ l.length := fun l => by
      unfold Lib.cut
      split
      · refine ⟨?_, ?_⟩
        · show (l.take _).length ≤ _
          rw [List.length_take]; omega
        · show (l.drop _).length ≤ _
          rw [List.length_drop]; omega
      · exact ⟨Nat.le_refl _, Nat.zero_le _⟩
    have hq := hlen s.data.toList
    have hsz : s.data.toList.length = s.size := by simp
    refine hcc.mono ?_
    rintro e w'' ⟨rfl, k, hk⟩
    refine ⟨_, _, _, rfl, ?_, ?_, by rw [hk]; exact ⟨rfl, rfl, rfl, Nat.le_refl _, fun _ _ => rfl⟩⟩
    · show (Lib.cut s.data.toList [39]).1.toArray.size ≤ _
      rw [List.size_toArray]; omega
    · show (Lib.cut s.data.toList [39]).2.1.toArray.size ≤ _
      rw [List.size_toArray]; omega
  have HP := Lib.hid (fun w : World => plain_all (w := w) s hl)
  clear hb0 hk0 hm hl
  go_enter Tryz.func52, Tryz.ntmps52
  go_upto_region 1 with fail
  generalize w.alloc (.cells #[.int .i64 0, .slice none 0 0, .bool false, .bool false] 117) = W at *
  go_wp2_with fail
  refine (HCut.out _ HB.out.1).mono ?_; rintro e w1 ⟨A, B, q, rfl, hA, hB, hb1⟩
  have H1 := Lib.hid (And.intro (HB.out.1.trans (hb1.mono HB.out.1.size)) (HB.out.2.next hb1))
  have HAB := Lib.hid (And.intro hA hB)
  clear hb1 HB HCut hA hB
  cases q
  · go_wp2_with fail
    refine (HP.out _).mono ?_; rintro e w3 ⟨n, p, k, c, sg, sz, er, rfl, hb3⟩
    have H3 := Lib.hid (And.intro (H1.out.1.trans (hb3.mono H1.out.1.size)) (H1.out.2.next hb3))
    clear hb3 HP
    have d0 := H3.out.2.cell (i := 0) rfl
    have d1 := H3.out.2.cell (i := 1) rfl
    have d2 := H3.out.2.cell (i := 2) rfl
    have d3 := H3.out.2.cell (i := 3) rfl
    have f0 := H3.out.2.frz 0
    have f1 := H3.out.2.frz 1
    have f2 := H3.out.2.frz 2
    have f3 := H3.out.2.frz 3
    go_wp2_with fail
    have hk := (((H3.out.2.set 0 (.int .i64 n)).set 1 (.slice p k c)).set 2 (.bool sg)).set 3 (.bool sz)
    have hb := (((H3.out.1.setCell (show w.heap.size ≤ (⟨w.heap.size, 0, none⟩ : Addr).block from Nat.le_refl _) (.int .i64 n)).setCell (show w.heap.size ≤ (⟨w.heap.size, 1, none⟩ : Addr).block from Nat.le_refl _) (.slice p k c)).setCell (show w.heap.size ≤ (⟨w.heap.size, 2, none⟩ : Addr).block from Nat.le_refl _) (.bool sg)).setCell (show w.heap.size ≤ (⟨w.heap.size, 3, none⟩ : Addr).block from Nat.le_refl _) (.bool sz)
    have e0 := hk.cell (i := 0) rfl
    have e1 := hk.cell (i := 1) rfl
    have e2 := hk.cell (i := 2) rfl
    have e3 := hk.cell (i := 3) rfl
    clear d0 d1 d2 d3 f0 f1 f2 f3
    exact bodyPost_ret (v := .tuple #[.agg #[.int .i64 n, .slice p k c, .bool sg, .bool sz], .int .i64 (er)]) (by simp [results, Tryz.results52, go_sem, e0, e1, e2, e3]) rfl ⟨_, _, _, _, _, _, _, rfl, hb⟩
  · clear HP
    by_cases hA0 : 0 < A.size
    · obtain ⟨hnl, hie⟩ := str_ne hA0
      have HD := Lib.hid (fun w : World => digits_all (w := w) A 10 (by decide) HAB.out.1)
      clear hA0
      go_wp2_with fail
      refine (HD.out _).mono ?_; rintro e w2 ⟨v2, ds, err, rfl, ho, hd16, hdl, hb2⟩
      obtain ⟨po, co, rfl⟩ := ownsRow_form ho
      have H2 := Lib.hid (And.intro (H1.out.1.trans (hb2.mono H1.out.1.size)) (H1.out.2.next hb2))
      by_cases he : err = 0
      · subst he
        have HS := Lib.hid (small_all ds 129 (RO.own ho) hd16 (by decide) (by have := HAB.out.1; omega))
        have hle := smallP_le 129 ds
        generalize smallP 129 ds = wd at *
        generalize ds.length = L at *
        clear ho hd16 hdl hb2 HD H1
        go_wp2_with fail
        refine HS.out.mono ?_; rintro e w3 ⟨rfl, rfl⟩
        clear HS
        have HBs := Lib.hid (fun w : World => based_all (w := w) B HAB.out.2)
        go_wp2_with fail
        refine (HBs.out _).mono ?_; rintro e w4 ⟨r, b, sg, er, rfl, hr, hb16, hw4⟩
        subst hw4
        clear HBs
        by_cases he2 : er = 0
        · subst he2
          have HD2 := Lib.hid (fun w : World => digits_all (w := w) r b hb16 (by have := HAB.out.2; omega))
          have HB16 := Lib.hid hb16
          have HRs := Lib.hid hr
          clear hr hb16
          go_wp2_with fail
          refine (HD2.out _).mono ?_; rintro e w5 ⟨v5, ds5, err5, rfl, ho5, hd5, hl5, hb5⟩
          obtain ⟨p5, c5, rfl⟩ := ownsRow_form ho5
          have H5 := Lib.hid (And.intro (H2.out.1.trans (hb5.mono H2.out.1.size)) (H2.out.2.next hb5))
          by_cases he3 : err5 = 0
          · subst he3
            by_cases hw1 : wd < 1
            · have hlt1 : (wd : Int) < 1 := by omega
              generalize ds5.length = L5 at *
              clear ho5 hd5 hl5 hb5 hw1 HD2
              have d0 := H5.out.2.cell (i := 0) rfl
              have d1 := H5.out.2.cell (i := 1) rfl
              have d2 := H5.out.2.cell (i := 2) rfl
              have d3 := H5.out.2.cell (i := 3) rfl
              have f0 := H5.out.2.frz 0
              have f1 := H5.out.2.frz 1
              have f2 := H5.out.2.frz 2
              have f3 := H5.out.2.frz 3
              go_wp2_with fail
              have hk := (((H5.out.2.set 0 (.int .i64 0)).set 1 (.slice none 0 0)).set 2 (.bool false)).set 3 (.bool false)
              have hb := (((H5.out.1.setCell (show w.heap.size ≤ (⟨w.heap.size, 0, none⟩ : Addr).block from Nat.le_refl _) (.int .i64 0)).setCell (show w.heap.size ≤ (⟨w.heap.size, 1, none⟩ : Addr).block from Nat.le_refl _) (.slice none 0 0)).setCell (show w.heap.size ≤ (⟨w.heap.size, 2, none⟩ : Addr).block from Nat.le_refl _) (.bool false)).setCell (show w.heap.size ≤ (⟨w.heap.size, 3, none⟩ : Addr).block from Nat.le_refl _) (.bool false)
              have e0 := hk.cell (i := 0) rfl
              have e1 := hk.cell (i := 1) rfl
              have e2 := hk.cell (i := 2) rfl
              have e3 := hk.cell (i := 3) rfl
              clear d0 d1 d2 d3 f0 f1 f2 f3
              exact bodyPost_ret (v := .tuple #[.agg #[.int .i64 0, .slice none 0 0, .bool false, .bool false], .int .i64 (2)]) (by simp [results, Tryz.results52, go_sem, e0, e1, e2, e3]) rfl ⟨_, _, _, _, _, _, _, rfl, hb⟩
            · by_cases hw2 : 128 < wd
              · have hlt1 : ¬ (wd : Int) < 1 := by omega
                have hlt2 : (128 : Int) < wd := by omega
                generalize ds5.length = L5 at *
                clear ho5 hd5 hl5 hb5 hw1 hw2 HD2
                have d0 := H5.out.2.cell (i := 0) rfl
                have d1 := H5.out.2.cell (i := 1) rfl
                have d2 := H5.out.2.cell (i := 2) rfl
                have d3 := H5.out.2.cell (i := 3) rfl
                have f0 := H5.out.2.frz 0
                have f1 := H5.out.2.frz 1
                have f2 := H5.out.2.frz 2
                have f3 := H5.out.2.frz 3
                go_wp2_with fail
                have hk := (((H5.out.2.set 0 (.int .i64 0)).set 1 (.slice none 0 0)).set 2 (.bool false)).set 3 (.bool false)
                have hb := (((H5.out.1.setCell (show w.heap.size ≤ (⟨w.heap.size, 0, none⟩ : Addr).block from Nat.le_refl _) (.int .i64 0)).setCell (show w.heap.size ≤ (⟨w.heap.size, 1, none⟩ : Addr).block from Nat.le_refl _) (.slice none 0 0)).setCell (show w.heap.size ≤ (⟨w.heap.size, 2, none⟩ : Addr).block from Nat.le_refl _) (.bool false)).setCell (show w.heap.size ≤ (⟨w.heap.size, 3, none⟩ : Addr).block from Nat.le_refl _) (.bool false)
                have e0 := hk.cell (i := 0) rfl
                have e1 := hk.cell (i := 1) rfl
                have e2 := hk.cell (i := 2) rfl
                have e3 := hk.cell (i := 3) rfl
                clear d0 d1 d2 d3 f0 f1 f2 f3
                exact bodyPost_ret (v := .tuple #[.agg #[.int .i64 0, .slice none 0 0, .bool false, .bool false], .int .i64 (2)]) (by simp [results, Tryz.results52, go_sem, e0, e1, e2, e3]) rfl ⟨_, _, _, _, _, _, _, rfl, hb⟩
              · have hlt1 : ¬ (wd : Int) < 1 := by omega
                have hlt2 : ¬ (128 : Int) < wd := by omega
                have HBi := Lib.hid (bits_all ds5 b wd (RO.own ho5) hd5 HB16.out (by omega) (by omega) (by have := HAB.out.2; have := HRs.out; omega))
                generalize ds5.length = L5 at *
                generalize valH b ds5 % 2 ^ wd = X5 at *
                clear ho5 hd5 hl5 hb5 hw1 hw2 HD2
                go_wp2_with fail
                refine HBi.out.mono ?_; rintro e w6 ⟨v6, rfl, hv6, hb6, hf6⟩
                obtain ⟨p6, c6, rfl, _⟩ := hv6.ex
                have H6 := Lib.hid (And.intro (H5.out.1.trans (hb6.mono H5.out.1.size)) (H5.out.2.next hb6))
                clear hv6 hb6 hf6 HBi
                have d0 := H6.out.2.cell (i := 0) rfl
                have d1 := H6.out.2.cell (i := 1) rfl
                have d2 := H6.out.2.cell (i := 2) rfl
                have d3 := H6.out.2.cell (i := 3) rfl
                have f0 := H6.out.2.frz 0
                have f1 := H6.out.2.frz 1
                have f2 := H6.out.2.frz 2
                have f3 := H6.out.2.frz 3
                go_wp2_with fail
                have hk := (((H6.out.2.set 0 (.int .i64 wd)).set 1 (.slice p6 (wcount wd) c6)).set 2 (.bool sg)).set 3 (.bool true)
                have hb := (((H6.out.1.setCell (show w.heap.size ≤ (⟨w.heap.size, 0, none⟩ : Addr).block from Nat.le_refl _) (.int .i64 wd)).setCell (show w.heap.size ≤ (⟨w.heap.size, 1, none⟩ : Addr).block from Nat.le_refl _) (.slice p6 (wcount wd) c6)).setCell (show w.heap.size ≤ (⟨w.heap.size, 2, none⟩ : Addr).block from Nat.le_refl _) (.bool sg)).setCell (show w.heap.size ≤ (⟨w.heap.size, 3, none⟩ : Addr).block from Nat.le_refl _) (.bool true)
                have e0 := hk.cell (i := 0) rfl
                have e1 := hk.cell (i := 1) rfl
                have e2 := hk.cell (i := 2) rfl
                have e3 := hk.cell (i := 3) rfl
                clear d0 d1 d2 d3 f0 f1 f2 f3
                exact bodyPost_ret (v := .tuple #[.agg #[.int .i64 wd, .slice p6 (wcount wd) c6, .bool sg, .bool true], .int .i64 (0)]) (by simp [results, Tryz.results52, go_sem, e0, e1, e2, e3]) rfl ⟨_, _, _, _, _, _, _, rfl, hb⟩
          · have heb3 : (err5 == 0) = false := by simp [he3]
            generalize ds5.length = L5 at *
            clear ho5 hd5 hl5 hb5 HD2 he3
            have d0 := H5.out.2.cell (i := 0) rfl
            have d1 := H5.out.2.cell (i := 1) rfl
            have d2 := H5.out.2.cell (i := 2) rfl
            have d3 := H5.out.2.cell (i := 3) rfl
            have f0 := H5.out.2.frz 0
            have f1 := H5.out.2.frz 1
            have f2 := H5.out.2.frz 2
            have f3 := H5.out.2.frz 3
            go_wp2_with fail
            have hk := (((H5.out.2.set 0 (.int .i64 0)).set 1 (.slice none 0 0)).set 2 (.bool false)).set 3 (.bool false)
            have hb := (((H5.out.1.setCell (show w.heap.size ≤ (⟨w.heap.size, 0, none⟩ : Addr).block from Nat.le_refl _) (.int .i64 0)).setCell (show w.heap.size ≤ (⟨w.heap.size, 1, none⟩ : Addr).block from Nat.le_refl _) (.slice none 0 0)).setCell (show w.heap.size ≤ (⟨w.heap.size, 2, none⟩ : Addr).block from Nat.le_refl _) (.bool false)).setCell (show w.heap.size ≤ (⟨w.heap.size, 3, none⟩ : Addr).block from Nat.le_refl _) (.bool false)
            have e0 := hk.cell (i := 0) rfl
            have e1 := hk.cell (i := 1) rfl
            have e2 := hk.cell (i := 2) rfl
            have e3 := hk.cell (i := 3) rfl
            clear d0 d1 d2 d3 f0 f1 f2 f3
            exact bodyPost_ret (v := .tuple #[.agg #[.int .i64 0, .slice none 0 0, .bool false, .bool false], .int .i64 (err5)]) (by simp [results, Tryz.results52, go_sem, e0, e1, e2, e3]) rfl ⟨_, _, _, _, _, _, _, rfl, hb⟩
        · have heb2 : (er == 0) = false := by simp [he2]
          clear hr hb16 he2
          have d0 := H2.out.2.cell (i := 0) rfl
          have d1 := H2.out.2.cell (i := 1) rfl
          have d2 := H2.out.2.cell (i := 2) rfl
          have d3 := H2.out.2.cell (i := 3) rfl
          have f0 := H2.out.2.frz 0
          have f1 := H2.out.2.frz 1
          have f2 := H2.out.2.frz 2
          have f3 := H2.out.2.frz 3
          go_wp2_with fail
          have hk := (((H2.out.2.set 0 (.int .i64 0)).set 1 (.slice none 0 0)).set 2 (.bool false)).set 3 (.bool false)
          have hb := (((H2.out.1.setCell (show w.heap.size ≤ (⟨w.heap.size, 0, none⟩ : Addr).block from Nat.le_refl _) (.int .i64 0)).setCell (show w.heap.size ≤ (⟨w.heap.size, 1, none⟩ : Addr).block from Nat.le_refl _) (.slice none 0 0)).setCell (show w.heap.size ≤ (⟨w.heap.size, 2, none⟩ : Addr).block from Nat.le_refl _) (.bool false)).setCell (show w.heap.size ≤ (⟨w.heap.size, 3, none⟩ : Addr).block from Nat.le_refl _) (.bool false)
          have e0 := hk.cell (i := 0) rfl
          have e1 := hk.cell (i := 1) rfl
          have e2 := hk.cell (i := 2) rfl
          have e3 := hk.cell (i := 3) rfl
          clear d0 d1 d2 d3 f0 f1 f2 f3
          exact bodyPost_ret (v := .tuple #[.agg #[.int .i64 0, .slice none 0 0, .bool false, .bool false], .int .i64 (er)]) (by simp [results, Tryz.results52, go_sem, e0, e1, e2, e3]) rfl ⟨_, _, _, _, _, _, _, rfl, hb⟩
      · have heb : (err == 0) = false := by simp [he]
        generalize ds.length = L at *
        clear ho hd16 hdl hb2 HD H1 he
        have d0 := H2.out.2.cell (i := 0) rfl
        have d1 := H2.out.2.cell (i := 1) rfl
        have d2 := H2.out.2.cell (i := 2) rfl
        have d3 := H2.out.2.cell (i := 3) rfl
        have f0 := H2.out.2.frz 0
        have f1 := H2.out.2.frz 1
        have f2 := H2.out.2.frz 2
        have f3 := H2.out.2.frz 3
        go_wp2_with fail
        have hk := (((H2.out.2.set 0 (.int .i64 0)).set 1 (.slice none 0 0)).set 2 (.bool false)).set 3 (.bool false)
        have hb := (((H2.out.1.setCell (show w.heap.size ≤ (⟨w.heap.size, 0, none⟩ : Addr).block from Nat.le_refl _) (.int .i64 0)).setCell (show w.heap.size ≤ (⟨w.heap.size, 1, none⟩ : Addr).block from Nat.le_refl _) (.slice none 0 0)).setCell (show w.heap.size ≤ (⟨w.heap.size, 2, none⟩ : Addr).block from Nat.le_refl _) (.bool false)).setCell (show w.heap.size ≤ (⟨w.heap.size, 3, none⟩ : Addr).block from Nat.le_refl _) (.bool false)
        have e0 := hk.cell (i := 0) rfl
        have e1 := hk.cell (i := 1) rfl
        have e2 := hk.cell (i := 2) rfl
        have e3 := hk.cell (i := 3) rfl
        clear d0 d1 d2 d3 f0 f1 f2 f3
        exact bodyPost_ret (v := .tuple #[.agg #[.int .i64 0, .slice none 0 0, .bool false, .bool false], .int .i64 (err)]) (by simp [results, Tryz.results52, go_sem, e0, e1, e2, e3]) rfl ⟨_, _, _, _, _, _, _, rfl, hb⟩
    · have hA1 : A.toList = [] := by rw [ByteArray.toList_eq]; exact List.eq_nil_of_length_eq_zero (by show A.data.toList.length = 0; simp only [Array.length_toList]; show A.size = 0; omega)
      have hie : A.toList.isEmpty = true := by rw [hA1]; rfl
      obtain ⟨wd, hwd⟩ : ∃ wd : Nat, wd = 32 := ⟨_, rfl⟩
      clear hA0
      have HBs := Lib.hid (fun w : World => based_all (w := w) B HAB.out.2)
      go_wp2_with fail
      refine (HBs.out _).mono ?_; rintro e w4 ⟨r, b, sg, er, rfl, hr, hb16, hw4⟩
      subst hw4
      clear HBs
      by_cases he2 : er = 0
      · subst he2
        have HD2 := Lib.hid (fun w : World => digits_all (w := w) r b hb16 (by have := HAB.out.2; omega))
        have HB16 := Lib.hid hb16
        have HRs := Lib.hid hr
        clear hr hb16
        go_wp2_with fail
        refine (HD2.out _).mono ?_; rintro e w5 ⟨v5, ds5, err5, rfl, ho5, hd5, hl5, hb5⟩
        obtain ⟨p5, c5, rfl⟩ := ownsRow_form ho5
        have H5 := Lib.hid (And.intro (H1.out.1.trans (hb5.mono H1.out.1.size)) (H1.out.2.next hb5))
        by_cases he3 : err5 = 0
        · subst he3
          have HBi := Lib.hid (bits_all ds5 b 32 (RO.own ho5) hd5 HB16.out (by omega) (by omega) (by have := HAB.out.2; have := HRs.out; omega))
          generalize ds5.length = L5 at *
          generalize valH b ds5 % 2 ^ 32 = X5 at *
          clear ho5 hd5 hl5 hb5 HD2
          go_wp2_with fail
          refine HBi.out.mono ?_; rintro e w6 ⟨v6, rfl, hv6, hb6, hf6⟩
          obtain ⟨p6, c6, rfl, _⟩ := hv6.ex
          have H6 := Lib.hid (And.intro (H5.out.1.trans (hb6.mono H5.out.1.size)) (H5.out.2.next hb6))
          clear hv6 hb6 hf6 HBi
          have d0 := H6.out.2.cell (i := 0) rfl
          have d1 := H6.out.2.cell (i := 1) rfl
          have d2 := H6.out.2.cell (i := 2) rfl
          have d3 := H6.out.2.cell (i := 3) rfl
          have f0 := H6.out.2.frz 0
          have f1 := H6.out.2.frz 1
          have f2 := H6.out.2.frz 2
          have f3 := H6.out.2.frz 3
          go_wp2_with fail
          have hk := (((H6.out.2.set 0 (.int .i64 32)).set 1 (.slice p6 (wcount 32) c6)).set 2 (.bool sg)).set 3 (.bool false)
          have hb := (((H6.out.1.setCell (show w.heap.size ≤ (⟨w.heap.size, 0, none⟩ : Addr).block from Nat.le_refl _) (.int .i64 32)).setCell (show w.heap.size ≤ (⟨w.heap.size, 1, none⟩ : Addr).block from Nat.le_refl _) (.slice p6 (wcount 32) c6)).setCell (show w.heap.size ≤ (⟨w.heap.size, 2, none⟩ : Addr).block from Nat.le_refl _) (.bool sg)).setCell (show w.heap.size ≤ (⟨w.heap.size, 3, none⟩ : Addr).block from Nat.le_refl _) (.bool false)
          have e0 := hk.cell (i := 0) rfl
          have e1 := hk.cell (i := 1) rfl
          have e2 := hk.cell (i := 2) rfl
          have e3 := hk.cell (i := 3) rfl
          clear d0 d1 d2 d3 f0 f1 f2 f3
          exact bodyPost_ret (v := .tuple #[.agg #[.int .i64 32, .slice p6 (wcount 32) c6, .bool sg, .bool false], .int .i64 (0)]) (by simp [results, Tryz.results52, go_sem, e0, e1, e2, e3]) rfl ⟨_, _, _, _, _, _, _, rfl, hb⟩
        · have heb3 : (err5 == 0) = false := by simp [he3]
          generalize ds5.length = L5 at *
          clear ho5 hd5 hl5 hb5 HD2 he3
          have d0 := H5.out.2.cell (i := 0) rfl
          have d1 := H5.out.2.cell (i := 1) rfl
          have d2 := H5.out.2.cell (i := 2) rfl
          have d3 := H5.out.2.cell (i := 3) rfl
          have f0 := H5.out.2.frz 0
          have f1 := H5.out.2.frz 1
          have f2 := H5.out.2.frz 2
          have f3 := H5.out.2.frz 3
          go_wp2_with fail
          have hk := (((H5.out.2.set 0 (.int .i64 0)).set 1 (.slice none 0 0)).set 2 (.bool false)).set 3 (.bool false)
          have hb := (((H5.out.1.setCell (show w.heap.size ≤ (⟨w.heap.size, 0, none⟩ : Addr).block from Nat.le_refl _) (.int .i64 0)).setCell (show w.heap.size ≤ (⟨w.heap.size, 1, none⟩ : Addr).block from Nat.le_refl _) (.slice none 0 0)).setCell (show w.heap.size ≤ (⟨w.heap.size, 2, none⟩ : Addr).block from Nat.le_refl _) (.bool false)).setCell (show w.heap.size ≤ (⟨w.heap.size, 3, none⟩ : Addr).block from Nat.le_refl _) (.bool false)
          have e0 := hk.cell (i := 0) rfl
          have e1 := hk.cell (i := 1) rfl
          have e2 := hk.cell (i := 2) rfl
          have e3 := hk.cell (i := 3) rfl
          clear d0 d1 d2 d3 f0 f1 f2 f3
          exact bodyPost_ret (v := .tuple #[.agg #[.int .i64 0, .slice none 0 0, .bool false, .bool false], .int .i64 (err5)]) (by simp [results, Tryz.results52, go_sem, e0, e1, e2, e3]) rfl ⟨_, _, _, _, _, _, _, rfl, hb⟩
      · have heb2 : (er == 0) = false := by simp [he2]
        clear hr hb16 he2
        have d0 := H1.out.2.cell (i := 0) rfl
        have d1 := H1.out.2.cell (i := 1) rfl
        have d2 := H1.out.2.cell (i := 2) rfl
        have d3 := H1.out.2.cell (i := 3) rfl
        have f0 := H1.out.2.frz 0
        have f1 := H1.out.2.frz 1
        have f2 := H1.out.2.frz 2
        have f3 := H1.out.2.frz 3
        go_wp2_with fail
        have hk := (((H1.out.2.set 0 (.int .i64 0)).set 1 (.slice none 0 0)).set 2 (.bool false)).set 3 (.bool false)
        have hb := (((H1.out.1.setCell (show w.heap.size ≤ (⟨w.heap.size, 0, none⟩ : Addr).block from Nat.le_refl _) (.int .i64 0)).setCell (show w.heap.size ≤ (⟨w.heap.size, 1, none⟩ : Addr).block from Nat.le_refl _) (.slice none 0 0)).setCell (show w.heap.size ≤ (⟨w.heap.size, 2, none⟩ : Addr).block from Nat.le_refl _) (.bool false)).setCell (show w.heap.size ≤ (⟨w.heap.size, 3, none⟩ : Addr).block from Nat.le_refl _) (.bool false)
        have e0 := hk.cell (i := 0) rfl
        have e1 := hk.cell (i := 1) rfl
        have e2 := hk.cell (i := 2) rfl
        have e3 := hk.cell (i := 3) rfl
        clear d0 d1 d2 d3 f0 f1 f2 f3
        exact bodyPost_ret (v := .tuple #[.agg #[.int .i64 0, .slice none 0 0, .bool false, .bool false], .int .i64 (er)]) (by simp [results, Tryz.results52, go_sem, e0, e1, e2, e3]) rfl ⟨_, _, _, _, _, _, _, rfl, hb⟩
end Go.Proofs.YtcjfelndnnhgjaaGreatDoor.L
