import Derived.Test.YtmimafbedbohiaaA44
import Derived.Test.YtmimafbedbohiaaA37
import Derived.Test.YtmimafbedbohiaaA32
namespace Go.Proofs.Ytmimafbedbohiaa
set_option linter.unusedVariables false
open Go.RowKit

theorem short_any {w : World} {p : Option Addr} {n c : Nat} {f : Nat → Bool} (hA : RO w (.slice p n c) 1 n (bools (rl n f))) (hc : n ≤ c) (hn : n ≤ 1000000000000000000) : Calls Try.prog 18 #[.slice p n c] w fun e w' => e = .returned (.slice p (min n 140) c) ∧ w = w' := by
  by_cases h : n ≤ 140
  · have hi : (n : Int) ≤ 140 := by omega
    have e : min n 140 = n := by omega
    rw [e]
    clear hA e h
    go_enter Try.func18, Try.ntmps18
    go_wp2_with fail
    go_ret
    exact ⟨rfl, rfl⟩
  · obtain ⟨b, o, rfl⟩ := hA.ptr (by omega)
    have hi : (140 : Int) < n := by omega
    have e : min n 140 = 140 := by omega
    have hci : (140 : Int) ≤ c := by omega
    rw [e]
    clear hA e h
    go_enter Try.func18, Try.ntmps18
    go_wp2_with fail
    go_ret
    exact ⟨rfl, rfl⟩
theorem RO.short {w : World} {p : Option Addr} {n c c' m : Nat} {f : Nat → Bool} (hA : RO w (.slice p n c) 1 n (bools (rl n f))) (hm : m ≤ n) : RO w (.slice p m c') 1 m (bools (rl m f)) := by
  by_cases h0 : m = 0
  · subst h0; exact ⟨rfl, _, _, rfl, fun j u hj => by simp [rl, bools] at hj⟩
  · obtain ⟨b, o, rfl⟩ := hA.ptr (by omega)
    have := hA.part (lo := 0) (m := m) (c' := c') (by omega)
    rw [Nat.add_zero] at this
    rwa [show (fun j => f (0 + j)) = f from funext fun j => by rw [Nat.zero_add]] at this

/-- what fit gives -/
def fitF (g : Nat → Bool) (m j : Nat) : Bool := decide (j < m) && g j
theorem fit_cells (n m : Nat) (g : Nat → Bool) : splice (bools (List.replicate n false)) 0 ((bools (rl m g)).take n) = bools (rl n (fitF g m)) := by
  have ht : (bools (rl m g)).take n = bools (rl (min m n) g) := by
    rw [bools, ← List.map_take]; congr 1
    rw [rl, rl, ← List.map_take, List.take_range, Nat.min_comm]
  rw [ht, ← rl_false]
  unfold splice
  rw [List.take_zero, List.nil_append]
  have hd : (bools (rl n fun _ => false)).drop (0 + (bools (rl (min m n) g)).length) = bools (rl (n - min m n) fun _ => false) := by
    have hlen : (bools (rl (min m n) g)).length = min m n := by simp [bools, rl]
    rw [hlen, Nat.zero_add, bools, ← List.map_drop]; congr 1
    rw [rl_false, rl_false, List.drop_replicate]
  rw [hd, bools_append, rl_append, show min m n + (n - min m n) = n by omega]
  congr 1
  refine rl_congr fun i hi => ?_
  unfold fitF
  by_cases h : i < m
  · rw [if_pos (by omega), decide_eq_true h, Bool.true_and]
  · rw [if_neg (by omega), decide_eq_false h, Bool.false_and]

set_option maxRecDepth 100000 in
set_option maxHeartbeats 1000000 in
theorem fit_any {w : World} {vb : Value} {m n : Nat} {g : Nat → Bool} (hB : RO w vb 1 m (bools (rl m g))) (hn : n ≤ 140) : Calls Try.prog 29 #[vb, .int .i64 n] w (RetL w n (fitF g m)) := by
  have hni : (n : Int) ≤ 140 := by omega
  have HB := Lib.hid (hB.below (Below.new w (.cells (bools (List.replicate n false)).toArray 4)))
  obtain ⟨pb, cb, rfl⟩ := hB.form
  have hmk := fun w => mk_bools n (by omega) w
  have k1 := Blk.new (w := w) 4 (bools (List.replicate n false))
  have HK := Lib.hid (And.intro k1 (Below.new w (.cells (bools (List.replicate n false)).toArray 4)))
  clear hB hn k1
  go_enter Try.func29, Try.ntmps29
  go_wp2_with (refine wpList_copyR rfl _ _ 35 35 rfl 4 Try.underlying35 (by kernel_rfl) w.heap.size 0 n n rfl _ 4 HK.out.1 (by simp [bools]) _ _ _ rfl HB.out (bools_one _) ?_; intro w2 h2)
  go_ret
  refine ⟨_, rfl, ?_, below_grown HK.out.2 h2.out.2 HK.out.2.size (Nat.le_refl _)⟩
  have := h2.out.1
  rw [fit_cells] at this
  exact RO.ofBlk this

/-- a vector is returned, its words in no old block -/
def RetV (w : World) (n x : Nat) (e : Ending) (w' : World) : Prop := ∃ v, e = .returned v ∧ VR w' v n x ∧ Below w.heap.size w w' ∧ Far w v
theorem valB_rl (n : Nat) (f : Nat → Bool) : valB (rl n f) = ofB f n := by
  unfold valB; rw [rl_length]; exact ofB_congr fun i hi => rl_getD n f i hi
theorem of_rl {w : World} {vl : Value} {n : Nat} {f : Nat → Bool} (hl : RO w vl 1 n (bools (rl n f))) (h1 : 1 ≤ n) (h2 : n ≤ 128) : Calls Try.prog 21 #[vl] w (RetE w n (ofB f n) 0) := by
  have := of_good (w := w) (vl := vl) (l := rl n f) (by rwa [rl_length]) (by rwa [rl_length]) (by rwa [rl_length])
  rwa [rl_length, valB_rl] at this
theorem of_rl_bad {w : World} {vl : Value} {n : Nat} {f : Nat → Bool} (hl : RO w vl 1 n (bools (rl n f))) (hn : n ≤ 1000000000000000000) (h : n < 1 ∨ 128 < n) : Calls Try.prog 21 #[vl] w (RetE w 0 0 2) :=
  of_bad (w := w) (vl := vl) (l := rl n f) (by rwa [rl_length]) (by rw [rl_length]; omega) (by rwa [rl_length])

set_option maxRecDepth 100000 in
set_option maxHeartbeats 1000000 in
theorem own_of {w : World} {vl : Value} {n x : Nat} {err : Int} (H : ∀ w', Below w.heap.size w w' → Calls Try.prog 21 #[vl] w' (RetE w' n x err)) : Calls Try.prog 27 #[vl] w (RetV w n x) := by
  have HO := Lib.hid H
  clear H
  go_enter Try.func27, Try.ntmps27
  go_wp2_with fail
  have hT := (Tr.nil w).lay 26 [.int .i64 0, .slice none 0 0]
  generalize w.alloc (.cells [Value.int .i64 0, .slice none 0 0].toArray 26) = W at *
  have HT := Lib.hid hT
  clear hT
  refine (HO.out _ HT.out.bel).mono ?_; rintro e w1 ⟨v, rfl, hv, hb, hf⟩
  obtain ⟨p, c, rfl, _⟩ := hv.ex
  have HT1 := Lib.hid (HT.out.below hb)
  have HV := Lib.hid (And.intro hv hf)
  have HLT := Lib.hid (HT.out.at 0 rfl).lt
  have r0 := fun o => ((HT1.out.at 0 rfl).alloc o).cell (i := 0) rfl
  have r1 := fun o => ((HT1.out.at 0 rfl).alloc o).cell (i := 1) rfl
  have f0 := fun o => ((HT1.out.at 0 rfl).alloc o).frz 0
  have f1 := fun o => ((HT1.out.at 0 rfl).alloc o).frz 1
  clear hv hb hf
  go_wp2_with fail
  have hne : ∀ b o, p = some ⟨b, o, none⟩ → b ≠ w.heap.size := fun b o h => by
    have h1 := HV.out.2 _ _ _ _ _ _ rfl h
    have h2 := HLT.out
    omega
  obtain ⟨e0, e1, hv, hbl⟩ := ret3 (w := w) (((HT1.out.lay 26 [.int .i64 n, .slice p (wcount n) c]).at 1 rfl)) (HT1.out.lay 26 [.int .i64 n, .slice p (wcount n) c]).bel (Nat.le_refl _) (HV.out.1.below (Below.new _ _)) hne
  exact bodyPost_ret (v := .agg #[.int .i64 n, .slice p (wcount n) c]) (by simp [results, Try.results27, go_sem, e0, e1]) rfl ⟨_, rfl, hv, hbl, fun k p' m' c' b o e h => Nat.le_trans HT.out.bel.size (HV.out.2 k p' m' c' b o e h)⟩
theorem own_good {w : World} {vl : Value} {n : Nat} {f : Nat → Bool} (hl : RO w vl 1 n (bools (rl n f))) (h1 : 1 ≤ n) (h2 : n ≤ 128) : Calls Try.prog 27 #[vl] w (RetV w n (ofB f n)) :=
  own_of (err := 0) fun w' hb => of_rl (hl.below hb) h1 h2
theorem own_bad {w : World} {vl : Value} {n : Nat} {f : Nat → Bool} (hl : RO w vl 1 n (bools (rl n f))) (hn : n ≤ 1000000000000000000) (h : n < 1 ∨ 128 < n) : Calls Try.prog 27 #[vl] w (RetV w 0 0) :=
  own_of (err := 2) fun w' hb => of_rl_bad (hl.below hb) hn h

theorem RO.lits {w : World} {b : Nat} {l : List Nat} (h : Blk w b 22 (natsV l)) : RO w (.slice (some ⟨b, 0, none⟩) l.length l.length) 1 l.length (natsV l) := RO.ofCells h (natsV_length l)
set_option maxRecDepth 100000 in
set_option maxHeartbeats 4000000 in
theorem awake_any (w : World) : Calls Try.prog 13 #[] w fun e w' => e = .returned (.bool true) ∧ Below w.heap.size w w' := by
  have HN9 : Hid (∀ (w' : World) (k : Nat), w'.heap.size = k → Calls Try.prog 14 #[.int .i64 4, .slice (some ⟨k, 0, none⟩) 1 1] (w'.alloc (.cells #[.int .u64 9] 22)) (RetE (w'.alloc (.cells #[.int .u64 9] 22)) 4 9 0)) := Lib.hid fun w' k hk => by
    subst hk; exact new_good (l := [9]) 4 (by decide) (by decide) _ (RO.lits (Blk.new 22 (natsV [9]))) (by simp)
  have HN8 : Hid (∀ (w' : World) (k : Nat), w'.heap.size = k → Calls Try.prog 14 #[.int .i64 4, .slice (some ⟨k, 0, none⟩) 1 1] (w'.alloc (.cells #[.int .u64 8] 22)) (RetE (w'.alloc (.cells #[.int .u64 8] 22)) 4 8 0)) := Lib.hid fun w' k hk => by
    subst hk; exact new_good (l := [8]) 4 (by decide) (by decide) _ (RO.lits (Blk.new 22 (natsV [8]))) (by simp)
  have HT9 : Hid (∀ (w' : World) (v : Value), VR w' v 4 9 → Calls Try.prog 43 #[v] w' fun e w'' => e = .returned (.string { data := #[49, 48, 48, 49] }) ∧ Below w'.heap.size w' w'') := Lib.hid fun w' v h => text_any h
  have HT1 : Hid (∀ (w' : World) (v : Value), VR w' v 4 1 → Calls Try.prog 43 #[v] w' fun e w'' => e = .returned (.string { data := #[48, 48, 48, 49] }) ∧ Below w'.heap.size w' w'') := Lib.hid fun w' v h => text_any h
  go_enter Try.func13, Try.ntmps13
  go_wp2_with fail
  refine (HN9.out _ _ rfl).mono ?_; rintro e w1 ⟨v1, rfl, hv1, hb1, _⟩
  obtain ⟨p1, c1, rfl, _⟩ := hv1.ex
  have HX1 := Lib.hid (((Tr.nil w).below (Below.then (Below.new w _) hb1 (Nat.le_refl _))).lay 26 [.int .i64 4, .slice p1 (wcount 4) c1])
  have V1 := Lib.hid (hv1.below (Below.new w1 (.cells #[.int .i64 4, .slice p1 (wcount 4) c1] 26)))
  clear hv1 hb1
  go_wp2_with fail
  refine (HN8.out _ _ (by simp)).mono ?_; rintro e w2 ⟨v2, rfl, hv2, hb2, _⟩
  obtain ⟨p2, c2, rfl, _⟩ := hv2.ex
  have HB2 := Lib.hid (Below.then (Below.new _ _) hb2 (Nat.le_refl _))
  have HX2 := Lib.hid ((HX1.out.below HB2.out).lay 26 [.int .i64 4, .slice p2 (wcount 4) c2])
  have V2 := Lib.hid (And.intro ((V1.out.below HB2.out).below (Below.new w2 (.cells #[.int .i64 4, .slice p2 (wcount 4) c2] 26))) (hv2.below (Below.new w2 (.cells #[.int .i64 4, .slice p2 (wcount 4) c2] 26))))
  have q0 := (HX2.out.pr 1 rfl).1
  have q1 := (HX2.out.pr 1 rfl).2
  clear hv2 hb2
  go_wp2_with fail
  refine (bin_0 V2.out.1 V2.out.2 (by decide)).mono ?_; rintro e w3 ⟨v3, rfl, hv3, hb3, _⟩
  obtain ⟨p3, c3, rfl, _⟩ := hv3.ex
  have HX3 := Lib.hid ((HX2.out.below hb3).lay 26 [.int .i64 4, .slice p3 (wcount 4) c3])
  have V3 := Lib.hid (And.intro ((V2.out.1.below hb3).below (Below.new w3 (.cells #[.int .i64 4, .slice p3 (wcount 4) c3] 26))) (hv3.below (Below.new w3 (.cells #[.int .i64 4, .slice p3 (wcount 4) c3] 26))))
  have q0 := (HX3.out.pr 2 rfl).1
  have q1 := (HX3.out.pr 2 rfl).2
  clear hv3 hb3
  go_wp2_with fail
  refine (HT9.out _ _ V3.out.1).mono ?_; rintro e w4 ⟨rfl, hb4⟩
  have HX4 := Lib.hid (HX3.out.below hb4)
  have V4 := Lib.hid (V3.out.2.below hb4)
  have q0 := (HX4.out.pr 0 rfl).1
  have q1 := (HX4.out.pr 0 rfl).2
  clear hb4
  go_wp2_with fail
  refine (HT1.out _ _ V4.out).mono ?_; rintro e w5 ⟨rfl, hb5⟩
  have HX5 := Lib.hid (HX4.out.below hb5)
  clear hb5
  go_wp2_with fail
  go_ret
  exact ⟨rfl, HX5.out.bel⟩
end Go.Proofs.Ytmimafbedbohiaa
