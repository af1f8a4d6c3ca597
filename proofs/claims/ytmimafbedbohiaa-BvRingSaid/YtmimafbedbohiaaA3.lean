import Derived.Test.YtmimafbedbohiaaA2
namespace Go.Proofs.Ytmimafbedbohiaa
set_option linter.unusedVariables false
open Go.RowKit

theorem u64_mask (W k : Nat) (hW : W < 2 ^ 64) (hk : k < 64) : bits .and .u64 (W : Int) (IntKind.u64.wrap (IntKind.u64.wrap (2 ^ k) - 1)) = ((W % 2 ^ k : Nat) : Int) := by
  have h := pow_lt k hk
  have h1 : 0 < 2 ^ k := Nat.pow_pos (by decide)
  have e : IntKind.u64.wrap (IntKind.u64.wrap (2 ^ k) - 1) = ((2 ^ k - 1 : Nat) : Int) := by
    rw [u64_pow k hk, IntKind.wrap_u64]
    generalize 2 ^ k = y at *
    omega
  rw [e, u64_and_nat W _ hW (by omega), Nat.and_two_pow_sub_one_eq_mod]
theorem VO.cutTo {w : World} {v : Value} {n x b : Nat} (h : VO w v n x b) (hn : n % 64 ≠ 0) : VO (w.setCell ⟨b, wcount n - 1, none⟩ (.int .u64 ((word x (wcount n - 1) % 2 ^ (n % 64) : Nat) : Int))) v n (x % 2 ^ n) b := by
  have hk : wcount n - 1 < wcount n := by unfold wcount; omega
  have hy : word x (wcount n - 1) % 2 ^ (n % 64) < 2 ^ 64 := Nat.lt_of_le_of_lt (Nat.mod_le _ _) (word_lt _ _)
  refine (h.set hk hy).congr ?_ fun j hj => ?_
  · exact Nat.lt_of_lt_of_le (Nat.mod_lt _ (Nat.pow_pos (by decide))) (Nat.pow_le_pow_right (by decide) (n_le_words n))
  · have e : wcount n - 1 = n / 64 := by unfold wcount; omega
    rw [setW_word _ _ _ _ hy, mod_word, e]
    by_cases e1 : j = n / 64
    · subst e1; simp
    · have : j < n / 64 := by omega
      rw [if_neg e1, if_pos this]
theorem grown_refl (w : World) (r : Option Nat) : w.grownBy w r := ⟨rfl, rfl, rfl, Nat.le_refl _, fun _ _ _ => rfl⟩
theorem grown_trans {a b c : World} {r : Option Nat} (h : a.grownBy b r) (k : b.grownBy c r) : a.grownBy c r :=
  ⟨k.os.trans h.os, k.tape.trans h.tape, k.output.trans h.output, Nat.le_trans h.size k.size, fun i hi hn => (k.block i (Nat.lt_of_lt_of_le hi h.size) hn).trans (h.block i hi hn)⟩
theorem grown_below {a b : World} {B : Nat} (h : Below B a b) (hB : a.heap.size ≤ B) (r : Option Nat) : a.grownBy b r := ⟨h.os, h.tape, h.output, h.size, fun k hk _ => h.block k (Nat.lt_of_lt_of_le hk hB)⟩
theorem grown_cell (w : World) (b i : Nat) (u : Value) : w.grownBy (w.setCell ⟨b, i, none⟩ u) (some b) := by
  refine ⟨rfl, rfl, rfl, ?_, fun k hk hne => Below.heap_setCell _ _ _ _ (fun e => hne (by rw [e]))⟩
  simp
theorem grown_alloc {w W : World} {r : Option Nat} (h : w.grownBy W r) (o : Obj) : w.grownBy (W.alloc o) r :=
  ⟨h.os, h.tape, h.output, by rw [World.size_alloc]; exact Nat.le_succ_of_le h.size, fun k hk hne => (heap_alloc_old _ _ (Nat.lt_of_lt_of_le hk h.size)).trans (h.block k hk hne)⟩
theorem grown_setNew {w W : World} {r : Option Nat} (h : w.grownBy W r) {a : Addr} (ha : w.heap.size ≤ a.block) (u : Value) : w.grownBy (W.setCell a u) r :=
  ⟨h.os, h.tape, h.output, by rw [World.size_setCell]; exact h.size, fun k hk hne => (Below.heap_setCell _ _ _ _ (by omega)).trans (h.block k hk hne)⟩
theorem grown_setOwn {w W : World} {b : Nat} (h : w.grownBy W (some b)) (i : Nat) (u : Value) : w.grownBy (W.setCell ⟨b, i, none⟩ u) (some b) :=
  ⟨h.os, h.tape, h.output, by rw [World.size_setCell]; exact h.size, fun k hk hne => (Below.heap_setCell _ _ _ _ (fun e => hne (by rw [e]))).trans (h.block k hk hne)⟩
theorem grown_drew {w W : World} {r : Option Nat} (h : w.grownBy W r) : w.grownBy W.drew r := ⟨h.os, h.tape, h.output, h.size, h.block⟩
theorem VO.other {w : World} {v n x b} (h : VO w v n x b) {a : Addr} (ha : b ≠ a.block) (u : Value) : VO (w.setCell a u) v n x b := ⟨h.e, h.blk.other u ha, h.lt, h.le⟩
theorem VO.drew {w : World} {v n x b} (h : VO w v n x b) : VO w.drew v n x b := ⟨h.e, h.blk, h.lt, h.le⟩
theorem below_grown {B : Nat} {a b c : World} {g : Nat} (h : Below B a b) (k : b.grownBy c (some g)) (hB : B ≤ b.heap.size) (hg : B ≤ g) : Below B a c :=
  h.grown k hB fun i hi => by
    simp only [Option.some.injEq] at hi
    omega

set_option maxRecDepth 100000 in
set_option maxHeartbeats 1000000 in
theorem cut_any {w : World} {v : Value} {n x b : Nat} (h : VO w v n x b) (hn : 0 < n) :
    Calls Try.prog 46 #[v] w fun e w' => e = .returned v ∧ VO w' v n (x % 2 ^ n) b ∧ w.grownBy w' (some b) := by
  have HV := Lib.hid h
  obtain ⟨rfl, hb, hx, hle⟩ := h
  have hni : (n : Int) ≤ 128 := by omega
  have q6 : (n : Int).tmod 64 = (n : Int) % 64 := Int.tmod_eq_emod_of_nonneg (by omega)
  have hlt := hb.lt
  by_cases hr : n % 64 = 0
  · have hr' : (n : Int) % 64 = 0 := by omega
    have hr2 : (((n : Int) % 64) == 0) = true := by simp [hr']
    have he : Hid (x % 2 ^ n = x) := Lib.hid (Nat.mod_eq_of_lt (by have : 64 * wcount n = n := by unfold wcount; omega
                                                                   rw [this] at hx; exact hx))
    clear hb hx hr hr'
    go_enter Try.func46, Try.ntmps46
    go_wp2_with fail
    refine bodyPost_ret (v := .agg #[.int .i64 n, .slice (some ⟨b, 0, none⟩) (wcount n) (wcount n)]) (by simp [results, Try.results46, go_sem]) rfl ⟨rfl, ?_, ?_⟩
    · rw [he.out]; exact (HV.out.below (Below.new _ _)).below (Below.new _ _)
    · exact grown_below (((Below.new _ _).alloc (by simp) _)) (Nat.le_refl _) _
  · have hr' : ¬ (n : Int) % 64 = 0 := by omega
    have hr2 : (((n : Int) % 64) != 0) = true := by simp [hr']
    have q1 : (0 : Int) ≤ (n : Int) % 64 := by omega
    have q2 : ((n : Int) % 64).toNat = n % 64 := by omega
    have q3 : (0 : Int) ≤ (wcount n : Int) - 1 := by unfold wcount; omega
    have q4 : ((wcount n : Int) - 1) < wcount n := by omega
    have q7 : (1 : Int) ≤ (wcount n : Int) := by omega
    have q5 : ((wcount n : Int) - 1).toNat = wcount n - 1 := by omega
    have q0 : IntKind.i64.wrap ((wcount n : Int) - 1) = (wcount n : Int) - 1 := IntWalk.i64_in _ (by unfold wcount; omega)
    have hk : wcount n - 1 < wcount n := by unfold wcount; omega
    have hc := ((hb.alloc (.cells #[.int .i64 n, .slice (some ⟨b, 0, none⟩) (wcount n) (wcount n)] 26)).alloc (.cells #[.int .i64 0, .slice none 0 0] 26)).cell (wordsV_at hk)
    have hf := ((hb.alloc (.cells #[.int .i64 n, .slice (some ⟨b, 0, none⟩) (wcount n) (wcount n)] 26)).alloc (.cells #[.int .i64 0, .slice none 0 0] 26)).frz (wcount n - 1)
    have hk0 := (Blk.new (w := w) 26 [.int .i64 n, .slice (some ⟨b, 0, none⟩) (wcount n) (wcount n)]).alloc (.cells #[.int .i64 0, .slice none 0 0] 26)
    have hk1 := Blk.new (w := w.alloc (.cells #[.int .i64 n, .slice (some ⟨b, 0, none⟩) (wcount n) (wcount n)] 26)) 26 [.int .i64 0, .slice none 0 0]
    rw [World.size_alloc] at hk1
    have hp0 := hk0.cell (i := 0) rfl
    have hp1 := hk0.cell (i := 1) rfl
    have r0 := hk1.cell (i := 0) rfl
    have r1 := hk1.cell (i := 1) rfl
    have rf0 := hk1.frz 0
    have rf1 := hk1.frz 1
    have hu := Lib.hid (u64_mask (word x (wcount n - 1)) (n % 64) (word_lt _ _) (Nat.mod_lt _ (by decide)))
    have HR := Lib.hid hr
    have hW := (HV.out.below (Below.new w (.cells #[.int .i64 n, .slice (some ⟨b, 0, none⟩) (wcount n) (wcount n)] 26))).below (Below.new _ (.cells #[.int .i64 0, .slice none 0 0] 26))
    have hgW : w.grownBy ((w.alloc (.cells #[.int .i64 n, .slice (some ⟨b, 0, none⟩) (wcount n) (wcount n)] 26)).alloc (.cells #[.int .i64 0, .slice none 0 0] 26)) (some b) := grown_below (((Below.new _ _).alloc (by simp) _)) (Nat.le_refl _) _
    have HW := Lib.hid (And.intro hW hgW)
    have hsz : ((w.alloc (.cells #[.int .i64 n, .slice (some ⟨b, 0, none⟩) (wcount n) (wcount n)] 26)).alloc (.cells #[.int .i64 0, .slice none 0 0] 26)).heap.size = w.heap.size + 1 + 1 := by simp
    have HS := Lib.hid (And.intro hsz (And.intro hk0 hk1))
    clear hb hx hr hr' hn hle hni hW hgW hk hsz hk0 hk1
    go_enter Try.func46, Try.ntmps46
    go_wp2_with fail
    generalize (w.alloc (.cells #[.int .i64 n, .slice (some ⟨b, 0, none⟩) (wcount n) (wcount n)] 26)).alloc (.cells #[.int .i64 0, .slice none 0 0] 26) = W at *
    refine wp_region_still_tail 13 (by kernel_rfl) (by kernel_rfl) ?_
    simp only [List.take_succ_cons, List.take_zero, List.drop_succ_cons, List.drop_zero]
    change wpStill _ _ W.drew (fun a' => wpList _ _ _ _ a' W.drew) _ _
    repeat still_step
    refine wpStill_nil ?_
    go_wp2_with fail
    rw [hu.out]
    have hV2 := ((HW.out.1.cutTo HR.out).other (a := ⟨w.heap.size + 1, 0, none⟩) (by show b ≠ w.heap.size + 1; omega) (.int .i64 n)).other (a := ⟨w.heap.size + 1, 1, none⟩) (by show b ≠ w.heap.size + 1; omega) (.slice (some ⟨b, 0, none⟩) (wcount n) (wcount n))
    have hG2 := grown_setNew (grown_setNew (grown_setOwn HW.out.2 (wcount n - 1) (.int .u64 ((word x (wcount n - 1) % 2 ^ (n % 64) : Nat) : Int))) (a := ⟨w.heap.size + 1, 0, none⟩) (Nat.le_succ _) (.int .i64 n)) (a := ⟨w.heap.size + 1, 1, none⟩) (Nat.le_succ _) (.slice (some ⟨b, 0, none⟩) (wcount n) (wcount n))
    have hk2 := ((HS.out.2.2.other (a := ⟨b, wcount n - 1, none⟩) (.int .u64 ((word x (wcount n - 1) % 2 ^ (n % 64) : Nat) : Int)) (by show w.heap.size + 1 ≠ b; omega)).set 0 (.int .i64 n)).set 1 (.slice (some ⟨b, 0, none⟩) (wcount n) (wcount n))
    generalize ((W.setCell ⟨b, wcount n - 1, none⟩ (.int .u64 ((word x (wcount n - 1) % 2 ^ (n % 64) : Nat) : Int))).setCell ⟨w.heap.size + 1, 0, none⟩ (.int .i64 n)).setCell ⟨w.heap.size + 1, 1, none⟩ (.slice (some ⟨b, 0, none⟩) (wcount n) (wcount n)) = W2 at *
    have e0 := hk2.cell (i := 0) (u := .int .i64 n) rfl
    have e1 := hk2.cell (i := 1) (u := .slice (some ⟨b, 0, none⟩) (wcount n) (wcount n)) rfl
    refine bodyPost_ret (v := .agg #[.int .i64 n, .slice (some ⟨b, 0, none⟩) (wcount n) (wcount n)]) (by simp [results, Try.results46, go_sem, e0, e1]) rfl ⟨rfl, hV2.drew, grown_drew hG2⟩
end Go.Proofs.Ytmimafbedbohiaa
