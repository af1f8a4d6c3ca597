import Derived.Test.YtcifiibpiooeiaaB4
namespace Go.Proofs.Ytcifiibpiooeiaa
set_option linter.unusedVariables false
open Go.RowKit

set_option maxHeartbeats 2000000 in
theorem clause_none {A : Nat → Prop} {w : World} {bc : Nat} {F v cls} (h : HasC A w bc F v cls) (i : Int) (hi : i < 0 ∨ cls.length ≤ i) :
    Calls Try.prog 46 #[.pointer (some ⟨bc, 0, none⟩), .int .i64 i] w fun e w' => e = .returned (.slice none 0 0) ∧ w = w' := by
  obtain ⟨sv, sls, h, _⟩ := h
  obtain ⟨p, c, rfl⟩ := ownsRow_form h.own
  have h1 := h.c1
  obtain ⟨N, hN⟩ : ∃ N, cls.length = N := ⟨_, rfl⟩
  rw [hN] at h1 hi
  clear h hN
  by_cases h0 : i < 0
  · clear hi
    go_enter Try.func46, Try.ntmps46
    go_wp2_with fail
    go_ret
    exact ⟨rfl, rfl⟩
  · have hn' : (N : Int) ≤ i := by omega
    have h0' : 0 ≤ i := by omega
    clear hi h0
    go_enter Try.func46, Try.ntmps46
    go_wp2_with fail
    go_ret
    exact ⟨rfl, rfl⟩

set_option maxRecDepth 100000 in
set_option maxHeartbeats 8000000 in
/-- the laws' Is, where both say the same -/
theorem is_any {A : Nat → Prop} {w : World} {bc : Nat} {F G : Nat → Prop} {v : Nat} {cls : List (List Int)} {sv : Value} (hC : HasC A w bc F v cls) (hw : WFC v cls) (h : RefC G w sv cls) :
    Calls Try.prog 19 #[.pointer (some ⟨bc, 0, none⟩), .agg #[.int .i64 v, sv]] w fun e w' => e = .returned (.bool true) ∧ Below w.heap.size w w' := by
  obtain ⟨ps, cs, rfl⟩ := h.form
  have hb := Below.new w (.cells #[.int .i64 v, .slice ps cls.length cs] 28)
  have hB : Blk (w.alloc (.cells #[.int .i64 v, .slice ps cls.length cs] 28)) w.heap.size 28 [.int .i64 v, .slice ps cls.length cs] := Blk.new _ _
  obtain ⟨W, hW⟩ : ∃ W, w.alloc (.cells #[.int .i64 v, .slice ps cls.length cs] 28) = W := ⟨_, rfl⟩
  rw [hW] at hb hB
  have hCW := hC.below hb
  obtain ⟨sls, _, hsl, hro, hrc⟩ := (h.below hb).ro
  have HV : Hid (∀ s : After W, Calls Try.prog 33 #[.pointer (some ⟨bc, 0, none⟩)] s.val fun e w' => e = .returned (.int .i64 v) ∧ Below s.val.heap.size s.val w') := Lib.hid fun s => (vars_any (hCW.below s.below)).mono fun e w' ⟨he, hw⟩ => ⟨he, by rw [← hw]; exact Below.refl _ _⟩
  have HL : Hid (∀ s : After W, Calls Try.prog 45 #[.pointer (some ⟨bc, 0, none⟩)] s.val fun e w' => e = .returned (.int .i64 (cls.length : Nat)) ∧ Below s.val.heap.size s.val w') := Lib.hid fun s => (len_any (hCW.below s.below)).mono fun e w' ⟨he, hw⟩ => ⟨he, by rw [← hw]; exact Below.refl _ _⟩
  have HC0 : Hid (∀ s : After W, Calls Try.prog 46 #[.pointer (some ⟨bc, 0, none⟩), .int .i64 (-1)] s.val fun e w' => e = .returned (.slice none 0 0) ∧ Below s.val.heap.size s.val w') := Lib.hid fun s => (clause_none (hCW.below s.below) (-1) (.inl (by decide))).mono fun e w' ⟨he, hw⟩ => ⟨he, by rw [← hw]; exact Below.refl _ _⟩
  have HC1 : Hid (∀ s : After W, Calls Try.prog 46 #[.pointer (some ⟨bc, 0, none⟩), .int .i64 (cls.length : Nat)] s.val fun e w' => e = .returned (.slice none 0 0) ∧ Below s.val.heap.size s.val w') := Lib.hid fun s => (clause_none (hCW.below s.below) (cls.length : Int) (.inr (Int.le_refl _))).mono fun e w' ⟨he, hw⟩ => ⟨he, by rw [← hw]; exact Below.refl _ _⟩
  have c0 := fun s : After W => After.cell (hB.cell (i := 0) rfl) s
  have c1 := fun s : After W => After.cell (hB.cell (i := 1) rfl) s
  have hNi : (cls.length : Int) ≤ 200000 := by have := hw.n; omega
  have H := Lib.hid (And.intro hCW (And.intro hw (And.intro hsl (And.intro hro (And.intro hrc (And.intro hb hB))))))
  clear hC hw h hb hB hCW hsl hro hrc
  obtain ⟨N, hN⟩ : ∃ N, cls.length = N := ⟨_, rfl⟩
  have HN := Lib.hid hN
  simp only [hN] at HL HC1 c1 hNi H hW ⊢
  clear hN
  go_enter Try.func19, Try.ntmps19
  go_upto_region 1 with fail
  clear hW
  refine wp_region_after (by kernel_rfl) (by kernel_rfl) ?_
  repeat (go_big_quiet_step ((first | (with_reducible exact Calls.after_of (HV.out _)) | (with_reducible exact Calls.after_of (HL.out _)) | (with_reducible exact Calls.after_of (HC0.out _)) | (with_reducible exact Calls.after_of (HC1.out _)))))
  refine wpQuiet_nil ?_
  rintro _ ⟨s, rfl⟩
  go_wp2_with fail
  have hS0 := s.below
  generalize s.val = W1 at *
  clear c0 c1 HV HL HC0 HC1
  go_loopw [37] (fun iv wr => ∃ i : Nat, i ≤ N ∧ iv = .int .i64 i ∧ Below W.heap.size W wr) (fun iv _ => N - (intOf iv).toNat)
  case atStart => exact ⟨0, Nat.zero_le _, rfl, hS0⟩
  case round =>
    obtain ⟨i, hi, rfl, hbr⟩ := hrel
    have HB := Lib.hid hbr
    by_cases hlt : i < N
    · have hat := slvs_at sls i (by rw [H.out.2.2.1]; exact hlt)
      obtain ⟨bl, ol, rfl⟩ := H.out.2.2.2.1.sl hat
      have f0 := (H.out.2.2.2.1.below hbr).cell hat
      have hr := (H.out.2.2.2.2.1 i hlt)
      have hrr := hr.ro.below hbr
      have hcl := clsI_nat cls i (by rw [HN.out]; exact hlt)
      have hwi := H.out.2.1.l i (by rw [HN.out]; exact hlt)
      have HCl := clause_any (H.out.1.below hbr) H.out.2.1 (i : Int)
      rw [hcl] at HCl
      obtain ⟨l, hle⟩ : ∃ l, cls.getD i [] = l := ⟨_, rfl⟩
      rw [hle] at hrr HCl hwi hr
      have hs2 := hr.1
      unfold slv at f0 hrr
      rw [hs2] at f0 hrr
      generalize (sls.getD i default).1 = s1 at f0 hrr
      generalize (sls.getD i default).2.2 = s3 at f0 hrr
      have HI := Lib.hid (And.intro hrr (And.intro hwi hlt))
      have HCC := Lib.hid HCl
      have hii : (i : Int) < N := by omega
      have hiw : IntKind.i64.wrap ((i : Int) + 1) = (i : Int) + 1 := i64_of (by omega)
      clear hat hr hrr hcl hwi HCl hle hs2 hbr hlt hS0
      go_wp2_with fail
      refine HCC.out.mono ?_; rintro e w2 ⟨v2, rfl, ho2, hb2⟩
      have HIn := Lib.hid (ints_same (RO.own ho2) (HI.out.1.below hb2) (by have := HI.out.2.1.2.2.2; omega) (by have := HI.out.2.1.2.2.2; omega))
      have HB2 := Lib.hid hb2
      obtain ⟨p2, c2, rfl⟩ := ownsRow_form ho2
      clear ho2 hb2
      go_wp2_with fail
      refine HIn.out.mono ?_; rintro e w3 ⟨rfl, hb3⟩
      have HB3 := Lib.hid hb3
      clear hb3
      simp only [decide_true]
      go_wp2_with fail
      go_roundw
      case rel => exact ⟨i + 1, HI.out.2.2, by go_num, (HB.out.trans (HB2.out.mono HB.out.size)).trans (HB3.out.mono (Nat.le_trans HB.out.size HB2.out.size))⟩
      case measure => have := HI.out.2.2; simp [intOf]; omega
    · obtain rfl : i = N := by omega
      clear hbr hlt hi hS0
      go_wp2_with fail
      go_ret
      exact ⟨rfl, H.out.2.2.2.2.2.1.trans (HB.out.mono H.out.2.2.2.2.2.1.size)⟩
end Go.Proofs.Ytcifiibpiooeiaa
