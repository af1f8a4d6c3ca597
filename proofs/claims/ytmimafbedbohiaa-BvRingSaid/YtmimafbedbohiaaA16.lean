import Derived.Test.YtmimafbedbohiaaA15
namespace Go.Proofs.Ytmimafbedbohiaa
set_option linter.unusedVariables false
open Go.RowKit

/-- as signed numbers -/
def sltB (n A B : Nat) : Bool := if topB n A != topB n B then topB n A else decide (A < B)
set_option maxRecDepth 100000 in
set_option maxHeartbeats 2000000 in
theorem slt_any {w : World} {va vb : Value} {n A B : Nat} (hA : VR w va n A) (hB : VR w vb n B) : Calls Try.prog 88 #[va, vb] w fun e w' => e = .returned (.bool (sltB n A B)) ∧ Below w.heap.size w w' := by
  have HA := Lib.hid (fun w' (hb : Below w.heap.size w w') => negative_any (hA.below hb))
  have HB := Lib.hid (fun w' (hb : Below w.heap.size w w') => negative_any (hB.below hb))
  have HL := Lib.hid (fun w' (hb : Below w.heap.size w w') => less_any (hA.below hb) (hB.below hb))
  have hs : sltB n A B = if topB n A != topB n B then topB n A else decide (A < B) := rfl
  obtain ⟨pa, ca, rfl, ra⟩ := hA.ex
  obtain ⟨pb, cb, rfl, rb⟩ := hB.ex
  clear hA hB ra rb
  change Hid (∀ w', Below w.heap.size w w' → Calls Try.prog 77 #[.agg #[.int .i64 n, .slice pa (wcount n) ca]] w' fun e w'' => e = .returned (.bool (topB n A)) ∧ Below w'.heap.size w' w'') at HA
  change Hid (∀ w', Below w.heap.size w w' → Calls Try.prog 77 #[.agg #[.int .i64 n, .slice pb (wcount n) cb]] w' fun e w'' => e = .returned (.bool (topB n B)) ∧ Below w'.heap.size w' w'') at HB
  generalize topB n A = ta at *
  generalize topB n B = tb at *
  generalize decide (A < B) = lt at *
  rw [hs]
  clear hs
  obtain ⟨r, hr⟩ : ∃ r, (if (ta != tb) = true then ta else lt) = r := ⟨_, rfl⟩
  rw [hr]
  have HR := Lib.hid hr
  clear hr
  have HAg := Lib.hid (fun (W : World) (hb3 : Below w.heap.size w W) (s : After W) => HA.out s.val (hb3.trans (s.below.mono hb3.size)))
  have HBg := Lib.hid (fun (W : World) (hb3 : Below w.heap.size w W) (s : After W) => HB.out s.val (hb3.trans (s.below.mono hb3.size)))
  cases ta <;> cases tb
  all_goals
    go_enter Try.func88, Try.ntmps88
    go_wp2_with fail
    have k0 := (Blk.new (w := w) 26 [.int .i64 n, .slice pa (wcount n) ca]).alloc (.cells #[.int .i64 n, .slice pb (wcount n) cb] 26)
    have k1 := Blk.new (w := w.alloc (.cells #[.int .i64 n, .slice pa (wcount n) ca] 26)) 26 [.int .i64 n, .slice pb (wcount n) cb]
    have hb3 : Below w.heap.size w ((w.alloc (.cells #[.int .i64 n, .slice pa (wcount n) ca] 26)).alloc (.cells #[.int .i64 n, .slice pb (wcount n) cb] 26)) := (Below.new _ _).alloc (by simp) _
    simp only [World.size_alloc] at k1
    generalize (w.alloc (.cells #[.int .i64 n, .slice pa (wcount n) ca] 26)).alloc (.cells #[.int .i64 n, .slice pb (wcount n) cb] 26) = W at *
    have HK := Lib.hid (And.intro k0 (And.intro k1 hb3))
    have a0 := After.cell (k0.cell (i := 0) rfl)
    have a1 := After.cell (k0.cell (i := 1) rfl)
    have b0 := After.cell (k1.cell (i := 0) rfl)
    have b1 := After.cell (k1.cell (i := 1) rfl)
    have HAs := Lib.hid (HAg.out W hb3)
    have HBs := Lib.hid (HBg.out W hb3)
    clear k0 k1 hb3
    refine wp_region_after (by kernel_rfl) (by kernel_rfl) ?_
    repeat (go_big_quiet_step ((first | (with_reducible exact Calls.after_of (HAs.out _)) | (with_reducible exact Calls.after_of (HBs.out _)))))
    refine wpQuiet_nil ?_
    rintro _ ⟨s, rfl⟩
    have x0 := a0 s
    have x1 := a1 s
    have y0 := b0 s
    have y1 := b1 s
    have HS := Lib.hid (HK.out.2.2.trans (s.below.mono HK.out.2.2.size))
    obtain ⟨w1, hw1⟩ := s
    dsimp only at x0 x1 y0 y1 HS ⊢
    clear a0 a1 b0 b1 HAs HBs
    go_wp2_with (first
      | (go_at_call 87; refine (HL.out _ HS.out).mono ?_; rintro e w2 ⟨rfl, hb2⟩; have HH := Lib.hid (HS.out.trans (hb2.mono HS.out.size)); clear hb2)
      | (go_at_call 77; refine (HA.out _ HS.out).mono ?_; rintro e w2 ⟨rfl, hb2⟩; have HH := Lib.hid (HS.out.trans (hb2.mono HS.out.size)); clear hb2))
    go_ret
    exact ⟨by rw [← HR.out]; rfl, HH.out⟩

/-- the comparisons -/
def cmpB (op : Nat) (n A B : Nat) : Bool :=
  if op = 13 then decide (A = B) else if op = 14 then !decide (A = B) else if op = 15 then decide (A < B) else if op = 16 then !decide (B < A) else if op = 17 then sltB n A B else !sltB n B A
set_option maxRecDepth 100000 in
set_option maxHeartbeats 4000000 in
theorem compare_any {w : World} {va vb : Value} {n A B : Nat} (hA : VR w va n A) (hB : VR w vb n B) (op : Nat) (h1 : 13 ≤ op) (h2 : op ≤ 18) : Calls Try.prog 57 #[.int .i64 op, va, vb] w fun e w' => e = .returned (.bool (cmpB op n A B)) ∧ Below w.heap.size w w' := by
  have HE := Lib.hid (fun w' (hb : Below w.heap.size w w') => equal_any (hA.below hb) (hB.below hb))
  have HL1 := Lib.hid (fun w' (hb : Below w.heap.size w w') => less_any (hA.below hb) (hB.below hb))
  have HL2 := Lib.hid (fun w' (hb : Below w.heap.size w w') => less_any (hB.below hb) (hA.below hb))
  have HS1 := Lib.hid (fun w' (hb : Below w.heap.size w w') => slt_any (hA.below hb) (hB.below hb))
  have HS2 := Lib.hid (fun w' (hb : Below w.heap.size w w') => slt_any (hB.below hb) (hA.below hb))
  obtain ⟨pa, ca, rfl, ra⟩ := hA.ex
  obtain ⟨pb, cb, rfl, rb⟩ := hB.ex
  have HBl := Lib.hid (show ∀ o1 o2, Below w.heap.size w ((w.alloc o1).alloc o2) from fun o1 o2 => (Below.new _ _).alloc (by simp) _)
  have hsz := fun o1 o2 : Obj => show ((w.alloc o1).alloc o2).heap.size = w.heap.size + 1 + 1 by simp
  simp only [true_and] at HE
  clear hA hB ra rb
  have hop : op = 13 ∨ op = 14 ∨ op = 15 ∨ op = 16 ∨ op = 17 ∨ op = 18 := by omega
  clear h1 h2
  have fin : Hid (∀ W w' : World, Below w.heap.size w W → Below W.heap.size W w' → Below w.heap.size w w') := Lib.hid fun W w' h k => h.trans (k.mono h.size)
  rcases hop with rfl | rfl | rfl | rfl | rfl | rfl
  all_goals simp only [cmpB, Nat.reduceEqDiff, if_true, if_false]
  · generalize decide (A = B) = r at *
    go_enter Try.func57, Try.ntmps57
    go_wp2_with (go_at_call 26; refine (HE.out _ (HBl.out _ _)).mono ?_; rintro e w2 ⟨rfl, hb2⟩; have HH := Lib.hid (fin.out _ _ (HBl.out _ _) hb2); clear hb2)
    go_ret
    exact ⟨rfl, HH.out⟩
  · generalize decide (A = B) = r at *
    go_enter Try.func57, Try.ntmps57
    go_wp2_with (go_at_call 26; refine (HE.out _ (HBl.out _ _)).mono ?_; rintro e w2 ⟨rfl, hb2⟩; have HH := Lib.hid (fin.out _ _ (HBl.out _ _) hb2); clear hb2)
    go_ret
    exact ⟨rfl, HH.out⟩
  · generalize decide (A < B) = r at *
    go_enter Try.func57, Try.ntmps57
    go_wp2_with (go_at_call 87; refine (HL1.out _ (HBl.out _ _)).mono ?_; rintro e w2 ⟨rfl, hb2⟩; have HH := Lib.hid (fin.out _ _ (HBl.out _ _) hb2); clear hb2)
    go_ret
    exact ⟨rfl, HH.out⟩
  · generalize decide (B < A) = r at *
    go_enter Try.func57, Try.ntmps57
    go_wp2_with (go_at_call 87; refine (HL2.out _ (HBl.out _ _)).mono ?_; rintro e w2 ⟨rfl, hb2⟩; have HH := Lib.hid (fin.out _ _ (HBl.out _ _) hb2); clear hb2)
    go_ret
    exact ⟨rfl, HH.out⟩
  · generalize sltB n A B = r at *
    go_enter Try.func57, Try.ntmps57
    go_wp2_with (go_at_call 88; refine (HS1.out _ (HBl.out _ _)).mono ?_; rintro e w2 ⟨rfl, hb2⟩; have HH := Lib.hid (fin.out _ _ (HBl.out _ _) hb2); clear hb2)
    go_ret
    exact ⟨rfl, HH.out⟩
  · generalize sltB n B A = r at *
    go_enter Try.func57, Try.ntmps57
    go_wp2_with (go_at_call 88; refine (HS2.out _ (HBl.out _ _)).mono ?_; rintro e w2 ⟨rfl, hb2⟩; have HH := Lib.hid (fin.out _ _ (HBl.out _ _) hb2); clear hb2)
    go_ret
    exact ⟨rfl, HH.out⟩
end Go.Proofs.Ytmimafbedbohiaa
