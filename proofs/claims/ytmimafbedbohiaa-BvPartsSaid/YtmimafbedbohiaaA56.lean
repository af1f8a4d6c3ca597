import Derived.Test.YtmimafbedbohiaaA55
namespace Go.Proofs.Ytmimafbedbohiaa
set_option linter.unusedVariables false
open Go.RowKit

def divN (n A B : Nat) : Nat := if B = 0 then notN n 0 else A / B
theorem split_any {w : World} {va vb : Value} {n A B : Nat} (hA : VR w va n A) (hB : VR w vb n B) (hn : 0 < n) : Calls Try.prog 83 #[va, vb] w (RetP w n (divN n A B) (A % B)) := by
  unfold divN
  by_cases h : B = 0
  · rw [if_pos h, show A % B = A by rw [h, Nat.mod_zero]]; exact split_zero hA hB hn h
  · rw [if_neg h]; exact split_pos hA hB hn h

set_option maxRecDepth 100000 in
set_option maxHeartbeats 8000000 in
theorem signed_zero {w : World} {va vb : Value} {n A B : Nat} (hA : VR w va n A) (hB : VR w vb n B) (hn : 0 < n) (h0 : B = 0) :
    Calls Try.prog 84 #[va, vb] w (RetP w n (notN n 0) A) := by
  have HA := Lib.hid hA
  have HB := Lib.hid hB
  have HN := Lib.hid hn
  have H0 := Lib.hid h0
  have hn128 := hA.le
  have hni : (n : Int) ≤ 128 := by omega
  obtain ⟨pa, ca, rfl, ra⟩ := hA.ex
  have HAny : Hid (∀ w', Below w.heap.size w w' → Calls Try.prog 74 #[vb] w' fun e w'' => e = .returned (.bool false) ∧ Below w'.heap.size w' w'') := Lib.hid fun w' hb => by
    have := any_any (hB.below hb); rwa [show nz B = false by simp [nz, h0]] at this
  obtain ⟨pb, cb, rfl, rb⟩ := hB.ex
  clear hA hB ra rb hn128 hn h0
  go_enter Try.func84, Try.ntmps84
  go_wp2_with fail
  have hT := ((((Tr.nil w).lay 26 [.int .i64 n, .slice pa (wcount n) ca]).lay 26 [.int .i64 n, .slice pb (wcount n) cb]).lay 26 [.int .i64 0, .slice none 0 0]).lay 26 [.int .i64 0, .slice none 0 0]
  simp only [World.size_alloc] at hT
  generalize (((w.alloc (.cells [Value.int .i64 n, .slice pa (wcount n) ca].toArray 26)).alloc (.cells [Value.int .i64 n, .slice pb (wcount n) cb].toArray 26)).alloc (.cells [Value.int .i64 0, .slice none 0 0].toArray 26)).alloc (.cells [Value.int .i64 0, .slice none 0 0].toArray 26) = W at *
  have HT := Lib.hid hT
  clear hT
  refine (HAny.out _ HT.out.bel).mono ?_; rintro e w1 ⟨rfl, hb1⟩
  have HT1 := Lib.hid (HT.out.below hb1)
  clear hb1
  have ca0 := (HT1.out.pr 3 rfl).1
  have ca1 := (HT1.out.pr 3 rfl).2
  have cb0 := (HT1.out.pr 2 rfl).1
  have cb1 := (HT1.out.pr 2 rfl).2
  go_wp2_with fail
  refine (split_zero (HA.out.below HT1.out.bel) (HB.out.below HT1.out.bel) HN.out H0.out).mono ?_; rintro e W2 ⟨v6, v7, rfl, hv6, hv7, hb2⟩
  obtain ⟨p6, c6, rfl, _⟩ := hv6.ex
  obtain ⟨p7, c7, rfl, _⟩ := hv7.ex
  have HT2 := Lib.hid (HT1.out.below hb2)
  have HV := Lib.hid (And.intro hv6 hv7)
  clear hv6 hv7 hb2 ca0 ca1 cb0 cb1
  have r0 := (HT2.out.pr 1 rfl).1
  have r1 := (HT2.out.pr 1 rfl).2
  have f0 := (HT2.out.at 1 rfl).frz 0
  have f1 := (HT2.out.at 1 rfl).frz 1
  have s0 := (HT2.out.pr 0 rfl).1
  have s1 := (HT2.out.pr 0 rfl).2
  have g0 := (HT2.out.at 0 rfl).frz 0
  have g1 := (HT2.out.at 0 rfl).frz 1
  have HT3 := Lib.hid (HT2.out.two 1 (x := .int .i64 n) (y := .slice p6 (wcount n) c6) rfl)
  have t0 := (HT3.out.pr 0 rfl).1
  have t1 := (HT3.out.pr 0 rfl).2
  have k0 := (HT3.out.at 0 rfl).frz 0
  have k1 := (HT3.out.at 0 rfl).frz 1
  go_wp2_with fail
  have Hs2 := Lib.hid (HT3.out.two 0 (x := .int .i64 n) (y := .slice p7 (wcount n) c7) rfl)
  have v6 := (HV.out.1.two_keep HN.out (HT2.out.at 1 rfl) (x1 := .int .i64 n) (y1 := .slice p6 (wcount n) c6)).two_keep HN.out (HT3.out.at 0 rfl) (x1 := .int .i64 n) (y1 := .slice p7 (wcount n) c7)
  have v7 := (HV.out.2.two_keep HN.out (HT2.out.at 1 rfl) (x1 := .int .i64 n) (y1 := .slice p6 (wcount n) c6)).two_keep HN.out (HT3.out.at 0 rfl) (x1 := .int .i64 n) (y1 := .slice p7 (wcount n) c7)
  have e0 := (Hs2.out.pr 1 rfl).1
  have e1 := (Hs2.out.pr 1 rfl).2
  have e2 := (Hs2.out.pr 0 rfl).1
  have e3 := (Hs2.out.pr 0 rfl).2
  exact bodyPost_ret (v := .tuple #[.agg #[.int .i64 n, .slice p6 (wcount n) c6], .agg #[.int .i64 n, .slice p7 (wcount n) c7]]) (by simp [results, Try.results84, go_sem, e0, e1, e2, e3]) rfl ⟨_, _, rfl, v6, v7, Hs2.out.bel⟩

def sdivZ (n A B : Nat) : Nat := if B = 0 then notN n 0 else sdivN n A B
def sremZ (n A B : Nat) : Nat := if B = 0 then A else sremN n A B
theorem signed_any {w : World} {va vb : Value} {n A B : Nat} (hA : VR w va n A) (hB : VR w vb n B) (hn : 0 < n) : Calls Try.prog 84 #[va, vb] w (RetP w n (sdivZ n A B) (sremZ n A B)) := by
  unfold sdivZ sremZ
  by_cases h : B = 0
  · rw [if_pos h, if_pos h]; exact signed_zero hA hB hn h
  · rw [if_neg h, if_neg h]; exact signed_pos hA hB hn h
/-- what a division returns -/
def divOp (k n A B : Nat) : Nat := if k = 3 then divN n A B else if k = 4 then A % B else if k = 5 then sdivZ n A B else sremZ n A B
set_option maxRecDepth 100000 in
set_option maxHeartbeats 8000000 in
theorem divide_3 {w : World} {va vb : Value} {n A B : Nat} (hA : VR w va n A) (hB : VR w vb n B) (hn : 0 < n) :
    Calls Try.prog 50 #[.int .i64 3, va, vb] w (Ret w n (divOp 3 n A B)) := by
  have HA := Lib.hid hA
  have HB := Lib.hid hB
  have HN := Lib.hid hn
  have hn128 := hA.le
  have hni : (n : Int) ≤ 128 := by omega
  obtain ⟨pa, ca, rfl, ra⟩ := hA.ex
  obtain ⟨pb, cb, rfl, rb⟩ := hB.ex
  obtain ⟨Q, hQ⟩ : ∃ Q, divN n A B = Q := ⟨_, rfl⟩
  obtain ⟨R, hR⟩ : ∃ R, A % B = R := ⟨_, rfl⟩
  obtain ⟨SQ, hSQ⟩ : ∃ Q, sdivZ n A B = Q := ⟨_, rfl⟩
  obtain ⟨SR, hSR⟩ : ∃ Q, sremZ n A B = Q := ⟨_, rfl⟩
  have hD : divOp 3 n A B = Q := by unfold divOp; simp [hQ]
  rw [hD]
  have HSplit : Hid (∀ W, Below w.heap.size w W → Calls Try.prog 83 #[.agg #[.int .i64 n, .slice pa (wcount n) ca], .agg #[.int .i64 n, .slice pb (wcount n) cb]] W (RetP W n Q R)) := Lib.hid fun W hb => by rw [← hQ, ← hR]; exact split_any (hA.below hb) (hB.below hb) hn
  have HSigned : Hid (∀ W, Below w.heap.size w W → Calls Try.prog 84 #[.agg #[.int .i64 n, .slice pa (wcount n) ca], .agg #[.int .i64 n, .slice pb (wcount n) cb]] W (RetP W n SQ SR)) := Lib.hid fun W hb => by rw [← hSQ, ← hSR]; exact signed_any (hA.below hb) (hB.below hb) hn
  clear hA hB ra rb hn128 hn hD hQ hR hSQ hSR
  go_enter Try.func50, Try.ntmps50
  go_wp2_with fail
  have hT := (((Tr.nil w).lay 26 [.int .i64 n, .slice pa (wcount n) ca]).lay 26 [.int .i64 n, .slice pb (wcount n) cb]).lay 26 [.int .i64 0, .slice none 0 0]
  simp only [World.size_alloc] at hT
  have HT1 := Lib.hid hT
  clear hT
  generalize ((w.alloc (.cells [Value.int .i64 n, .slice pa (wcount n) ca].toArray 26)).alloc (.cells [Value.int .i64 n, .slice pb (wcount n) cb].toArray 26)).alloc (.cells [Value.int .i64 0, .slice none 0 0].toArray 26) = W at *
  refine (HSplit.out _ HT1.out.bel).mono ?_; rintro e w2 ⟨v4, v5, rfl, hv4, hv5, hb2⟩
  obtain ⟨p4, c4, rfl, _⟩ := hv4.ex
  obtain ⟨p5, c5, rfl, _⟩ := hv5.ex
  have HT2 := Lib.hid (((HT1.out.below hb2).lay 26 [.int .i64 n, .slice p4 (wcount n) c4]).lay 26 [.int .i64 n, .slice p5 (wcount n) c5])
  have hbl : Below w2.heap.size w2 ((w2.alloc (.cells [Value.int .i64 n, .slice p4 (wcount n) c4].toArray 26)).alloc (.cells [Value.int .i64 n, .slice p5 (wcount n) c5].toArray 26)) := (Below.new _ _).alloc (by simp) _
  have HV2 := Lib.hid (And.intro (hv4.below hbl) (hv5.below hbl))
  simp only [World.size_alloc] at HT2
  clear hv4 hv5 hb2 hbl

  go_upto_region 5 with fail
  generalize (w2.alloc (.cells #[Value.int .i64 n, .slice p4 (wcount n) c4] 26)).alloc (.cells #[Value.int .i64 n, .slice p5 (wcount n) c5] 26) = W2 at *
  have c0 := (HT2.out.pr 1 rfl).1
  have c1 := (HT2.out.pr 1 rfl).2
  have r0 := (HT2.out.pr 2 rfl).1
  have r1 := (HT2.out.pr 2 rfl).2
  have f0 := (HT2.out.at 2 rfl).frz 0
  have f1 := (HT2.out.at 2 rfl).frz 1
  go_wp2_with fail
  have HZ := Lib.hid (HT2.out.two 2 (x := .int .i64 n) (y := .slice p4 (wcount n) c4) rfl)
  have e0 := (HZ.out.pr 2 rfl).1
  have e1 := (HZ.out.pr 2 rfl).2
  exact bodyPost_ret (v := .agg #[.int .i64 n, .slice p4 (wcount n) c4]) (by simp [results, Try.results50, go_sem, e0, e1]) rfl ⟨_, rfl, HV2.out.1.two_keep HN.out (HT2.out.at 2 rfl), HZ.out.bel⟩

set_option maxRecDepth 100000 in
set_option maxHeartbeats 8000000 in
theorem divide_4 {w : World} {va vb : Value} {n A B : Nat} (hA : VR w va n A) (hB : VR w vb n B) (hn : 0 < n) :
    Calls Try.prog 50 #[.int .i64 4, va, vb] w (Ret w n (divOp 4 n A B)) := by
  have HA := Lib.hid hA
  have HB := Lib.hid hB
  have HN := Lib.hid hn
  have hn128 := hA.le
  have hni : (n : Int) ≤ 128 := by omega
  obtain ⟨pa, ca, rfl, ra⟩ := hA.ex
  obtain ⟨pb, cb, rfl, rb⟩ := hB.ex
  obtain ⟨Q, hQ⟩ : ∃ Q, divN n A B = Q := ⟨_, rfl⟩
  obtain ⟨R, hR⟩ : ∃ R, A % B = R := ⟨_, rfl⟩
  obtain ⟨SQ, hSQ⟩ : ∃ Q, sdivZ n A B = Q := ⟨_, rfl⟩
  obtain ⟨SR, hSR⟩ : ∃ Q, sremZ n A B = Q := ⟨_, rfl⟩
  have hD : divOp 4 n A B = R := by unfold divOp; simp [hR]
  rw [hD]
  have HSplit : Hid (∀ W, Below w.heap.size w W → Calls Try.prog 83 #[.agg #[.int .i64 n, .slice pa (wcount n) ca], .agg #[.int .i64 n, .slice pb (wcount n) cb]] W (RetP W n Q R)) := Lib.hid fun W hb => by rw [← hQ, ← hR]; exact split_any (hA.below hb) (hB.below hb) hn
  have HSigned : Hid (∀ W, Below w.heap.size w W → Calls Try.prog 84 #[.agg #[.int .i64 n, .slice pa (wcount n) ca], .agg #[.int .i64 n, .slice pb (wcount n) cb]] W (RetP W n SQ SR)) := Lib.hid fun W hb => by rw [← hSQ, ← hSR]; exact signed_any (hA.below hb) (hB.below hb) hn
  clear hA hB ra rb hn128 hn hD hQ hR hSQ hSR
  go_enter Try.func50, Try.ntmps50
  go_wp2_with fail
  have hT := (((Tr.nil w).lay 26 [.int .i64 n, .slice pa (wcount n) ca]).lay 26 [.int .i64 n, .slice pb (wcount n) cb]).lay 26 [.int .i64 0, .slice none 0 0]
  simp only [World.size_alloc] at hT
  have HT1 := Lib.hid hT
  clear hT
  generalize ((w.alloc (.cells [Value.int .i64 n, .slice pa (wcount n) ca].toArray 26)).alloc (.cells [Value.int .i64 n, .slice pb (wcount n) cb].toArray 26)).alloc (.cells [Value.int .i64 0, .slice none 0 0].toArray 26) = W at *
  refine (HSplit.out _ HT1.out.bel).mono ?_; rintro e w2 ⟨v4, v5, rfl, hv4, hv5, hb2⟩
  obtain ⟨p4, c4, rfl, _⟩ := hv4.ex
  obtain ⟨p5, c5, rfl, _⟩ := hv5.ex
  have HT2 := Lib.hid (((HT1.out.below hb2).lay 26 [.int .i64 n, .slice p4 (wcount n) c4]).lay 26 [.int .i64 n, .slice p5 (wcount n) c5])
  have hbl : Below w2.heap.size w2 ((w2.alloc (.cells [Value.int .i64 n, .slice p4 (wcount n) c4].toArray 26)).alloc (.cells [Value.int .i64 n, .slice p5 (wcount n) c5].toArray 26)) := (Below.new _ _).alloc (by simp) _
  have HV2 := Lib.hid (And.intro (hv4.below hbl) (hv5.below hbl))
  simp only [World.size_alloc] at HT2
  clear hv4 hv5 hb2 hbl

  go_upto_region 6 with fail
  generalize (w2.alloc (.cells #[Value.int .i64 n, .slice p4 (wcount n) c4] 26)).alloc (.cells #[Value.int .i64 n, .slice p5 (wcount n) c5] 26) = W2 at *
  have c0 := (HT2.out.pr 0 rfl).1
  have c1 := (HT2.out.pr 0 rfl).2
  have r0 := (HT2.out.pr 2 rfl).1
  have r1 := (HT2.out.pr 2 rfl).2
  have f0 := (HT2.out.at 2 rfl).frz 0
  have f1 := (HT2.out.at 2 rfl).frz 1
  go_wp2_with fail
  have HZ := Lib.hid (HT2.out.two 2 (x := .int .i64 n) (y := .slice p5 (wcount n) c5) rfl)
  have e0 := (HZ.out.pr 2 rfl).1
  have e1 := (HZ.out.pr 2 rfl).2
  exact bodyPost_ret (v := .agg #[.int .i64 n, .slice p5 (wcount n) c5]) (by simp [results, Try.results50, go_sem, e0, e1]) rfl ⟨_, rfl, HV2.out.2.two_keep HN.out (HT2.out.at 2 rfl), HZ.out.bel⟩

set_option maxRecDepth 100000 in
set_option maxHeartbeats 8000000 in
theorem divide_5 {w : World} {va vb : Value} {n A B : Nat} (hA : VR w va n A) (hB : VR w vb n B) (hn : 0 < n) :
    Calls Try.prog 50 #[.int .i64 5, va, vb] w (Ret w n (divOp 5 n A B)) := by
  have HA := Lib.hid hA
  have HB := Lib.hid hB
  have HN := Lib.hid hn
  have hn128 := hA.le
  have hni : (n : Int) ≤ 128 := by omega
  obtain ⟨pa, ca, rfl, ra⟩ := hA.ex
  obtain ⟨pb, cb, rfl, rb⟩ := hB.ex
  obtain ⟨Q, hQ⟩ : ∃ Q, divN n A B = Q := ⟨_, rfl⟩
  obtain ⟨R, hR⟩ : ∃ R, A % B = R := ⟨_, rfl⟩
  obtain ⟨SQ, hSQ⟩ : ∃ Q, sdivZ n A B = Q := ⟨_, rfl⟩
  obtain ⟨SR, hSR⟩ : ∃ Q, sremZ n A B = Q := ⟨_, rfl⟩
  have hD : divOp 5 n A B = SQ := by unfold divOp; simp [hSQ]
  rw [hD]
  have HSplit : Hid (∀ W, Below w.heap.size w W → Calls Try.prog 83 #[.agg #[.int .i64 n, .slice pa (wcount n) ca], .agg #[.int .i64 n, .slice pb (wcount n) cb]] W (RetP W n Q R)) := Lib.hid fun W hb => by rw [← hQ, ← hR]; exact split_any (hA.below hb) (hB.below hb) hn
  have HSigned : Hid (∀ W, Below w.heap.size w W → Calls Try.prog 84 #[.agg #[.int .i64 n, .slice pa (wcount n) ca], .agg #[.int .i64 n, .slice pb (wcount n) cb]] W (RetP W n SQ SR)) := Lib.hid fun W hb => by rw [← hSQ, ← hSR]; exact signed_any (hA.below hb) (hB.below hb) hn
  clear hA hB ra rb hn128 hn hD hQ hR hSQ hSR
  go_enter Try.func50, Try.ntmps50
  go_wp2_with fail
  have hT := (((Tr.nil w).lay 26 [.int .i64 n, .slice pa (wcount n) ca]).lay 26 [.int .i64 n, .slice pb (wcount n) cb]).lay 26 [.int .i64 0, .slice none 0 0]
  simp only [World.size_alloc] at hT
  have HT1 := Lib.hid hT
  clear hT
  generalize ((w.alloc (.cells [Value.int .i64 n, .slice pa (wcount n) ca].toArray 26)).alloc (.cells [Value.int .i64 n, .slice pb (wcount n) cb].toArray 26)).alloc (.cells [Value.int .i64 0, .slice none 0 0].toArray 26) = W at *
  refine (HSplit.out _ HT1.out.bel).mono ?_; rintro e w2 ⟨v4, v5, rfl, hv4, hv5, hb2⟩
  obtain ⟨p4, c4, rfl, _⟩ := hv4.ex
  obtain ⟨p5, c5, rfl, _⟩ := hv5.ex
  have HT2 := Lib.hid (((HT1.out.below hb2).lay 26 [.int .i64 n, .slice p4 (wcount n) c4]).lay 26 [.int .i64 n, .slice p5 (wcount n) c5])
  have hbl : Below w2.heap.size w2 ((w2.alloc (.cells [Value.int .i64 n, .slice p4 (wcount n) c4].toArray 26)).alloc (.cells [Value.int .i64 n, .slice p5 (wcount n) c5].toArray 26)) := (Below.new _ _).alloc (by simp) _
  have HV2 := Lib.hid (And.intro (hv4.below hbl) (hv5.below hbl))
  simp only [World.size_alloc] at HT2
  clear hv4 hv5 hb2 hbl

  have a0 := (HT2.out.pr 4 rfl).1
  have a1 := (HT2.out.pr 4 rfl).2
  have b0 := (HT2.out.pr 3 rfl).1
  have b1 := (HT2.out.pr 3 rfl).2
  go_wp2_with fail
  generalize (w2.alloc (.cells #[Value.int .i64 n, .slice p4 (wcount n) c4] 26)).alloc (.cells #[Value.int .i64 n, .slice p5 (wcount n) c5] 26) = W2 at *
  refine (HSigned.out _ HT2.out.bel).mono ?_; rintro e w3 ⟨v6, v7, rfl, hv6, hv7, hb3⟩
  obtain ⟨p6, c6, rfl, _⟩ := hv6.ex
  obtain ⟨p7, c7, rfl, _⟩ := hv7.ex
  have HT3 := Lib.hid (HT2.out.below hb3)
  have HV3 := Lib.hid (And.intro hv6 hv7)
  clear hv6 hv7 hb3 a0 a1 b0 b1
  have r30 := (HT3.out.pr 1 rfl).1
  have r31 := (HT3.out.pr 1 rfl).2
  have f30 := (HT3.out.at 1 rfl).frz 0
  have f31 := (HT3.out.at 1 rfl).frz 1
  have HT4 := Lib.hid (HT3.out.two 1 (x := .int .i64 n) (y := .slice p6 (wcount n) c6) rfl)
  have r40 := (HT4.out.pr 0 rfl).1
  have r41 := (HT4.out.pr 0 rfl).2
  have f40 := (HT4.out.at 0 rfl).frz 0
  have f41 := (HT4.out.at 0 rfl).frz 1
  have HT5 := Lib.hid (HT4.out.two 0 (x := .int .i64 n) (y := .slice p7 (wcount n) c7) rfl)
  have v1 := (HV3.out.1.two_keep HN.out (HT3.out.at 1 rfl) (x1 := .int .i64 n) (y1 := .slice p6 (wcount n) c6)).two_keep HN.out (HT4.out.at 0 rfl) (x1 := .int .i64 n) (y1 := .slice p7 (wcount n) c7)
  have v2 := (HV3.out.2.two_keep HN.out (HT3.out.at 1 rfl) (x1 := .int .i64 n) (y1 := .slice p6 (wcount n) c6)).two_keep HN.out (HT4.out.at 0 rfl) (x1 := .int .i64 n) (y1 := .slice p7 (wcount n) c7)
  have HV5 := Lib.hid (And.intro v1 v2)
  clear v1 v2
  go_upto_region 5 with fail
  generalize (((w3.setCell ⟨w2.heap.size, 0, none⟩ (.int .i64 n)).setCell ⟨w2.heap.size, 1, none⟩ (.slice p6 (wcount n) c6)).setCell ⟨w2.heap.size + 1, 0, none⟩ (.int .i64 n)).setCell ⟨w2.heap.size + 1, 1, none⟩ (.slice p7 (wcount n) c7) = W5 at *
  clear r30 r31 f30 f31 r40 r41 f40 f41
  have c0 := (HT5.out.pr 1 rfl).1
  have c1 := (HT5.out.pr 1 rfl).2
  have r0 := (HT5.out.pr 2 rfl).1
  have r1 := (HT5.out.pr 2 rfl).2
  have f0 := (HT5.out.at 2 rfl).frz 0
  have f1 := (HT5.out.at 2 rfl).frz 1
  go_wp2_with fail
  have HZ := Lib.hid (HT5.out.two 2 (x := .int .i64 n) (y := .slice p6 (wcount n) c6) rfl)
  have e0 := (HZ.out.pr 2 rfl).1
  have e1 := (HZ.out.pr 2 rfl).2
  exact bodyPost_ret (v := .agg #[.int .i64 n, .slice p6 (wcount n) c6]) (by simp [results, Try.results50, go_sem, e0, e1]) rfl ⟨_, rfl, HV5.out.1.two_keep HN.out (HT5.out.at 2 rfl), HZ.out.bel⟩

set_option maxRecDepth 100000 in
set_option maxHeartbeats 8000000 in
theorem divide_6 {w : World} {va vb : Value} {n A B : Nat} (hA : VR w va n A) (hB : VR w vb n B) (hn : 0 < n) :
    Calls Try.prog 50 #[.int .i64 6, va, vb] w (Ret w n (divOp 6 n A B)) := by
  have HA := Lib.hid hA
  have HB := Lib.hid hB
  have HN := Lib.hid hn
  have hn128 := hA.le
  have hni : (n : Int) ≤ 128 := by omega
  obtain ⟨pa, ca, rfl, ra⟩ := hA.ex
  obtain ⟨pb, cb, rfl, rb⟩ := hB.ex
  obtain ⟨Q, hQ⟩ : ∃ Q, divN n A B = Q := ⟨_, rfl⟩
  obtain ⟨R, hR⟩ : ∃ R, A % B = R := ⟨_, rfl⟩
  obtain ⟨SQ, hSQ⟩ : ∃ Q, sdivZ n A B = Q := ⟨_, rfl⟩
  obtain ⟨SR, hSR⟩ : ∃ Q, sremZ n A B = Q := ⟨_, rfl⟩
  have hD : divOp 6 n A B = SR := by unfold divOp; simp [hSR]
  rw [hD]
  have HSplit : Hid (∀ W, Below w.heap.size w W → Calls Try.prog 83 #[.agg #[.int .i64 n, .slice pa (wcount n) ca], .agg #[.int .i64 n, .slice pb (wcount n) cb]] W (RetP W n Q R)) := Lib.hid fun W hb => by rw [← hQ, ← hR]; exact split_any (hA.below hb) (hB.below hb) hn
  have HSigned : Hid (∀ W, Below w.heap.size w W → Calls Try.prog 84 #[.agg #[.int .i64 n, .slice pa (wcount n) ca], .agg #[.int .i64 n, .slice pb (wcount n) cb]] W (RetP W n SQ SR)) := Lib.hid fun W hb => by rw [← hSQ, ← hSR]; exact signed_any (hA.below hb) (hB.below hb) hn
  clear hA hB ra rb hn128 hn hD hQ hR hSQ hSR
  go_enter Try.func50, Try.ntmps50
  go_wp2_with fail
  have hT := (((Tr.nil w).lay 26 [.int .i64 n, .slice pa (wcount n) ca]).lay 26 [.int .i64 n, .slice pb (wcount n) cb]).lay 26 [.int .i64 0, .slice none 0 0]
  simp only [World.size_alloc] at hT
  have HT1 := Lib.hid hT
  clear hT
  generalize ((w.alloc (.cells [Value.int .i64 n, .slice pa (wcount n) ca].toArray 26)).alloc (.cells [Value.int .i64 n, .slice pb (wcount n) cb].toArray 26)).alloc (.cells [Value.int .i64 0, .slice none 0 0].toArray 26) = W at *
  refine (HSplit.out _ HT1.out.bel).mono ?_; rintro e w2 ⟨v4, v5, rfl, hv4, hv5, hb2⟩
  obtain ⟨p4, c4, rfl, _⟩ := hv4.ex
  obtain ⟨p5, c5, rfl, _⟩ := hv5.ex
  have HT2 := Lib.hid (((HT1.out.below hb2).lay 26 [.int .i64 n, .slice p4 (wcount n) c4]).lay 26 [.int .i64 n, .slice p5 (wcount n) c5])
  have hbl : Below w2.heap.size w2 ((w2.alloc (.cells [Value.int .i64 n, .slice p4 (wcount n) c4].toArray 26)).alloc (.cells [Value.int .i64 n, .slice p5 (wcount n) c5].toArray 26)) := (Below.new _ _).alloc (by simp) _
  have HV2 := Lib.hid (And.intro (hv4.below hbl) (hv5.below hbl))
  simp only [World.size_alloc] at HT2
  clear hv4 hv5 hb2 hbl

  have a0 := (HT2.out.pr 4 rfl).1
  have a1 := (HT2.out.pr 4 rfl).2
  have b0 := (HT2.out.pr 3 rfl).1
  have b1 := (HT2.out.pr 3 rfl).2
  go_wp2_with fail
  generalize (w2.alloc (.cells #[Value.int .i64 n, .slice p4 (wcount n) c4] 26)).alloc (.cells #[Value.int .i64 n, .slice p5 (wcount n) c5] 26) = W2 at *
  refine (HSigned.out _ HT2.out.bel).mono ?_; rintro e w3 ⟨v6, v7, rfl, hv6, hv7, hb3⟩
  obtain ⟨p6, c6, rfl, _⟩ := hv6.ex
  obtain ⟨p7, c7, rfl, _⟩ := hv7.ex
  have HT3 := Lib.hid (HT2.out.below hb3)
  have HV3 := Lib.hid (And.intro hv6 hv7)
  clear hv6 hv7 hb3 a0 a1 b0 b1
  have r30 := (HT3.out.pr 1 rfl).1
  have r31 := (HT3.out.pr 1 rfl).2
  have f30 := (HT3.out.at 1 rfl).frz 0
  have f31 := (HT3.out.at 1 rfl).frz 1
  have HT4 := Lib.hid (HT3.out.two 1 (x := .int .i64 n) (y := .slice p6 (wcount n) c6) rfl)
  have r40 := (HT4.out.pr 0 rfl).1
  have r41 := (HT4.out.pr 0 rfl).2
  have f40 := (HT4.out.at 0 rfl).frz 0
  have f41 := (HT4.out.at 0 rfl).frz 1
  have HT5 := Lib.hid (HT4.out.two 0 (x := .int .i64 n) (y := .slice p7 (wcount n) c7) rfl)
  have v1 := (HV3.out.1.two_keep HN.out (HT3.out.at 1 rfl) (x1 := .int .i64 n) (y1 := .slice p6 (wcount n) c6)).two_keep HN.out (HT4.out.at 0 rfl) (x1 := .int .i64 n) (y1 := .slice p7 (wcount n) c7)
  have v2 := (HV3.out.2.two_keep HN.out (HT3.out.at 1 rfl) (x1 := .int .i64 n) (y1 := .slice p6 (wcount n) c6)).two_keep HN.out (HT4.out.at 0 rfl) (x1 := .int .i64 n) (y1 := .slice p7 (wcount n) c7)
  have HV5 := Lib.hid (And.intro v1 v2)
  clear v1 v2
  go_upto_region 6 with fail
  generalize (((w3.setCell ⟨w2.heap.size, 0, none⟩ (.int .i64 n)).setCell ⟨w2.heap.size, 1, none⟩ (.slice p6 (wcount n) c6)).setCell ⟨w2.heap.size + 1, 0, none⟩ (.int .i64 n)).setCell ⟨w2.heap.size + 1, 1, none⟩ (.slice p7 (wcount n) c7) = W5 at *
  clear r30 r31 f30 f31 r40 r41 f40 f41
  have c0 := (HT5.out.pr 0 rfl).1
  have c1 := (HT5.out.pr 0 rfl).2
  have r0 := (HT5.out.pr 2 rfl).1
  have r1 := (HT5.out.pr 2 rfl).2
  have f0 := (HT5.out.at 2 rfl).frz 0
  have f1 := (HT5.out.at 2 rfl).frz 1
  go_wp2_with fail
  have HZ := Lib.hid (HT5.out.two 2 (x := .int .i64 n) (y := .slice p7 (wcount n) c7) rfl)
  have e0 := (HZ.out.pr 2 rfl).1
  have e1 := (HZ.out.pr 2 rfl).2
  exact bodyPost_ret (v := .agg #[.int .i64 n, .slice p7 (wcount n) c7]) (by simp [results, Try.results50, go_sem, e0, e1]) rfl ⟨_, rfl, HV5.out.2.two_keep HN.out (HT5.out.at 2 rfl), HZ.out.bel⟩
end Go.Proofs.Ytmimafbedbohiaa
