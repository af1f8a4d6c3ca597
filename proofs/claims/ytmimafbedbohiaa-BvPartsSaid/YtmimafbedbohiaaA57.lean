import Derived.Test.YtmimafbedbohiaaA56
import Derived.Test.YtmimafbedbohiaaB9
namespace Go.Proofs.Ytmimafbedbohiaa
set_option linter.unusedVariables false
open Go.RowKit

/-- a vector and an error are returned -/
def RetX (w : World) (n x : Nat) (err : Int) (e : Ending) (w' : World) : Prop := ∃ v, e = .returned (.tuple #[v, .int .i64 err]) ∧ VR w' v n x ∧ Below w.heap.size w w'
theorem RetE.x {w : World} {n x : Nat} {err : Int} {e : Ending} {w' : World} (h : RetE w n x err e w') : RetX w n x err e w' := ⟨h.choose, h.choose_spec.1, h.choose_spec.2.1, h.choose_spec.2.2.1⟩
theorem VR.box_ne0 {w : World} {p q : Option Addr} {c n x L t m d : Nat} {a : Int} (h : VR w (.agg #[.int .i64 n, .slice p (wcount n) c]) n x) (hn : 0 < n) (hk : Blk w L t [.int .i64 a, .slice q m d]) : ∀ b o, p = some ⟨b, o, none⟩ → b ≠ L := h.box_ne hn hk

set_option maxRecDepth 100000 in
set_option maxHeartbeats 4000000 in
theorem bin_3 {w : World} {va vb : Value} {n A B : Nat} (hA : VR w va n A) (hB : VR w vb n B) (hn : 0 < n) :
    Calls Try.prog 15 #[.int .i64 3, va, vb] w (RetX w n (divOp 3 n A B) 0) := by
  have HN := Lib.hid hn
  have hni : (n : Int) ≤ 128 := by have := hA.le; omega
  have hn0 : ((n : Int) == 0) = false := by simp; omega
  obtain ⟨pa, ca, rfl, _⟩ := hA.ex
  obtain ⟨pb, cb, rfl, _⟩ := hB.ex
  obtain ⟨Q, hQ⟩ : ∃ Q, divOp 3 n A B = Q := ⟨_, rfl⟩
  have HC : Hid (∀ w', Below w.heap.size w w' → Calls Try.prog 50 #[.int .i64 3, .agg #[.int .i64 n, .slice pa (wcount n) ca], .agg #[.int .i64 n, .slice pb (wcount n) cb]] w' (Ret w' n Q)) := Lib.hid fun w' hb => by rw [← hQ]; exact divide_3 (hA.below hb) (hB.below hb) hn
  rw [hQ]
  clear hA hB hn hQ
  go_enter Try.func15, Try.ntmps15
  go_wp2_with fail
  have hT := (((Tr.nil w).lay 26 [.int .i64 n, .slice pa (wcount n) ca]).lay 26 [.int .i64 n, .slice pb (wcount n) cb]).lay 26 [.int .i64 0, .slice none 0 0]
  simp only [World.size_alloc] at hT
  generalize ((w.alloc (.cells [Value.int .i64 n, .slice pa (wcount n) ca].toArray 26)).alloc (.cells [Value.int .i64 n, .slice pb (wcount n) cb].toArray 26)).alloc (.cells [Value.int .i64 0, .slice none 0 0].toArray 26) = W at *
  have HT := Lib.hid hT
  clear hT
  refine (HC.out _ HT.out.bel).mono ?_; rintro e w2 ⟨v2, rfl, hv2, hb2⟩
  obtain ⟨p2, c2, rfl, _⟩ := hv2.ex
  have HT2 := Lib.hid (HT.out.below hb2)
  have HV2 := Lib.hid hv2
  have r0 := (HT2.out.pr 0 rfl).1
  have r1 := (HT2.out.pr 0 rfl).2
  have f0 := (HT2.out.at 0 rfl).frz 0
  have f1 := (HT2.out.at 0 rfl).frz 1
  clear hv2 hb2
  go_wp2_with fail
  have HT3 := Lib.hid (HT2.out.two 0 (x := .int .i64 n) (y := .slice p2 (wcount n) c2) rfl)
  have e0 := (HT3.out.pr 0 rfl).1
  have e1 := (HT3.out.pr 0 rfl).2
  exact bodyPost_ret (v := .tuple #[.agg #[.int .i64 n, .slice p2 (wcount n) c2], .int .i64 0]) (by simp [results, Try.results15, go_sem, e0, e1]) rfl ⟨_, rfl, HV2.out.two_keep HN.out (HT2.out.at 0 rfl), HT3.out.bel⟩

set_option maxRecDepth 100000 in
set_option maxHeartbeats 4000000 in
theorem bin_4 {w : World} {va vb : Value} {n A B : Nat} (hA : VR w va n A) (hB : VR w vb n B) (hn : 0 < n) :
    Calls Try.prog 15 #[.int .i64 4, va, vb] w (RetX w n (divOp 4 n A B) 0) := by
  have HN := Lib.hid hn
  have hni : (n : Int) ≤ 128 := by have := hA.le; omega
  have hn0 : ((n : Int) == 0) = false := by simp; omega
  obtain ⟨pa, ca, rfl, _⟩ := hA.ex
  obtain ⟨pb, cb, rfl, _⟩ := hB.ex
  obtain ⟨Q, hQ⟩ : ∃ Q, divOp 4 n A B = Q := ⟨_, rfl⟩
  have HC : Hid (∀ w', Below w.heap.size w w' → Calls Try.prog 50 #[.int .i64 4, .agg #[.int .i64 n, .slice pa (wcount n) ca], .agg #[.int .i64 n, .slice pb (wcount n) cb]] w' (Ret w' n Q)) := Lib.hid fun w' hb => by rw [← hQ]; exact divide_4 (hA.below hb) (hB.below hb) hn
  rw [hQ]
  clear hA hB hn hQ
  go_enter Try.func15, Try.ntmps15
  go_wp2_with fail
  have hT := (((Tr.nil w).lay 26 [.int .i64 n, .slice pa (wcount n) ca]).lay 26 [.int .i64 n, .slice pb (wcount n) cb]).lay 26 [.int .i64 0, .slice none 0 0]
  simp only [World.size_alloc] at hT
  generalize ((w.alloc (.cells [Value.int .i64 n, .slice pa (wcount n) ca].toArray 26)).alloc (.cells [Value.int .i64 n, .slice pb (wcount n) cb].toArray 26)).alloc (.cells [Value.int .i64 0, .slice none 0 0].toArray 26) = W at *
  have HT := Lib.hid hT
  clear hT
  refine (HC.out _ HT.out.bel).mono ?_; rintro e w2 ⟨v2, rfl, hv2, hb2⟩
  obtain ⟨p2, c2, rfl, _⟩ := hv2.ex
  have HT2 := Lib.hid (HT.out.below hb2)
  have HV2 := Lib.hid hv2
  have r0 := (HT2.out.pr 0 rfl).1
  have r1 := (HT2.out.pr 0 rfl).2
  have f0 := (HT2.out.at 0 rfl).frz 0
  have f1 := (HT2.out.at 0 rfl).frz 1
  clear hv2 hb2
  go_wp2_with fail
  have HT3 := Lib.hid (HT2.out.two 0 (x := .int .i64 n) (y := .slice p2 (wcount n) c2) rfl)
  have e0 := (HT3.out.pr 0 rfl).1
  have e1 := (HT3.out.pr 0 rfl).2
  exact bodyPost_ret (v := .tuple #[.agg #[.int .i64 n, .slice p2 (wcount n) c2], .int .i64 0]) (by simp [results, Try.results15, go_sem, e0, e1]) rfl ⟨_, rfl, HV2.out.two_keep HN.out (HT2.out.at 0 rfl), HT3.out.bel⟩

set_option maxRecDepth 100000 in
set_option maxHeartbeats 4000000 in
theorem bin_5 {w : World} {va vb : Value} {n A B : Nat} (hA : VR w va n A) (hB : VR w vb n B) (hn : 0 < n) :
    Calls Try.prog 15 #[.int .i64 5, va, vb] w (RetX w n (divOp 5 n A B) 0) := by
  have HN := Lib.hid hn
  have hni : (n : Int) ≤ 128 := by have := hA.le; omega
  have hn0 : ((n : Int) == 0) = false := by simp; omega
  obtain ⟨pa, ca, rfl, _⟩ := hA.ex
  obtain ⟨pb, cb, rfl, _⟩ := hB.ex
  obtain ⟨Q, hQ⟩ : ∃ Q, divOp 5 n A B = Q := ⟨_, rfl⟩
  have HC : Hid (∀ w', Below w.heap.size w w' → Calls Try.prog 50 #[.int .i64 5, .agg #[.int .i64 n, .slice pa (wcount n) ca], .agg #[.int .i64 n, .slice pb (wcount n) cb]] w' (Ret w' n Q)) := Lib.hid fun w' hb => by rw [← hQ]; exact divide_5 (hA.below hb) (hB.below hb) hn
  rw [hQ]
  clear hA hB hn hQ
  go_enter Try.func15, Try.ntmps15
  go_wp2_with fail
  have hT := (((Tr.nil w).lay 26 [.int .i64 n, .slice pa (wcount n) ca]).lay 26 [.int .i64 n, .slice pb (wcount n) cb]).lay 26 [.int .i64 0, .slice none 0 0]
  simp only [World.size_alloc] at hT
  generalize ((w.alloc (.cells [Value.int .i64 n, .slice pa (wcount n) ca].toArray 26)).alloc (.cells [Value.int .i64 n, .slice pb (wcount n) cb].toArray 26)).alloc (.cells [Value.int .i64 0, .slice none 0 0].toArray 26) = W at *
  have HT := Lib.hid hT
  clear hT
  refine (HC.out _ HT.out.bel).mono ?_; rintro e w2 ⟨v2, rfl, hv2, hb2⟩
  obtain ⟨p2, c2, rfl, _⟩ := hv2.ex
  have HT2 := Lib.hid (HT.out.below hb2)
  have HV2 := Lib.hid hv2
  have r0 := (HT2.out.pr 0 rfl).1
  have r1 := (HT2.out.pr 0 rfl).2
  have f0 := (HT2.out.at 0 rfl).frz 0
  have f1 := (HT2.out.at 0 rfl).frz 1
  clear hv2 hb2
  go_wp2_with fail
  have HT3 := Lib.hid (HT2.out.two 0 (x := .int .i64 n) (y := .slice p2 (wcount n) c2) rfl)
  have e0 := (HT3.out.pr 0 rfl).1
  have e1 := (HT3.out.pr 0 rfl).2
  exact bodyPost_ret (v := .tuple #[.agg #[.int .i64 n, .slice p2 (wcount n) c2], .int .i64 0]) (by simp [results, Try.results15, go_sem, e0, e1]) rfl ⟨_, rfl, HV2.out.two_keep HN.out (HT2.out.at 0 rfl), HT3.out.bel⟩

set_option maxRecDepth 100000 in
set_option maxHeartbeats 4000000 in
theorem bin_6 {w : World} {va vb : Value} {n A B : Nat} (hA : VR w va n A) (hB : VR w vb n B) (hn : 0 < n) :
    Calls Try.prog 15 #[.int .i64 6, va, vb] w (RetX w n (divOp 6 n A B) 0) := by
  have HN := Lib.hid hn
  have hni : (n : Int) ≤ 128 := by have := hA.le; omega
  have hn0 : ((n : Int) == 0) = false := by simp; omega
  obtain ⟨pa, ca, rfl, _⟩ := hA.ex
  obtain ⟨pb, cb, rfl, _⟩ := hB.ex
  obtain ⟨Q, hQ⟩ : ∃ Q, divOp 6 n A B = Q := ⟨_, rfl⟩
  have HC : Hid (∀ w', Below w.heap.size w w' → Calls Try.prog 50 #[.int .i64 6, .agg #[.int .i64 n, .slice pa (wcount n) ca], .agg #[.int .i64 n, .slice pb (wcount n) cb]] w' (Ret w' n Q)) := Lib.hid fun w' hb => by rw [← hQ]; exact divide_6 (hA.below hb) (hB.below hb) hn
  rw [hQ]
  clear hA hB hn hQ
  go_enter Try.func15, Try.ntmps15
  go_wp2_with fail
  have hT := (((Tr.nil w).lay 26 [.int .i64 n, .slice pa (wcount n) ca]).lay 26 [.int .i64 n, .slice pb (wcount n) cb]).lay 26 [.int .i64 0, .slice none 0 0]
  simp only [World.size_alloc] at hT
  generalize ((w.alloc (.cells [Value.int .i64 n, .slice pa (wcount n) ca].toArray 26)).alloc (.cells [Value.int .i64 n, .slice pb (wcount n) cb].toArray 26)).alloc (.cells [Value.int .i64 0, .slice none 0 0].toArray 26) = W at *
  have HT := Lib.hid hT
  clear hT
  refine (HC.out _ HT.out.bel).mono ?_; rintro e w2 ⟨v2, rfl, hv2, hb2⟩
  obtain ⟨p2, c2, rfl, _⟩ := hv2.ex
  have HT2 := Lib.hid (HT.out.below hb2)
  have HV2 := Lib.hid hv2
  have r0 := (HT2.out.pr 0 rfl).1
  have r1 := (HT2.out.pr 0 rfl).2
  have f0 := (HT2.out.at 0 rfl).frz 0
  have f1 := (HT2.out.at 0 rfl).frz 1
  clear hv2 hb2
  go_wp2_with fail
  have HT3 := Lib.hid (HT2.out.two 0 (x := .int .i64 n) (y := .slice p2 (wcount n) c2) rfl)
  have e0 := (HT3.out.pr 0 rfl).1
  have e1 := (HT3.out.pr 0 rfl).2
  exact bodyPost_ret (v := .tuple #[.agg #[.int .i64 n, .slice p2 (wcount n) c2], .int .i64 0]) (by simp [results, Try.results15, go_sem, e0, e1]) rfl ⟨_, rfl, HV2.out.two_keep HN.out (HT2.out.at 0 rfl), HT3.out.bel⟩

set_option maxRecDepth 100000 in
set_option maxHeartbeats 4000000 in
theorem un_2 {w : World} {va : Value} {n A : Nat} (hA : VR w va n A) (hn : 0 < n) :
    Calls Try.prog 33 #[.int .i64 2, va] w (RetE w 1 (b2n (!nz (notN n A))) 0) := by
  have HA := Lib.hid hA
  have hni : (n : Int) ≤ 128 := by have := hA.le; omega
  have hn0 : ((n : Int) == 0) = false := by simp; omega
  obtain ⟨pa, ca, rfl, _⟩ := hA.ex
  have HTr := Lib.hid (fun w q => truth_any (w := w) q)
  have HNt : Hid (∀ w', Below w.heap.size w w' → Calls Try.prog 48 #[.agg #[.int .i64 n, .slice pa (wcount n) ca]] w' (Fresh w' n (notN n A))) := Lib.hid fun w' hb => not_any (hA.below hb) hn
  clear hA hn
  go_enter Try.func33, Try.ntmps33
  go_wp2_with fail
  have hT := ((Tr.nil w).lay 26 [.int .i64 n, .slice pa (wcount n) ca]).lay 26 [.int .i64 0, .slice none 0 0]
  simp only [World.size_alloc] at hT
  generalize (w.alloc (.cells [Value.int .i64 n, .slice pa (wcount n) ca].toArray 26)).alloc (.cells [Value.int .i64 0, .slice none 0 0].toArray 26) = W at *
  have HT := Lib.hid hT
  clear hT
  refine (HNt.out _ HT.out.bel).mono ?_; rintro e w1 ⟨v1, b1, rfl, hv1, hge1, hb1⟩
  obtain rfl := hv1.e
  have HT1 := Lib.hid (HT.out.below hb1)
  have HV1 := Lib.hid (any_any (hv1.vr (notN_lt _ _)))
  clear hv1 hge1 hb1
  generalize nz (notN n A) = q at *
  go_wp2_with fail
  refine HV1.out.mono ?_; rintro e w1b ⟨rfl, hb1⟩
  have HT1 := Lib.hid (HT1.out.below hb1)
  clear hb1
  go_wp2_with fail
  refine (HTr.out _ _).mono ?_; rintro e w2 ⟨v2, b2, rfl, hv2, hge2, hb2⟩
  obtain rfl := hv2.e
  have HT2 := Lib.hid (HT1.out.cons hb2 hv2.blk hge2)
  have HL := Lib.hid hv2.lt
  have r0 := (HT2.out.pr 1 rfl).1
  have r1 := (HT2.out.pr 1 rfl).2
  have f0 := (HT2.out.at 1 rfl).frz 0
  have f1 := (HT2.out.at 1 rfl).frz 1
  clear hv2 hge2 hb2
  go_wp2_with fail
  have HT3 := Lib.hid (HT2.out.two 1 (x := .int .i64 1) (y := .slice (some ⟨b2, 0, none⟩) (wcount 1) (wcount 1)) rfl)
  have e0 := (HT3.out.pr 1 rfl).1
  have e1 := (HT3.out.pr 1 rfl).2
  exact bodyPost_ret (v := .tuple #[vecO 1 b2, .int .i64 0]) (by simp [results, Try.results33, go_sem, e0, e1, vecO]) rfl ⟨_, rfl, (HT3.out.vo 0 rfl HL.out (by decide)).vr (b2n_lt _), HT3.out.bel, Far.vec (HT3.out.far 0 rfl)⟩

set_option maxRecDepth 100000 in
set_option maxHeartbeats 4000000 in
theorem un_3 {w : World} {va : Value} {n A : Nat} (hA : VR w va n A) (hn : 0 < n) :
    Calls Try.prog 33 #[.int .i64 3, va] w (RetE w 1 (b2n (nz A)) 0) := by
  have HA := Lib.hid hA
  have hni : (n : Int) ≤ 128 := by have := hA.le; omega
  have hn0 : ((n : Int) == 0) = false := by simp; omega
  obtain ⟨pa, ca, rfl, _⟩ := hA.ex
  have HTr := Lib.hid (fun w q => truth_any (w := w) q)
  have HAny : Hid (∀ w', Below w.heap.size w w' → Calls Try.prog 74 #[.agg #[.int .i64 n, .slice pa (wcount n) ca]] w' fun e w'' => e = .returned (.bool (nz A)) ∧ Below w'.heap.size w' w'') := Lib.hid fun w' hb => any_any (hA.below hb)
  clear hA hn
  go_enter Try.func33, Try.ntmps33
  go_wp2_with fail
  have hT := ((Tr.nil w).lay 26 [.int .i64 n, .slice pa (wcount n) ca]).lay 26 [.int .i64 0, .slice none 0 0]
  simp only [World.size_alloc] at hT
  generalize (w.alloc (.cells [Value.int .i64 n, .slice pa (wcount n) ca].toArray 26)).alloc (.cells [Value.int .i64 0, .slice none 0 0].toArray 26) = W at *
  have HT := Lib.hid hT
  clear hT
  generalize nz A = q at *
  refine (HAny.out _ HT.out.bel).mono ?_; rintro e w1 ⟨rfl, hb1⟩
  have HT1 := Lib.hid (HT.out.below hb1)
  clear hb1
  go_wp2_with fail
  refine (HTr.out _ _).mono ?_; rintro e w2 ⟨v2, b2, rfl, hv2, hge2, hb2⟩
  obtain rfl := hv2.e
  have HT2 := Lib.hid (HT1.out.cons hb2 hv2.blk hge2)
  have HL := Lib.hid hv2.lt
  have r0 := (HT2.out.pr 1 rfl).1
  have r1 := (HT2.out.pr 1 rfl).2
  have f0 := (HT2.out.at 1 rfl).frz 0
  have f1 := (HT2.out.at 1 rfl).frz 1
  clear hv2 hge2 hb2
  go_wp2_with fail
  have HT3 := Lib.hid (HT2.out.two 1 (x := .int .i64 1) (y := .slice (some ⟨b2, 0, none⟩) (wcount 1) (wcount 1)) rfl)
  have e0 := (HT3.out.pr 1 rfl).1
  have e1 := (HT3.out.pr 1 rfl).2
  exact bodyPost_ret (v := .tuple #[vecO 1 b2, .int .i64 0]) (by simp [results, Try.results33, go_sem, e0, e1, vecO]) rfl ⟨_, rfl, (HT3.out.vo 0 rfl HL.out (by decide)).vr (b2n_lt _), HT3.out.bel, Far.vec (HT3.out.far 0 rfl)⟩

set_option maxRecDepth 100000 in
set_option maxHeartbeats 4000000 in
theorem un_5 {w : World} {va : Value} {n A : Nat} (hA : VR w va n A) (hn : 0 < n) :
    Calls Try.prog 33 #[.int .i64 5, va] w (RetE w 1 (b2n (!nz A)) 0) := by
  have HA := Lib.hid hA
  have hni : (n : Int) ≤ 128 := by have := hA.le; omega
  have hn0 : ((n : Int) == 0) = false := by simp; omega
  obtain ⟨pa, ca, rfl, _⟩ := hA.ex
  have HTr := Lib.hid (fun w q => truth_any (w := w) q)
  have HAny : Hid (∀ w', Below w.heap.size w w' → Calls Try.prog 74 #[.agg #[.int .i64 n, .slice pa (wcount n) ca]] w' fun e w'' => e = .returned (.bool (nz A)) ∧ Below w'.heap.size w' w'') := Lib.hid fun w' hb => any_any (hA.below hb)
  clear hA hn
  go_enter Try.func33, Try.ntmps33
  go_wp2_with fail
  have hT := ((Tr.nil w).lay 26 [.int .i64 n, .slice pa (wcount n) ca]).lay 26 [.int .i64 0, .slice none 0 0]
  simp only [World.size_alloc] at hT
  generalize (w.alloc (.cells [Value.int .i64 n, .slice pa (wcount n) ca].toArray 26)).alloc (.cells [Value.int .i64 0, .slice none 0 0].toArray 26) = W at *
  have HT := Lib.hid hT
  clear hT
  generalize nz A = q at *
  refine (HAny.out _ HT.out.bel).mono ?_; rintro e w1 ⟨rfl, hb1⟩
  have HT1 := Lib.hid (HT.out.below hb1)
  clear hb1
  go_wp2_with fail
  refine (HTr.out _ _).mono ?_; rintro e w2 ⟨v2, b2, rfl, hv2, hge2, hb2⟩
  obtain rfl := hv2.e
  have HT2 := Lib.hid (HT1.out.cons hb2 hv2.blk hge2)
  have HL := Lib.hid hv2.lt
  have r0 := (HT2.out.pr 1 rfl).1
  have r1 := (HT2.out.pr 1 rfl).2
  have f0 := (HT2.out.at 1 rfl).frz 0
  have f1 := (HT2.out.at 1 rfl).frz 1
  clear hv2 hge2 hb2
  go_wp2_with fail
  have HT3 := Lib.hid (HT2.out.two 1 (x := .int .i64 1) (y := .slice (some ⟨b2, 0, none⟩) (wcount 1) (wcount 1)) rfl)
  have e0 := (HT3.out.pr 1 rfl).1
  have e1 := (HT3.out.pr 1 rfl).2
  exact bodyPost_ret (v := .tuple #[vecO 1 b2, .int .i64 0]) (by simp [results, Try.results33, go_sem, e0, e1, vecO]) rfl ⟨_, rfl, (HT3.out.vo 0 rfl HL.out (by decide)).vr (b2n_lt _), HT3.out.bel, Far.vec (HT3.out.far 0 rfl)⟩

set_option maxRecDepth 100000 in
set_option maxHeartbeats 4000000 in
theorem un_inval {w : World} {va : Value} {n A : Nat} (hA : VR w va n A) (k : Int) (hk : k < 0 ∨ 5 < k) :
    Calls Try.prog 33 #[.int .i64 k, va] w (RetE w 0 0 1) := by
  obtain ⟨pa, ca, rfl, _⟩ := hA.ex
  have hbel : Hid (Below w.heap.size w ((w.alloc (.cells #[.int .i64 n, .slice pa (wcount n) ca] 26)).alloc (.cells #[.int .i64 0, .slice none 0 0] 26))) := Lib.hid ((Below.new _ _).alloc (by simp) _)
  clear hA
  rcases hk with hk | hk
  · go_enter Try.func33, Try.ntmps33
    go_wp2_with fail
    exact bodyPost_ret (v := .tuple #[.agg #[.int .i64 0, .slice none 0 0], .int .i64 1]) (by simp [results, Try.results33, go_sem]) rfl ⟨_, rfl, VR.zero _, hbel.out, Far.zero _ _⟩
  · have h0 : (0 : Int) ≤ k := by omega
    go_enter Try.func33, Try.ntmps33
    go_wp2_with fail
    exact bodyPost_ret (v := .tuple #[.agg #[.int .i64 0, .slice none 0 0], .int .i64 1]) (by simp [results, Try.results33, go_sem]) rfl ⟨_, rfl, VR.zero _, hbel.out, Far.zero _ _⟩
set_option maxRecDepth 100000 in
set_option maxHeartbeats 4000000 in
theorem un_width {w : World} {va : Value} {A : Nat} (hA : VR w va 0 A) (k : Int) (hk : 0 ≤ k ∧ k ≤ 5) :
    Calls Try.prog 33 #[.int .i64 k, va] w (RetE w 0 0 2) := by
  obtain ⟨pa, ca, e, _⟩ := hA.ex
  obtain rfl : va = .agg #[.int .i64 0, .slice pa (wcount 0) ca] := e
  have hbel : Hid (Below w.heap.size w ((w.alloc (.cells #[.int .i64 0, .slice pa (wcount 0) ca] 26)).alloc (.cells #[.int .i64 0, .slice none 0 0] 26))) := Lib.hid ((Below.new _ _).alloc (by simp) _)
  obtain ⟨h0, h5⟩ := hk
  clear hA
  go_enter Try.func33, Try.ntmps33
  go_wp2_with fail
  exact bodyPost_ret (v := .tuple #[.agg #[.int .i64 0, .slice none 0 0], .int .i64 2]) (by simp [results, Try.results33, go_sem]) rfl ⟨_, rfl, VR.zero _, hbel.out, Far.zero _ _⟩
set_option maxRecDepth 100000 in
set_option maxHeartbeats 4000000 in
theorem bin_inval {w : World} {va vb : Value} {n m A B : Nat} (hA : VR w va n A) (hB : VR w vb m B) (k : Int) (hk : k < 0 ∨ 18 < k) :
    Calls Try.prog 15 #[.int .i64 k, va, vb] w (RetE w 0 0 1) := by
  obtain ⟨pa, ca, rfl, _⟩ := hA.ex
  obtain ⟨pb, cb, rfl, _⟩ := hB.ex
  have hbel : Hid (Below w.heap.size w (((w.alloc (.cells #[.int .i64 n, .slice pa (wcount n) ca] 26)).alloc (.cells #[.int .i64 m, .slice pb (wcount m) cb] 26)).alloc (.cells #[.int .i64 0, .slice none 0 0] 26))) := Lib.hid (((Below.new _ _).alloc (by simp) _).alloc (by simp; omega) _)
  clear hA hB
  rcases hk with hk | hk
  · go_enter Try.func15, Try.ntmps15
    go_wp2_with fail
    exact bodyPost_ret (v := .tuple #[.agg #[.int .i64 0, .slice none 0 0], .int .i64 1]) (by simp [results, Try.results15, go_sem]) rfl ⟨_, rfl, VR.zero _, hbel.out, Far.zero _ _⟩
  · have h0 : (0 : Int) ≤ k := by omega
    go_enter Try.func15, Try.ntmps15
    go_wp2_with fail
    exact bodyPost_ret (v := .tuple #[.agg #[.int .i64 0, .slice none 0 0], .int .i64 1]) (by simp [results, Try.results15, go_sem]) rfl ⟨_, rfl, VR.zero _, hbel.out, Far.zero _ _⟩
set_option maxRecDepth 100000 in
set_option maxHeartbeats 4000000 in
theorem bin_width {w : World} {va vb : Value} {n m A B : Nat} (hA : VR w va n A) (hB : VR w vb m B) (k : Int) (hk : 0 ≤ k ∧ k ≤ 18) (hn : n ≠ m ∨ n = 0) :
    Calls Try.prog 15 #[.int .i64 k, va, vb] w (RetE w 0 0 2) := by
  obtain ⟨pa, ca, rfl, _⟩ := hA.ex
  obtain ⟨pb, cb, rfl, _⟩ := hB.ex
  have hbel : Hid (Below w.heap.size w (((w.alloc (.cells #[.int .i64 n, .slice pa (wcount n) ca] 26)).alloc (.cells #[.int .i64 m, .slice pb (wcount m) cb] 26)).alloc (.cells #[.int .i64 0, .slice none 0 0] 26))) := Lib.hid (((Below.new _ _).alloc (by simp) _).alloc (by simp; omega) _)
  obtain ⟨h0, h5⟩ := hk
  clear hA hB
  by_cases hnm : n = m
  · subst hnm
    obtain rfl : n = 0 := by omega
    clear hn
    go_enter Try.func15, Try.ntmps15
    go_wp2_with fail
    exact bodyPost_ret (v := .tuple #[.agg #[.int .i64 0, .slice none 0 0], .int .i64 2]) (by simp [results, Try.results15, go_sem]) rfl ⟨_, rfl, VR.zero _, hbel.out, Far.zero _ _⟩
  · have hb : ((n : Int) == (m : Int)) = false := by simp; omega
    have hb2 : ((n : Int) != (m : Int)) = true := by simp [bne, hb]
    clear hn hnm
    go_enter Try.func15, Try.ntmps15
    go_wp2_with fail
    exact bodyPost_ret (v := .tuple #[.agg #[.int .i64 0, .slice none 0 0], .int .i64 2]) (by simp [results, Try.results15, go_sem]) rfl ⟨_, rfl, VR.zero _, hbel.out, Far.zero _ _⟩
end Go.Proofs.Ytmimafbedbohiaa
