
import Derived.Test.YtcdjkbgedmehjaaGreatDoorVB3
namespace Go.Proofs.YtcdjkbgedmehjaaGreatDoor
set_option linter.unusedVariables false
open Go.RowKit
set_option maxRecDepth 100000 in
set_option maxHeartbeats 2000000 in
theorem eqwords_any {w : World} {va vb : Value} {m A B : Nat} (ra : RO w va 1 m (wordsV m A)) (rb : RO w vb 1 m (wordsV m B)) (hm : m ≤ 100) (hA : A < 2 ^ (64 * m)) (hB : B < 2 ^ (64 * m)) :
    Calls Tryz.prog 51 #[va, vb] w fun e w' => e = .returned (.bool (decide (A = B))) ∧ Below w.heap.size w w' := by
  obtain ⟨pa, ca, rfl⟩ := ra.form
  obtain ⟨pb, cb, rfl⟩ := rb.form
  have hmi : (m : Int) ≤ 100 := by omega
  have HX := Lib.hid (words_ext hA hB)
  have HR := Lib.hid (And.intro ra rb)
  clear ra rb hm hA hB
  go_enter Tryz.func51, Tryz.ntmps51
  go_wp2_with fail
  go_loopw [13] (fun i wr => ∃ k : Nat, k ≤ m ∧ i = .int .i64 k ∧ (∀ j, j < k → word A j = word B j) ∧ Below w.heap.size w wr) (fun i _ => m - (intOf i).toNat)
  case atStart => exact ⟨0, Nat.zero_le _, rfl, fun j hj => absurd hj (Nat.not_lt_zero _), Below.refl _ _⟩
  case round =>
    obtain ⟨k, hk, rfl, hno, hbel⟩ := hrel
    have HN := Lib.hid (And.intro hno hbel)
    by_cases hlt : k < m
    · have ra := HR.out.1.below hbel
      have rb := HR.out.2.below hbel
      obtain ⟨ba, oa, rfl⟩ := ra.sl (wordsV_at hlt)
      obtain ⟨bb, ob, rfl⟩ := rb.sl (wordsV_at hlt)
      have fa := ra.cell (wordsV_at hlt)
      have fb := rb.cell (wordsV_at hlt)
      have hki : (k : Int) < m := by omega
      have HW := Lib.hid (show (fun j => word A j = word B j) k ↔ word A k = word B k from Iff.rfl)
      generalize word A k = wa at *
      generalize word B k = wb at *
      clear hno hbel ra rb
      by_cases hne : wa = wb
      · have hne' : ((wa : Int) != (wb : Int)) = false := by simp [hne]
        have HE := Lib.hid (HW.out.2 hne)
        clear hne
        go_wp2_with fail
        go_quiet (fail)
        go_wp2_with fail
        go_roundw
        case rel => exact ⟨k + 1, by omega, by go_num, fun j hj => by
                      by_cases e : j = k
                      · subst e; exact HE.out
                      · exact HN.out.1 j (by omega), HN.out.2.trans (below_drewN _)⟩
        case measure => simp [intOf]; omega
      · have hne' : ((wa : Int) != (wb : Int)) = true := by simp; omega
        have HE := Lib.hid (fun h => hne (HW.out.1 h))
        clear hne
        go_wp2_with fail
        go_quiet (fail)
        go_wp2_with fail
        go_ret
        have : decide (A = B) = false := by
          rw [decide_eq_false_iff_not]
          intro h
          exact HE.out (by subst h; rfl)
        exact ⟨by rw [this]; rfl, HN.out.2.trans (below_drewN _)⟩
    · obtain rfl : k = m := by omega
      have hAB := HX.out hno
      have HAB := Lib.hid hAB
      clear hno hbel hlt hAB
      go_wp2_with fail
      go_ret
      exact ⟨by rw [decide_eq_true HAB.out]; rfl, HN.out.2⟩
theorem vr64 {w v n x} (h : VR w v n x) : x < 2 ^ (64 * wcount n) := Nat.lt_of_lt_of_le h.lt (Nat.pow_le_pow_right (by decide) (n_le_words n))
set_option maxRecDepth 100000 in
set_option maxHeartbeats 2000000 in
theorem equal_any {w : World} {va vb : Value} {n m A B : Nat} (hA : VR w va n A) (hB : VR w vb m B) : Calls Tryz.prog 22 #[va, vb] w fun e w' => e = .returned (.bool (decide (n = m ∧ A = B))) ∧ Below w.heap.size w w' := by
  have hni : (n : Int) ≤ 128 := by have := hA.le; omega
  have hmi : (m : Int) ≤ 128 := by have := hB.le; omega
  by_cases hnm : n = m
  · subst hnm
    have h1 := vr64 hA
    have h2 := vr64 hB
    obtain ⟨pa, ca, rfl, ra⟩ := hA.ex
    obtain ⟨pb, cb, rfl, rb⟩ := hB.ex
    have hbel : ∀ o1 o2, Below w.heap.size w ((w.alloc o1).alloc o2) := fun o1 o2 => (Below.new _ _).alloc (by simp) _
    have HE := Lib.hid (fun o1 o2 => eqwords_any (ra.below (hbel o1 o2)) (rb.below (hbel o1 o2)) (by unfold wcount; have := hA.le; omega) h1 h2)
    have HB := Lib.hid hbel
    have hd : decide (n = n ∧ A = B) = decide (A = B) := by simp
    rw [hd]
    clear hA hB ra rb h1 h2 hbel hd
    go_enter Tryz.func22, Tryz.ntmps22
    go_wp2_with fail
    refine (HE.out _ _).mono ?_; rintro e w1 ⟨rfl, hb⟩
    have HH := Lib.hid ((HB.out _ _).trans (hb.mono (by simp; omega)))
    clear hb
    go_wp2_with fail
    go_ret
    exact ⟨rfl, HH.out⟩
  · have hd : decide (n = m ∧ A = B) = false := by simp [hnm]
    have hne : ((n : Int) == (m : Int)) = false := by simp; omega
    rw [hd]
    obtain ⟨pa, ca, rfl, ra⟩ := hA.ex
    obtain ⟨pb, cb, rfl, rb⟩ := hB.ex
    clear hA hB ra rb hd hnm
    go_enter Tryz.func22, Tryz.ntmps22
    go_wp2_with fail
    go_ret
    exact ⟨rfl, (Below.new _ _).alloc (by simp) _⟩
end Go.Proofs.YtcdjkbgedmehjaaGreatDoor
namespace Go.Proofs.YtcdjkbgedmehjaaGreatDoor
set_option linter.unusedVariables false
open Go.RowKit
/-- as signed numbers -/
def sltB (n A B : Nat) : Bool := if topB n A != topB n B then topB n A else decide (A < B)
/-- the comparisons -/
def cmpB (op : Nat) (n A B : Nat) : Bool :=
  if op = 13 then decide (A = B) else if op = 14 then !decide (A = B) else if op = 15 then decide (A < B) else if op = 16 then !decide (B < A) else if op = 17 then sltB n A B else !sltB n B A
end Go.Proofs.YtcdjkbgedmehjaaGreatDoor
namespace Go.Proofs.YtcdjkbgedmehjaaGreatDoor
set_option linter.unusedVariables false
open Go.RowKit
/-- without its sign -/
def magN (n A : Nat) : Nat := if topB n A then negN n A else A
theorem magN_lt {n A : Nat} (h : A < 2 ^ n) : magN n A < 2 ^ n := by unfold magN; split; exact negN_lt _ _; exact h
/-- the shifts -/
def shiftN (op n A B : Nat) : Nat := ofB (if op = 10 then upF A (min B n) else downF A n (min B n) (if op = 11 then false else topB n A)) n
theorem shiftN_lt (op n A B : Nat) : shiftN op n A B < 2 ^ n := ofB_lt _ _
end Go.Proofs.YtcdjkbgedmehjaaGreatDoor
namespace Go.Proofs.YtcdjkbgedmehjaaGreatDoor
set_option linter.unusedVariables false
open Go.RowKit
/-- a vector's words lie in no old block -/
def Far (w : World) (v : Value) : Prop := ∀ k p m c b o, v = .agg #[k, .slice p m c] → p = some ⟨b, o, none⟩ → w.heap.size ≤ b
theorem Far.zero (w : World) (k : Value) : Far w (.agg #[k, .slice none 0 0]) := fun _ _ _ _ _ _ e h => by
  simp only [Value.agg.injEq, Array.mk.injEq, List.cons.injEq, Value.slice.injEq] at e
  rw [← e.2.1.1] at h; cases h
theorem Far.vec {w : World} {k : Value} {b m c : Nat} (hb : w.heap.size ≤ b) : Far w (.agg #[k, .slice (some ⟨b, 0, none⟩) m c]) := fun _ _ _ _ _ _ e h => by
  simp only [Value.agg.injEq, Array.mk.injEq, List.cons.injEq, Value.slice.injEq] at e
  rw [← e.2.1.1] at h
  simp only [Option.some.injEq, Addr.mk.injEq] at h
  omega
/-- a vector and an error are returned -/
def RetE (w : World) (n x : Nat) (err : Int) (e : Ending) (w' : World) : Prop := ∃ v, e = .returned (.tuple #[v, .int .i64 err]) ∧ VR w' v n x ∧ Below w.heap.size w w' ∧ Far w v
theorem VR.zero (w : World) : VR w (.agg #[.int .i64 0, .slice none 0 0]) 0 0 :=
  ⟨⟨none, 0, rfl, ⟨rfl, _, _, rfl, fun j u hj => by simp [wordsV, wcount] at hj⟩⟩, by decide, by decide⟩
set_option maxRecDepth 100000 in
set_option maxHeartbeats 2000000 in
theorem of_bad {w : World} {vl : Value} {l : List Bool} (hl : RO w vl 1 l.length (bools l)) (hm : l.length ≤ 9223372036854775807) (hb : l.length < 1 ∨ 128 < l.length) : Calls Tryz.prog 46 #[vl] w (RetE w 0 0 2) := by
  obtain ⟨p, c, rfl⟩ := hl.form
  have HG : Hid (∀ w, Calls Tryz.prog 43 #[.int .i64 l.length] w fun e w' => e = .returned (.bool false) ∧ w = w') := Lib.hid fun w => by
    have := good_any l.length w
    rwa [show (decide ((1 : Int) ≤ l.length) && decide ((l.length : Int) ≤ 128)) = false by simp; omega] at this
  clear hl hm hb
  go_enter Tryz.func46, Tryz.ntmps46
  go_wp2_with fail
  refine (HG.out _).mono ?_; rintro e w' ⟨rfl, rfl⟩
  go_wp2_with fail
  exact bodyPost_ret (v := .tuple #[.agg #[.int .i64 0, .slice none 0 0], .int .i64 2]) (by simp [results, Tryz.results46, go_sem]) rfl ⟨_, rfl, VR.zero _, Below.new _ _, Far.zero _ _⟩
set_option maxRecDepth 100000 in
set_option maxHeartbeats 4000000 in
theorem of_good {w : World} {vl : Value} {l : List Bool} (hl : RO w vl 1 l.length (bools l)) (h1 : 1 ≤ l.length) (h2 : l.length ≤ 128) : Calls Tryz.prog 46 #[vl] w (RetE w l.length (valB l) 0) := by
  obtain ⟨pl, cl, rfl⟩ := hl.form
  have HL := Lib.hid hl
  obtain ⟨n, hn⟩ : ∃ n, l.length = n := ⟨_, rfl⟩
  have HV : Hid (valB l = ofB (fun i => l.getD i false) n) := Lib.hid (by rw [← hn]; rfl)
  rw [hn] at h1 h2 hl HL ⊢
  have hni : (n : Int) ≤ 128 := by omega
  have hni1 : (1 : Int) ≤ n := by omega
  have HBl := Lib.hid (fun w => blank_any (w := w) n h2)
  have HG : Hid (∀ w, Calls Tryz.prog 43 #[.int .i64 n] w fun e w' => e = .returned (.bool true) ∧ w = w') := Lib.hid fun w => by
    have := good_any n w
    rwa [show (decide ((1 : Int) ≤ n) && decide ((n : Int) ≤ 128)) = true by simp; omega] at this
  have HN := Lib.hid hn
  clear hl h1 h2 hn
  go_enter Tryz.func46, Tryz.ntmps46
  go_wp2_with fail
  refine (HG.out _).mono ?_; rintro e w' ⟨rfl, rfl⟩
  go_wp2_with fail
  have k2 := Blk.new (w := w) 46 [.int .i64 0, .slice none 0 0]
  have hb3 := Below.new w (.cells #[.int .i64 0, .slice none 0 0] 46)
  generalize w.alloc (.cells #[.int .i64 0, .slice none 0 0] 46) = W at *
  have HK := Lib.hid (And.intro k2 hb3)
  clear k2 hb3
  refine (HBl.out _).mono ?_; rintro e w1 ⟨v, b, rfl, hV, hge, hb1⟩
  obtain rfl := hV.e
  have hS := Bld.start (w := w) (bs := [(w.heap.size, [.int .i64 0, .slice none 0 0])]) (by
    intro p hp
    simp only [List.mem_cons, List.not_mem_nil, or_false] at hp
    subst hp
    exact HK.out.1) HK.out.2 hb1 hV hge
  have hS2 := Lib.hid (hS.push [.int .i64 n, .slice (some ⟨b, 0, none⟩) (wcount n) (wcount n)])
  clear hV hb1 hS hge
  go_wp2_with fail
  generalize w1.alloc (.cells #[.int .i64 n, .slice (some ⟨b, 0, none⟩) (wcount n) (wcount n)] 46) = w2 at *
  generalize w1.heap.size = L at *
  go_loopw [17] (fun i wr => ∃ k : Nat, k ≤ n ∧ i = .int .i64 k ∧ Bld w [(L, [.int .i64 n, .slice (some ⟨b, 0, none⟩) (wcount n) (wcount n)]), (w.heap.size, [.int .i64 0, .slice none 0 0])] n (ofB (fun i => l.getD i false) k) b wr) (fun i _ => n - (intOf i).toNat)
  case atStart => exact ⟨0, Nat.zero_le _, rfl, hS2.out⟩
  case round =>
    obtain ⟨k, hk, rfl, hX⟩ := hrel
    have HX := Lib.hid hX
    have y0 := (hX.box (p := (L, [.int .i64 n, .slice (some ⟨b, 0, none⟩) (wcount n) (wcount n)])) (by simp)).cell (i := 0) rfl
    have y1 := (hX.box (p := (L, [.int .i64 n, .slice (some ⟨b, 0, none⟩) (wcount n) (wcount n)])) (by simp)).cell (i := 1) rfl
    dsimp only at y0 y1
    by_cases hlt : k < n
    · have hki : (k : Int) < n := by omega
      have hro := HL.out.below hX.bel
      have hkl : k < l.length := by rw [HN.out]; exact hlt
      obtain ⟨bl, ol, rfl⟩ := hro.sl (bools_at l k hkl)
      have f0 := hro.cell (bools_at l k hkl)
      have HST := Lib.hid (setB_ofB (fun i => l.getD i false) k)
      have HSet := set_any hX.vo k (l.getD k false) hlt
      generalize l.getD k false = q at *
      have HSet := Lib.hid HSet
      clear hX hro hkl
      go_wp2_with fail
      refine HSet.out.mono ?_; rintro e w6 ⟨rfl, hv6, hg6⟩
      have H6 := Lib.hid (HX.out.grown hg6 hv6)
      clear hv6 hg6
      go_wp2_with fail
      go_roundw
      case rel => exact ⟨k + 1, by omega, by go_num, by rw [← HST.out]; exact H6.out⟩
      case measure => simp [intOf]; omega
    · obtain rfl : k = n := by omega
      have kr := hX.box (p := (w.heap.size, [.int .i64 0, .slice none 0 0])) (by simp)
      have r0 := kr.cell (i := 0) rfl
      have r1 := kr.cell (i := 1) rfl
      have f0 := kr.frz 0
      have f1 := kr.frz 1
      dsimp only at r0 r1 f0 f1
      clear hX kr hlt
      go_wp2_with fail
      obtain ⟨e0, e1, hv, hbl⟩ := HX.out.ret (R := w.heap.size) (u := .int .i64 0) (v := .slice none 0 0) (by simp) (Nat.le_refl _)
      exact bodyPost_ret (v := .tuple #[vecO k b, .int .i64 0]) (by simp [results, Tryz.results46, go_sem, e0, e1, vecO]) rfl ⟨_, rfl, by rw [HV.out]; exact hv.vr (ofB_lt _ _), hbl, Far.vec HX.out.ge⟩
end Go.Proofs.YtcdjkbgedmehjaaGreatDoor
