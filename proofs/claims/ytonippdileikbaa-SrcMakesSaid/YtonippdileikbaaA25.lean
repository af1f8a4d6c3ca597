import Derived.Test.YtonippdileikbaaA24
namespace Go.Proofs.Ytonippdileikbaa
set_option linter.unusedVariables false
open Go.RowKit

set_option maxHeartbeats 4000000 in
theorem joins_law (s : ByteArray) (w : World) (hs : s.size ≤ 9223372036854775807) : Calls Try.prog 6 #[.string s] w fun e w' => e = .returned (.bool true) ∧ Below w.heap.size w w' := by
  have HA := Lib.hid (awake_any w)
  have hs' : (s.size : Int) ≤ 9223372036854775807 := by omega
  go_enter Try.func6, Try.ntmps6
  go_wp2_with fail
  refine HA.out.mono ?_; rintro e w1 ⟨rfl, hb⟩
  have HB := Lib.hid hb
  clear hb HA
  have hgoal : ∃ tx : ByteArray, tx.size ≤ 2000 ∧ (s.size ≤ 2000 ∧ tx = s ∨ 2000 < s.size ∧ tx = s.extract 0 2000) := by
    by_cases h : s.size ≤ 2000
    · exact ⟨s, h, .inl ⟨h, rfl⟩⟩
    · exact ⟨_, by rw [cut_size s (by omega)]; exact Nat.le_refl _, .inr ⟨by omega, rfl⟩⟩
  obtain ⟨tx, htx, hcase⟩ := hgoal
  have hN := fun w => new_one w xNm tx x_name (by omega)
  have hst := starts_len tx
  have hLi : ((starts tx).length : Int) ≤ 2001 := by omega
  have HH := Lib.hid (And.intro hN (And.intro htx hst))
  clear hN hst htx
  rcases hcase with ⟨h, rfl⟩ | ⟨h, h2⟩
  all_goals first
    | (have h' : (tx.size : Int) ≤ 2000 := by omega
       clear hs
       go_wp2_with fail)
    | (have h' : (2000 : Int) < s.size := by omega
       have H2 := Lib.hid h2.symm
       clear h2 hs
       go_wp2_with fail
       rw [H2.out])
  all_goals
    refine (HH.out.1 _).mono ?_; rintro e w2 ⟨bt, ps, rfl, hM, _, hb⟩
    have HM := Lib.hid (And.intro hM (Below.then (HB.out.alloc HB.out.size _) hb (Nat.le_refl _)))
    clear hM hb
    have HLn : Hid (∀ wr k, Below w2.heap.size w2 wr → k < (starts tx).length → Calls Try.prog 21 #[.pointer (some ⟨bt, 0, none⟩), .int .i64 1, .int .i64 ((k : Int) + 1)] wr fun e w' => e = .returned (.tuple #[.string (lineAt tx k), .int .i64 0]) ∧ Below wr.heap.size wr w') :=
      Lib.hid fun wr k hb hk => line_made (HM.out.1.below hb) (by simp) 0 k ⟨xNm, tx⟩ rfl (by simp) hk
    have HLs : Hid (∀ wr, Below w2.heap.size w2 wr → Calls Try.prog 15 #[.pointer (some ⟨bt, 0, none⟩), .int .i64 1] wr fun e w' => e = .returned (.int .i64 (starts tx).length) ∧ Below wr.heap.size wr w') :=
      Lib.hid fun wr hb => lines_made (HM.out.1.below hb) (by simp) 0 ⟨xNm, tx⟩ rfl (by simp)
    have HP : Hid (∀ wr (m : Nat), Below w2.heap.size w2 wr → m ≤ tx.size → Calls Try.prog 18 #[.pointer (some ⟨bt, 0, none⟩), .int .i64 1, .int .i64 m] wr fun e w' => ∃ x y z : Int, e = .returned (.tuple #[.agg #[.int .i64 x, .int .i64 y, .int .i64 z], .int .i64 0]) ∧ Below wr.heap.size wr w') :=
      Lib.hid fun wr m hb hm => (pos_made (HM.out.1.below hb) (by simp) 0 m ⟨xNm, tx⟩ rfl (by simp) hm).mono fun e w' ⟨k, _, he, hb⟩ => ⟨_, _, _, he, hb⟩
    have HP0 : Hid (∀ wr (k : Nat) (m c : Int), Below w2.heap.size w2 wr → k < (starts tx).length → m = begN tx k → c = (k : Int) + 1 → Calls Try.prog 18 #[.pointer (some ⟨bt, 0, none⟩), .int .i64 1, .int .i64 m] wr fun e w' => e = .returned (.tuple #[.agg #[.int .i64 1, .int .i64 c, .int .i64 1], .int .i64 0]) ∧ Below wr.heap.size wr w') :=
      Lib.hid fun wr k m c hb hk hm hc => by
        have hbd := (starts_facts tx).1 k hk
        have hbe : (begN tx k : Int) = (starts tx).getD k 0 := by unfold begN; omega
        subst hm hc
        refine (pos_made (HM.out.1.below hb) (by simp) 0 (begN tx k) ⟨xNm, tx⟩ rfl (by simp) (by show begN tx k ≤ tx.size; omega)).mono ?_
        rintro e w' ⟨k', hk', rfl, hb'⟩
        obtain rfl : k' = k := lineOf_one (starts_facts tx).2.1 hk' (by show LineOf (starts tx) _ _; rw [hbe]; exact lineOf_start tx k hk)
        refine ⟨?_, hb'⟩
        show Ending.returned (.tuple #[.agg #[.int .i64 1, .int .i64 ((k' : Int) + 1), .int .i64 (1 + (begN tx k' : Int) - (starts tx).getD k' 0)], .int .i64 0]) = _
        rw [hbe, show 1 + (starts tx).getD k' 0 - (starts tx).getD k' 0 = 1 by omega]
    have HX := Lib.hid HM.out.2
    clear HM
    generalize hN : (starts tx).length = N at *
    have HN := Lib.hid hN
    clear hN
    go_wp2_with fail
    refine (HLs.out _ (Below.refl _ _)).mono ?_; rintro e w3 ⟨rfl, hb3⟩
    have HB3 := Lib.hid hb3
    clear hb3
    go_wp2_with fail
    go_loopw [5, 29] (fun t i wr => ∃ (k : Nat) (S : ByteArray), k ≤ N ∧ i = .int .i64 k ∧ t = .string S ∧ S = joined tx k ∧ Below w2.heap.size w2 wr) (fun _ i _ => N - (intOf i).toNat)
    case atStart => exact ⟨0, _, Nat.zero_le _, rfl, rfl, rfl, HB3.out⟩
    case round =>
      obtain ⟨k, S, hk, rfl, rfl, hS, hbel⟩ := hrel
      have HB2 := Lib.hid (And.intro hbel hS)
      have hSz : S.size ≤ tx.size := by rw [hS]; exact joined_size tx k (by rw [HN.out]; exact hk)
      clear hbel hS
      by_cases hlt : k < N
      · have hlti : (k : Int) < N := by omega
        have hkl : k < (starts tx).length := by rw [HN.out]; exact hlt
        have HC1 := Lib.hid (HLn.out wr k HB2.out.1 hlt)
        obtain ⟨X, hX⟩ : ∃ X, lineAt tx k = X := ⟨_, rfl⟩
        rw [hX] at HC1
        have HXX := Lib.hid hX
        have hXz : (X.size : Int) ≤ 2000 := by rw [← hX, lineAt, ByteArray.size_extract]; have := HH.out.2.1; omega
        have hSz2 : (S.size : Int) ≤ 2000 := by have := HH.out.2.1; omega
        clear hX
        cases k with
        | zero =>
          obtain rfl : S = ⟨#[]⟩ := HB2.out.2
          go_wp2_with fail
          refine HC1.out.mono ?_; rintro e w4 ⟨rfl, hb4⟩
          have HB4 := Lib.hid (HB2.out.1.trans (hb4.mono HB2.out.1.size))
          clear hb4
          go_wp2_with fail
          have h0 := HP0.out w4 0 0 1 HB4.out hlt (by unfold begN; rw [(starts_facts tx).2.2]; rfl) rfl
          refine h0.mono ?_; rintro e w5 ⟨rfl, hb5⟩
          have HB5 := Lib.hid (HB4.out.trans (hb5.mono HB4.out.size))
          clear hb5 h0
          go_wp2_with fail
          go_roundw
          case rel => exact ⟨1, _, by omega, by go_num, rfl, by rw [← HXX.out]; exact joined_first tx, HB5.out.alloc HB5.out.size _⟩
          case measure => simp [intOf]; omega
        | succ k =>
          go_wp2_with fail
          refine HC1.out.mono ?_; rintro e w4 ⟨rfl, hb4⟩
          have HB4 := Lib.hid (HB2.out.1.trans (hb4.mono HB2.out.1.size))
          clear hb4
          go_wp2_with fail
          refine (HP.out _ _ HB4.out hSz).mono ?_; rintro e w5 ⟨x1, y1, z1, rfl, hb5⟩
          have HB5 := Lib.hid (HB4.out.trans (hb5.mono HB4.out.size))
          clear hb5
          have hjn := joined_next tx k hkl
          have hJ := hjn.1
          rw [← HB2.out.2] at hJ
          have hm : ((S.size : Int) + 1) = begN tx (k + 1) := by
            have h1 := congrArg ByteArray.size hJ
            rw [size_ext0 tx _ (by have := endN_bd tx (k + 1) hkl; omega), ByteArray.size_append] at h1
            have h2 : (⟨#[10]⟩ : ByteArray).size = 1 := rfl
            rw [h2] at h1; omega
          have HJ := Lib.hid (And.intro hjn.2 hm)
          clear hjn hJ hm
          go_wp2_with fail
          have h0 := HP0.out (w5.alloc (Obj.cells #[Value.int IntKind.i64 x1, Value.int IntKind.i64 y1, Value.int IntKind.i64 z1] 44)) (k + 1) ((S.size : Int) + 1) ((k : Int) + 1 + 1) (HB5.out.alloc HB5.out.size _) hlt HJ.out.2 (by omega)
          refine h0.mono ?_; rintro e w6 ⟨rfl, hb6⟩
          obtain ⟨hk6, hb6', hlt6⟩ := kept_new (l := [.int .i64 x1, .int .i64 y1, .int .i64 z1]) hb6
          have HB6 := Lib.hid (HB5.out.trans (hb6'.mono HB5.out.size))
          have c0 := hk6.cell (i := 0) rfl
          have c1 := hk6.cell (i := 1) rfl
          have c2 := hk6.cell (i := 2) rfl
          have f0 := hk6.frz 0
          have f1 := hk6.frz 1
          have f2 := hk6.frz 2
          clear hb6 hb6' hk6 h0
          go_wp2_with fail
          go_roundw
          case rel => exact ⟨k + 2, _, by omega, by go_num, rfl, by rw [← HJ.out.1, ← HXX.out, HB2.out.2], ((HB6.out.setCell HB5.out.size _).setCell HB5.out.size _).setCell HB5.out.size _⟩
          case measure => simp [intOf]; omega
      · obtain rfl : k = N := by omega
        have hS := HB2.out.2
        rw [← HN.out, joined_end] at hS
        have HS := Lib.hid hS
        clear hlt hS
        by_cases hst : S = tx
        · subst hst
          go_wp2_with fail
          go_ret
          exact ⟨by simp, HX.out.trans (HB2.out.1.mono HX.out.size)⟩
        · exact absurd HS.out hst
end Go.Proofs.Ytonippdileikbaa
