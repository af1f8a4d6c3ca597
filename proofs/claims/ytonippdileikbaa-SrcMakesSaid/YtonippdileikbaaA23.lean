import Derived.Test.YtonippdileikbaaA22
namespace Go.Proofs.Ytonippdileikbaa
set_option linter.unusedVariables false
open Go.RowKit

/-- line k + 1 of a text -/
def lineAt (s : ByteArray) (k : Nat) : ByteArray := s.extract ((starts s).getD k 0).toNat (endOf (starts s) s.size k).toNat

theorem lnTo_st (s : ByteArray) : ∀ k, (stTo s.data.toList k).length = (lnTo s k).1.length + 1 ∧ (stTo s.data.toList k).getD (lnTo s k).1.length 0 = (lnTo s k).2 ∧
    ∀ i, i < (lnTo s k).1.length → (lnTo s k).1.getD i default = s.extract ((stTo s.data.toList k).getD i 0).toNat ((stTo s.data.toList k).getD (i + 1) 0 - 1).toNat
  | 0 => ⟨rfl, rfl, fun i hi => absurd hi (Nat.not_lt_zero _)⟩
  | k + 1 => by
    obtain ⟨h1, h2, h3⟩ := lnTo_st s k
    rw [lnTo_succ, stTo_succ]
    split
    · refine ⟨by simp [h1], ?_, fun i hi => ?_⟩
      · rw [List.length_append, getD_snoc, if_neg (by simp [h1]), if_pos (by simp [h1])]
      · simp only [List.length_append, List.length_cons, List.length_nil] at hi
        rw [getD_snoc, if_pos (by omega), getD_snoc]
        by_cases e : i < (lnTo s k).1.length
        · rw [if_pos (by omega), ← h3 i e]
          simp only [List.getD, List.getElem?_append_left e]
        · obtain rfl : i = (lnTo s k).1.length := by omega
          rw [if_neg (by omega), if_pos (by omega), h2]
          simp only [List.getD, List.getElem?_concat_length, Option.getD_some]
          congr 1; omega
    · exact ⟨h1, h2, h3⟩
theorem refLines_len (s : ByteArray) : (refLines s).length = (starts s).length := by
  obtain ⟨h1, _, _⟩ := lnTo_st s s.size
  rw [refLines, List.length_append, starts, h1]; rfl
theorem refLines_at (s : ByteArray) (k : Nat) (h : k < (starts s).length) : (refLines s).getD k default = lineAt s k := by
  obtain ⟨h1, h2, h3⟩ := lnTo_st s s.size
  have hk : k < (lnTo s s.size).1.length + 1 := h1 ▸ h
  unfold lineAt endOf
  by_cases e : k < (lnTo s s.size).1.length
  · rw [if_neg (by show ¬ k + 1 = (stTo _ _).length; omega)]
    rw [refLines, List.getD, List.getElem?_append_left e]
    exact h3 k e
  · obtain rfl : k = (lnTo s s.size).1.length := by omega
    rw [if_pos (by show _ = (stTo _ _).length; omega)]
    have : (starts s).getD (lnTo s s.size).1.length 0 = (lnTo s s.size).2 := h2
    rw [this, refLines, List.getD, List.getElem?_concat_length]
    simp

theorem line_made {w bt ps fs} (h : Made w bt ps fs) (hl : fs.length ≤ 100000) (n k : Nat) (f : Fil) (hf : fs.getD n default = f) (hn : n < fs.length) (hk : k < (starts f.text).length) :
    Calls Try.prog 21 #[.pointer (some ⟨bt, 0, none⟩), .int .i64 ((n : Int) + 1), .int .i64 ((k : Int) + 1)] w fun e w' => e = .returned (.tuple #[.string (lineAt f.text k), .int .i64 0]) ∧ Below w.heap.size w w' := by
  subst hf
  have := line_in h.tab n k (h.len ▸ hn) (h.small hl) (h.kn n hn) hk
  rwa [h.tx n hn] at this
theorem line_none {w bt ps fs} (h : Made w bt ps fs) (hl : fs.length ≤ 100000) (n : Nat) (m : Int) (f : Fil) (hf : fs.getD n default = f) (hn : n < fs.length) (hm : m < 1 ∨ ((starts f.text).length : Int) < m) :
    Calls Try.prog 21 #[.pointer (some ⟨bt, 0, none⟩), .int .i64 ((n : Int) + 1), .int .i64 m] w fun e w' => e = .returned (.tuple #[.string { data := #[] }, .int .i64 3]) ∧ Below w.heap.size w w' := by
  subst hf
  exact line_noline h.tab n m (h.len ▸ hn) (h.small hl) (h.kn n hn) hm

theorem seven (nm : ByteArray) (hn : isName nm = true) : nm.size ≤ maxLen := by
  unfold isName at hn
  simp only [Bool.and_eq_true, decide_eq_true_eq] at hn
  have := hn.2.2
  simp only [maxLen]; omega
theorem new_one (w : World) (nm tx : ByteArray) (hn : isName nm = true) (ht : tx.size ≤ 32768) : Calls Try.prog 10 #[.slice (some ⟨w.heap.size, 0, none⟩) 1 1] (w.alloc (.cells #[.string nm, .string tx] 34)) (NewOk (w.alloc (.cells #[.string nm, .string tx] 34)) [⟨nm, tx⟩]) :=
  new_ok (w := w.alloc (.cells #[.string nm, .string tx] 34)) _ [⟨nm, tx⟩] (ro_one nm tx (Blk.new 34 _)) (err_one _ _ hn ht) (fun i hi => by
      obtain rfl : i = 0 := by simpa using hi
      exact seven nm hn) (fun i hi => by
      obtain rfl : i = 0 := by simpa using hi
      show tx.size ≤ _; omega)
def xNm : ByteArray := ⟨#[120]⟩
theorem x_name : isName xNm = true := by decide +kernel
theorem cut_size (s : ByteArray) (h : 2000 < s.size) : (s.extract 0 2000).size = 2000 := by rw [ByteArray.size_extract]; omega

set_option maxHeartbeats 4000000 in
theorem lines_law (s : ByteArray) (n : Int) (w : World) (hs : s.size ≤ 9223372036854775807) (hn : -9223372036854775808 ≤ n ∧ n ≤ 9223372036854775807) : Calls Try.prog 5 #[.string s, .int .i64 n] w fun e w' => e = .returned (.bool true) ∧ Below w.heap.size w w' := by
  have HA := Lib.hid (awake_any w)
  obtain ⟨hn1, hn2⟩ := hn
  have hs' : (s.size : Int) ≤ 9223372036854775807 := by omega
  go_enter Try.func5, Try.ntmps5
  go_wp2_with fail
  refine HA.out.mono ?_; rintro e w1 ⟨rfl, hb⟩
  have HB := Lib.hid hb
  clear hb HA
  have hgoal : ∃ tx : ByteArray, tx.size ≤ 2000 ∧ (s.size ≤ 2000 ∧ tx = s ∨ 2000 < s.size ∧ tx = s.extract 0 2000) := by
    by_cases h : s.size ≤ 2000
    · exact ⟨s, h, .inl ⟨h, rfl⟩⟩
    · exact ⟨_, by rw [cut_size s (by omega)]; exact Nat.le_refl _, .inr ⟨by omega, rfl⟩⟩
  obtain ⟨tx, htx, hcase⟩ := hgoal
  have hN := fun w => new_one w xNm tx x_name (by omega)
  have hR := fun w => refLines_any tx w (by omega)
  have HH := Lib.hid (And.intro hN (And.intro hR htx))
  have hst := starts_len tx
  have HL := Lib.hid (And.intro (refLines_len tx) (And.intro (refLines_at tx) hst))
  have hLi : ((starts tx).length : Int) ≤ 2001 := by omega
  clear hN hR hst htx
  rcases hcase with ⟨h, rfl⟩ | ⟨h, h2⟩
  all_goals first
    | (have h' : (tx.size : Int) ≤ 2000 := by omega
       clear hs
       go_wp2_with fail)
    | (have h' : (2000 : Int) < s.size := by omega
       have H2 := Lib.hid h2.symm
       clear h2 hs
       go_wp2_with fail
       rw [H2.out])
  all_goals
    refine (HH.out.1 _).mono ?_; rintro e w2 ⟨bt, ps, rfl, hM, _, hb⟩
    have HM := Lib.hid (And.intro hM (Below.then (HB.out.alloc HB.out.size _) hb (Nat.le_refl _)))
    clear hM hb
    go_wp2_with fail
    refine (HH.out.2.1 _).mono ?_; rintro e w3 ⟨v, rfl, hv, hb3⟩
    have HM3 := Lib.hid (And.intro (RO.own hv) (And.intro (HM.out.1.below hb3) (HM.out.2.trans (hb3.mono HM.out.2.size))))
    obtain ⟨p, c, rfl⟩ := ownsRow_form hv
    clear hv hb3
    have HLn : Hid (∀ wr k, Below w3.heap.size w3 wr → k < (starts tx).length → Calls Try.prog 21 #[.pointer (some ⟨bt, 0, none⟩), .int .i64 1, .int .i64 ((k : Int) + 1)] wr fun e w' => e = .returned (.tuple #[.string (lineAt tx k), .int .i64 0]) ∧ Below wr.heap.size wr w') :=
      Lib.hid fun wr k hb hk => line_made (HM3.out.2.1.below hb) (by simp) 0 k ⟨xNm, tx⟩ rfl (by simp) hk
    have HL1 : Hid (∀ wr, Below w3.heap.size w3 wr → n < 1 ∨ ((starts tx).length : Int) < n → Calls Try.prog 21 #[.pointer (some ⟨bt, 0, none⟩), .int .i64 1, .int .i64 n] wr fun e w' => e = .returned (.tuple #[.string { data := #[] }, .int .i64 3]) ∧ Below wr.heap.size wr w') :=
      Lib.hid fun wr hb hm => line_none (HM3.out.2.1.below hb) (by simp) 0 n ⟨xNm, tx⟩ rfl (by simp) hm
    have HL2 : Hid (∀ wr, Below w3.heap.size w3 wr → Calls Try.prog 21 #[.pointer (some ⟨bt, 0, none⟩), .int .i64 2, .int .i64 1] wr fun e w' => e = .returned (.tuple #[.string { data := #[] }, .int .i64 21]) ∧ Below wr.heap.size wr w') :=
      Lib.hid fun wr hb => line_nofile (HM3.out.2.1.below hb).tab 2 1 (.inr (by rw [HM3.out.2.1.len]; simp)) (HM3.out.2.1.small (by simp))
    have HLs : Hid (∀ wr, Below w3.heap.size w3 wr → Calls Try.prog 15 #[.pointer (some ⟨bt, 0, none⟩), .int .i64 1] wr fun e w' => e = .returned (.int .i64 (starts tx).length) ∧ Below wr.heap.size wr w') :=
      Lib.hid fun wr hb => lines_made (HM3.out.2.1.below hb) (by simp) 0 ⟨xNm, tx⟩ rfl (by simp)
    have hcell := HM3.out.1
    rw [HL.out.1] at hcell
    have HC := Lib.hid hcell
    clear hcell
    have HX := Lib.hid HM3.out.2.2
    rw [HL.out.1]
    generalize hN : (starts tx).length = N at *
    have HN := Lib.hid hN
    clear HM3 hN
    go_wp2_with fail
    go_loopw [33] (fun i wr => ∃ k : Nat, k ≤ N ∧ i = .int .i64 k ∧ Below w3.heap.size w3 wr) (fun i _ => N - (intOf i).toNat)
    case atStart => exact ⟨0, Nat.zero_le _, rfl, Below.refl _ _⟩
    case round =>
      obtain ⟨k, hk, rfl, hbel⟩ := hrel
      have HB2 := Lib.hid hbel
      by_cases hlt : k < N
      · have hlti : (k : Int) < N := by omega
        have hro := HC.out.below hbel
        have hat : (strs (refLines tx))[k]? = some (.string (lineAt tx k)) := by
          rw [strs_at _ _ (by rw [HL.out.1]; exact hlt), HL.out.2.1 k hlt]
        obtain ⟨bb, o, rfl⟩ := hro.sl hat
        have f0 := hro.cell hat
        have HC1 := Lib.hid (HLn.out wr k hbel hlt)
        obtain ⟨X, hX⟩ : ∃ X, lineAt tx k = X := ⟨_, rfl⟩
        rw [hX] at f0 HC1
        clear hX hat hro hbel
        go_wp2_with fail
        refine HC1.out.mono ?_; rintro e w4 ⟨rfl, hb4⟩
        have HB4 := Lib.hid (HB2.out.trans (hb4.mono HB2.out.size))
        clear hb4
        go_wp2_with fail
        go_roundw
        case rel => exact ⟨k + 1, by omega, by go_num, HB4.out⟩
        case measure => simp [intOf]; omega
      · obtain rfl : k = N := by omega
        clear hlt hbel
        by_cases hin : n < 1 ∨ (k : Int) < n
        · have HC1 := Lib.hid (HL1.out wr HB2.out hin)
          rcases hin with hin | hin
          all_goals
            try have hin1 : 1 ≤ n := by omega
            go_wp2_with fail
            refine HC1.out.mono ?_; rintro e w4 ⟨rfl, hb4⟩
            have HB4 := Lib.hid (HB2.out.trans (hb4.mono HB2.out.size))
            clear hb4
            go_wp2_with fail
            refine (HL2.out _ HB4.out).mono ?_; rintro e w5 ⟨rfl, hb5⟩
            have HB5 := Lib.hid (HB4.out.trans (hb5.mono HB4.out.size))
            clear hb5
            go_wp2_with fail
            refine (HLs.out _ HB5.out).mono ?_; rintro e w6 ⟨rfl, hb6⟩
            have HB6 := Lib.hid (HX.out.trans ((HB5.out.trans (hb6.mono HB5.out.size)).mono HX.out.size))
            clear hb6
            go_wp2_with fail
            go_ret
            exact ⟨rfl, HB6.out⟩
        · have hin1 : 1 ≤ n := by omega
          have hin2 : n ≤ k := by omega
          obtain ⟨m, hm⟩ : ∃ m : Nat, n = (m : Int) + 1 := ⟨(n - 1).toNat, by omega⟩
          have HC1 := Lib.hid (HLn.out wr m HB2.out (by omega))
          rw [← hm] at HC1
          obtain ⟨X, hX⟩ : ∃ X, lineAt tx m = X := ⟨_, rfl⟩
          rw [hX] at HC1
          clear hin hm hX
          go_wp2_with fail
          refine HC1.out.mono ?_; rintro e w4 ⟨rfl, hb4⟩
          have HB4 := Lib.hid (HB2.out.trans (hb4.mono HB2.out.size))
          clear hb4
          go_wp2_with fail
          refine (HL2.out _ HB4.out).mono ?_; rintro e w5 ⟨rfl, hb5⟩
          have HB5 := Lib.hid (HB4.out.trans (hb5.mono HB4.out.size))
          clear hb5
          go_wp2_with fail
          refine (HLs.out _ HB5.out).mono ?_; rintro e w6 ⟨rfl, hb6⟩
          have HB6 := Lib.hid (HX.out.trans ((HB5.out.trans (hb6.mono HB5.out.size)).mono HX.out.size))
          clear hb6
          go_wp2_with fail
          go_ret
          exact ⟨rfl, HB6.out⟩
end Go.Proofs.Ytonippdileikbaa
