import Derived.Test.YtcdjkbgedmehjaaDoorV3
import Derived.Laws.Strings
namespace Go.Proofs.YtcdjkbgedmehjaaDoor
set_option linter.unusedVariables false
open Go.RowKit Go.Sort

/-! # words that may be names; numbers -/
theorem takeS_snoc (s : ByteArray) (k : Nat) (h : k < s.size) : s.data.toList.take (k + 1) = s.data.toList.take k ++ [s[k]] := by
  rw [List.take_succ_eq_append_getElem (by simpa using h)]; rfl
def seen (c : UInt8) : Bool := decide (33 ≤ c.toNat) && decide (c.toNat < 127)
def seens (l : List UInt8) : Bool := l.all seen
theorem seens_snoc (l : List UInt8) (c : UInt8) : seens (l ++ [c]) = (seens l && seen c) := by simp [seens]
theorem seens_take (l : List UInt8) (k : Nat) (h : seens (l.take k) = false) : seens l = false := by
  rw [← List.take_append_drop k l]
  unfold seens at *
  rw [List.all_append, h, Bool.false_and]
def printedB (s : ByteArray) : Bool := decide (s.size ≠ 0) && decide (s.size ≤ 200) && seens s.data.toList
theorem str_none {s : ByteArray} (h : s.size = 0) : s.toList.isEmpty = true := by
  have : s.toList = [] := by
    obtain ⟨d⟩ := s
    have : d.size = 0 := h
    rw [ByteArray.toList_eq]
    simp [Array.size_eq_zero_iff.1 this]
  simp [this]
theorem str_some {s : ByteArray} (h : s.size ≠ 0) : ¬ s.toList = [] ∧ s.toList.isEmpty = false := by
  have hnl : ¬ s.toList = [] := by
    intro e
    rw [ByteArray.toList_eq] at e
    exact h (by have := congrArg List.length e; simpa using this)
  exact ⟨hnl, by simpa [List.isEmpty_iff] using hnl⟩
set_option maxHeartbeats 1000000 in
theorem printed_any (s : ByteArray) (w : World) : Calls Tryd.prog 52 #[.string s] w fun e w' => e = .returned (.bool (printedB s)) ∧ w = w' := by
  by_cases h0 : s.size = 0
  · have hie := str_none h0
    have hv : printedB s = false := by unfold printedB; simp [h0]
    rw [hv]
    clear h0 hv
    go_enter Tryd.func52, Tryd.ntmps52
    go_wp2_with fail
    go_ret
    exact ⟨rfl, rfl⟩
  obtain ⟨hnl, hie⟩ := str_some h0
  by_cases h200 : (200 : Int) < s.size
  · have hv : printedB s = false := by unfold printedB; rw [decide_eq_false (show ¬ s.size ≤ 200 by omega)]; simp
    rw [hv]
    clear h0 hv hnl
    go_enter Tryd.func52, Tryd.ntmps52
    go_wp2_with fail
    go_ret
    exact ⟨rfl, rfl⟩
  have hv : printedB s = seens s.data.toList := by unfold printedB; rw [decide_eq_true h0, decide_eq_true (show s.size ≤ 200 by omega)]; rfl
  rw [hv]
  clear hv hnl h0
  go_enter Tryd.func52, Tryd.ntmps52
  go_wp2_with fail
  go_loop [13] (fun i => ∃ k : Nat, k ≤ s.size ∧ i = .int .i64 k ∧ seens (s.data.toList.take k) = true) (fun i => s.size - (intOf i).toNat)
  case atStart => exact ⟨0, Nat.zero_le _, rfl, rfl⟩
  case round =>
    obtain ⟨k, hk, rfl, hl⟩ := hrel
    by_cases hlt : k < s.size
    · have hsn := seens_snoc (s.data.toList.take k) s[k]
      rw [← takeS_snoc s k hlt, hl, Bool.true_and] at hsn
      have hwr : IntKind.i64.wrap ((k : Int) + 1) = (k : Int) + 1 := i64_of (by omega)
      clear hl
      by_cases h1 : s[k].toNat < 33
      · have HS := Lib.hid (hsn.trans (show seen s[k] = false by unfold seen; rw [decide_eq_false (show ¬ 33 ≤ s[k].toNat by omega)]; rfl))
        clear hsn
        go_wp2_with fail
        go_ret
        exact ⟨congrArg (fun b => Ending.returned (Value.bool b)) (seens_take _ _ HS.out).symm, rfl⟩
      · by_cases h2 : 127 ≤ s[k].toNat
        · have HS := Lib.hid (hsn.trans (show seen s[k] = false by unfold seen; rw [decide_eq_false (show ¬ s[k].toNat < 127 by omega)]; simp))
          clear hsn
          go_wp2_with fail
          go_ret
          exact ⟨congrArg (fun b => Ending.returned (Value.bool b)) (seens_take _ _ HS.out).symm, rfl⟩
        · have HS := Lib.hid (hsn.trans (show seen s[k] = true by unfold seen; rw [decide_eq_true (show s[k].toNat < 127 by omega), decide_eq_true (show 33 ≤ s[k].toNat by omega)]; rfl))
          clear hsn
          go_wp2_with fail
          go_round
          case rel => exact ⟨k + 1, by omega, by go_num, HS.out⟩
          case measure => simp [intOf]; omega
    · obtain rfl : k = s.size := by omega
      rw [List.take_of_length_le (by simp)] at hl
      have HL := Lib.hid hl
      clear hl
      go_wp2_with fail
      go_ret
      exact ⟨congrArg (fun b => Ending.returned (Value.bool b)) HL.out.symm, rfl⟩
def wordB (s : ByteArray) : Bool := printedB s && decide (s.data.toList.getD 0 0 ≠ 36)
set_option maxHeartbeats 1000000 in
theorem word_any (s : ByteArray) (w : World) : Calls Tryd.prog 27 #[.string s] w fun e w' => e = .returned (.bool (wordB s)) ∧ w = w' := by
  have HP := Lib.hid (printed_any s)
  by_cases hp : printedB s = true
  · have h0 : 0 < s.size := by
      rcases Nat.eq_zero_or_pos s.size with h | h
      · unfold printedB at hp; rw [decide_eq_false (by omega)] at hp; simp at hp
      · exact h
    have hat : s.data.toList.getD 0 0 = s[0] := by
      rw [List.getD_eq_getElem?_getD, List.getElem?_eq_getElem (show 0 < s.data.toList.length by simpa using h0)]; rfl
    have hv : wordB s = decide (s[0] ≠ 36) := by unfold wordB; rw [hp, hat]; rfl
    rw [hv]
    rw [hp] at HP
    clear hp hat hv
    by_cases h36 : s[0].toNat = 36
    · have hv : decide (s[0] ≠ 36) = false := decide_eq_false (by simp; exact UInt8.toNat_inj.1 h36)
      rw [hv]
      clear hv
      go_enter Tryd.func27, Tryd.ntmps27
      go_wp2_with fail
      refine (HP.out _).mono ?_; rintro e w1 ⟨rfl, rfl⟩
      go_wp2_with fail
      go_ret
      exact ⟨rfl, rfl⟩
    · have hv : decide (s[0] ≠ 36) = true := decide_eq_true (fun h => h36 (by rw [h]; rfl))
      rw [hv]
      clear hv
      go_enter Tryd.func27, Tryd.ntmps27
      go_wp2_with fail
      refine (HP.out _).mono ?_; rintro e w1 ⟨rfl, rfl⟩
      go_wp2_with fail
      go_ret
      exact ⟨congrArg (fun b => Ending.returned (Value.bool b)) (by simp; omega), rfl⟩
  · have hp' : printedB s = false := by simpa using hp
    have hv : wordB s = false := by unfold wordB; rw [hp']; rfl
    rw [hv]
    rw [hp'] at HP
    clear hp hp' hv
    go_enter Tryd.func27, Tryd.ntmps27
    go_wp2_with fail
    refine (HP.out _).mono ?_; rintro e w1 ⟨rfl, rfl⟩
    go_wp2_with fail
    go_ret
    exact ⟨rfl, rfl⟩
theorem wide_any (n : Int) (w : World) : Calls Tryd.prog 32 #[.int .i64 n] w fun e w' => e = .returned (.bool (decide (1 ≤ n) && decide (n ≤ 128))) ∧ w = w' := by
  by_cases h1 : 1 ≤ n
  · by_cases h2 : n ≤ 128
    · rw [decide_eq_true h1, decide_eq_true h2]
      go_enter Tryd.func32, Tryd.ntmps32
      go_wp2_with fail
      go_ret
      exact ⟨congrArg (fun b => Ending.returned (Value.bool b)) (by simp []), rfl⟩
    · rw [decide_eq_true h1, decide_eq_false h2]
      have h3 : 128 < n := by omega
      clear h2
      go_enter Tryd.func32, Tryd.ntmps32
      go_wp2_with fail
      go_ret
      exact ⟨congrArg (fun b => Ending.returned (Value.bool b)) (by simp; omega), rfl⟩
  · rw [decide_eq_false h1]
    have h3 : n < 1 := by omega
    clear h1
    go_enter Tryd.func32, Tryd.ntmps32
    go_wp2_with fail
    go_ret
    exact ⟨rfl, rfl⟩

/-- a number's decimal digits, and what they say -/
def decV (ds : List Nat) : Nat := ds.foldl (fun n d => 10 * n + d) 0
theorem decV_snoc (ds : List Nat) (d : Nat) : decV (ds ++ [d]) = 10 * decV ds + d := by simp [decV]
theorem decV_lt : ∀ (ds : List Nat) (k : Nat), (∀ d ∈ ds, d < 10) → decV (ds.take k) < 10 ^ k
  | _, 0, _ => by simp [decV]
  | ds, k + 1, h => by
    have ih := decV_lt ds k h
    by_cases hk : k < ds.length
    · rw [List.take_succ_eq_append_getElem hk, decV_snoc]
      have := h ds[k] (List.getElem_mem _)
      rw [Nat.pow_succ]; omega
    · rw [List.take_of_length_le (by omega)] at ih ⊢
      rw [Nat.pow_succ]; omega
def digS (ds : List Nat) : List UInt8 := ds.map fun d => UInt8.ofNat (48 + d)
set_option maxHeartbeats 1000000 in
theorem number_any (ds : List Nat) (most : Nat) (h0 : ds ≠ []) (hm : ds.length ≤ most) (hm6 : most ≤ 6) (hd : ∀ d ∈ ds, d < 10) (s : ByteArray) (hs : s = bstr (digS ds)) (w : World) :
    Calls Tryd.prog 48 #[.string s, .int .i64 most] w fun e w' => e = .returned (.int .i64 (decV ds : Nat)) ∧ w = w' := by
  have hsz : s.size = ds.length := by rw [hs]; show (digS ds).toArray.size = _; simp [digS]
  have hat : ∀ k (hk : k < s.size), s[k].toNat = 48 + ds.getD k 0 := by
    intro k hk
    have hkd : k < ds.length := by omega
    subst hs
    have e : (bstr (digS ds))[k] = UInt8.ofNat (48 + ds[k]) := by
      show (digS ds).toArray[k]'(by simpa [digS] using hkd) = _
      simp [digS]
    rw [e, List.getD_eq_getElem?_getD, List.getElem?_eq_getElem hkd]
    have := hd ds[k] (List.getElem_mem _)
    simp only [Option.getD_some, UInt8.toNat_ofNat']
    omega
  have hne : s.size ≠ 0 := by rw [hsz]; have := List.length_pos_iff.2 h0; omega
  obtain ⟨hnl, hie⟩ := str_some hne
  have HH := Lib.hid (And.intro hd (And.intro hat hsz))
  have hi1 : (s.size : Int) ≤ most := by omega
  have hi2 : (most : Int) ≤ 6 := by omega
  clear hd hat hs h0 hm hm6 hne hsz
  go_enter Tryd.func48, Tryd.ntmps48
  go_wp2_with fail
  go_loop [4, 5, 6, 17] (fun rv nv jv iv => ∃ k : Nat, k ≤ s.size ∧ iv = .int .i64 k ∧ nv = .int .i64 (decV (ds.take k) : Nat)) (fun rv nv jv iv => s.size - (intOf iv).toNat)
  case atStart => exact ⟨0, Nat.zero_le _, rfl, rfl⟩
  case round =>
    obtain ⟨k, hk, rfl, rfl⟩ := hrel
    by_cases hlt : k < s.size
    · have hkd : k < ds.length := by have := HH.out.2.2; omega
      have hc := HH.out.2.1 k hlt
      have hv := decV_lt ds k HH.out.1
      have hp : 10 ^ k ≤ 10 ^ 5 := Nat.pow_le_pow_right (by decide) (by omega)
      have hsn : decV (ds.take (k + 1)) = 10 * decV (ds.take k) + ds.getD k 0 := by
        rw [List.take_succ_eq_append_getElem hkd, decV_snoc]
        simp [List.getD, List.getElem?_eq_getElem hkd]
      have hd10 : ds.getD k 0 < 10 := by
        rw [List.getD_eq_getElem?_getD, List.getElem?_eq_getElem hkd]
        exact HH.out.1 _ (List.getElem_mem _)
      obtain ⟨d, hde⟩ : ∃ d, ds.getD k 0 = d := ⟨_, rfl⟩
      obtain ⟨v, hve⟩ : ∃ v, decV (ds.take k) = v := ⟨_, rfl⟩
      rw [hde] at hc hsn hd10
      rw [hve] at hv hsn ⊢
      have hv2 : (v : Int) ≤ 100000 := by omega
      have hg1 : ¬ s[k].toNat < 48 := by omega
      have hg2 : ¬ 57 < s[k].toNat := by omega
      have hw8 : IntKind.u8.wrap ((s[k].toNat : Int) - 48) = (d : Int) := by
        rw [hc, show ((48 + d : Nat) : Int) - 48 = (d : Int) by omega]
        exact IntWalk.u8_in _ (by omega)
      have hw64 : IntKind.i64.wrap (d : Int) = d := i64_of (by omega)
      have hw1 : IntKind.i64.wrap (10 * (v : Int)) = 10 * (v : Int) := i64_of (by omega)
      have hw2 : IntKind.i64.wrap (10 * (v : Int) + d) = 10 * (v : Int) + d := i64_of (by omega)
      have hwr : IntKind.i64.wrap ((k : Int) + 1) = (k : Int) + 1 := i64_of (by omega)
      have HS := Lib.hid hsn
      clear hsn hc hv hp hde hve hd10 hkd hk
      go_wp2_with fail
      go_round
      case rel => exact ⟨_, _, _, _, ⟨k + 1, by omega, rfl, rfl⟩, rfl, by rw [HS.out]; go_num, rfl, by go_num⟩
      case measure => simp [intOf]; omega
    · obtain rfl : k = s.size := by omega
      have e : decV (ds.take s.size) = decV ds := by rw [HH.out.2.2, List.take_length]
      rw [e]
      clear e
      go_wp2_with fail
      go_ret
      exact ⟨rfl, rfl⟩
end Go.Proofs.YtcdjkbgedmehjaaDoor
