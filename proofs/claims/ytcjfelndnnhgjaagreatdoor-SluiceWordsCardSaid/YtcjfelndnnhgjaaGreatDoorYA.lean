/- Texts of this claim, one behind another: X1, X2, X3, X4, X5. They state lemmas; each names its own conditions. -/
import Derived.Test.YtcjfelndnnhgjaaGreatDoorY9
import Derived.Test.YtcjfelndnnhgjaaGreatDoorS1
import Derived.OwnWalk
namespace Go.Proofs.YtcjfelndnnhgjaaGreatDoor
set_option linter.unusedVariables false
open Go.RowKit

/-! # lex: bytes, spans, numbers -/
def digB (c : Nat) : Bool := decide (48 ≤ c) && decide (c ≤ 57)
def letB (c : Nat) : Bool := decide (97 ≤ c ∧ c ≤ 122 ∨ 65 ≤ c ∧ c ≤ 90 ∨ c = 95)
theorem digB_32 {c : Nat} (h : digB c = true) : c ≠ 32 := by unfold digB at h; simp at h; omega
theorem letB_32 {c : Nat} (h : letB c = true) : c ≠ 32 := by unfold letB at h; simp at h; omega
set_option maxHeartbeats 1000000 in
theorem digit_any (c : Nat) (w : World) : Calls Tryz.prog 50 #[.int .u8 c] w fun e w' => e = .returned (.bool (digB c)) ∧ w = w' := by
  by_cases h1 : 48 ≤ c
  · by_cases h2 : c ≤ 57
    · have hv : digB c = true := by unfold digB; simp [h1, h2]
      have a1 : (48 : Int) ≤ c := by omega
      have a2 : (c : Int) ≤ 57 := by omega
      rw [hv]
      clear hv h1 h2
      go_enter Tryz.func50, Tryz.ntmps50
      go_wp2_with fail
      go_ret
      exact ⟨rfl, rfl⟩
    · have hv : digB c = false := by unfold digB; simp [h2]
      have a1 : (48 : Int) ≤ c := by omega
      have a2 : ¬ (c : Int) ≤ 57 := by omega
      rw [hv]
      clear hv h1 h2
      go_enter Tryz.func50, Tryz.ntmps50
      go_wp2_with fail
      go_ret
      exact ⟨rfl, rfl⟩
  · have hv : digB c = false := by unfold digB; simp [h1]
    have a1 : ¬ (48 : Int) ≤ c := by omega
    rw [hv]
    clear hv h1
    go_enter Tryz.func50, Tryz.ntmps50
    go_wp2_with fail
    go_ret
    exact ⟨rfl, rfl⟩
set_option maxHeartbeats 4000000 in
theorem letter_lex (c : Nat) (w : World) : Calls Tryz.prog 48 #[.int .u8 c] w fun e w' => e = .returned (.bool (letB c)) ∧ w = w' := by
  obtain ⟨q, hq⟩ : ∃ q, letB c = q := ⟨_, rfl⟩
  rw [hq]
  have HQ := Lib.hid hq
  clear hq
  have h1 : (97 : Int) ≤ c ∨ ¬ (97 : Int) ≤ c := Classical.em _
  have h2 : (c : Int) ≤ 122 ∨ ¬ (c : Int) ≤ 122 := Classical.em _
  have h3 : (65 : Int) ≤ c ∨ ¬ (65 : Int) ≤ c := Classical.em _
  have h4 : (c : Int) ≤ 90 ∨ ¬ (c : Int) ≤ 90 := Classical.em _
  have h5 : ((c : Int) == 95) = true ∨ ((c : Int) == 95) = false := by cases (c : Int) == 95 <;> simp
  rcases h1 with h1 | h1 <;> rcases h2 with h2 | h2 <;> rcases h3 with h3 | h3 <;> rcases h4 with h4 | h4 <;> rcases h5 with h5 | h5
  all_goals first
    | (exfalso; omega)
    | (go_enter Tryz.func48, Tryz.ntmps48
       go_wp2_with fail
       go_ret
       refine ⟨congrArg (fun b => Ending.returned (Value.bool b)) ?_, rfl⟩
       rw [← HQ.out]
       unfold letB
       simp only [beq_iff_eq, beq_eq_false_iff_ne] at h5
       simp only [eq_comm (a := true), eq_comm (a := false), decide_eq_true_eq, decide_eq_false_iff_not]
       omega)
/-- a function value that answers P of a byte and changes nothing -/
structure AskB (k : FuncId) (P : Nat → Bool) : Prop where
  e : ∀ args w, Sem.run Tryz.prog (callFunc k args) w = .ok (.enter k args) w
  c : ∀ (c : Nat) w, c < 256 → Calls Tryz.prog k #[.int .u8 c] w fun e w' => e = .returned (.bool (P c)) ∧ w = w'
set_option maxRecDepth 100000 in
set_option maxHeartbeats 4000000 in
theorem span_any {k : FuncId} {P : Nat → Bool} (hk : AskB k P) (s : ByteArray) (hs : s.size ≤ 1000000) (w : World) : Calls Tryz.prog 33 #[.string s, .func (Fn.func k) #[] #[]] w fun e w' => ∃ n : Nat, n ≤ s.size ∧ (∀ (i : Nat) (h : i < s.size), i < n → P s[i].toNat = true) ∧ (∀ h : n < s.size, P s[n].toNat = false) ∧ e = .returned (.int .i64 n) ∧ w = w' := by
  have HK := Lib.hid hk
  have hsi : (s.size : Int) ≤ 1000000 := by omega
  clear hk hs
  go_enter Tryz.func33, Tryz.ntmps33
  go_wp2_with fail
  go_loop [5] (fun iv => ∃ n : Nat, n ≤ s.size ∧ iv = .int .i64 n ∧ ∀ (i : Nat) (h : i < s.size), i < n → P s[i].toNat = true) (fun iv => s.size - (intOf iv).toNat)
  case atStart => exact ⟨0, Nat.zero_le _, rfl, fun i _ h => absurd h (Nat.not_lt_zero _)⟩
  case round =>
    obtain ⟨n, hn, rfl, hp⟩ := hrel
    have HP := Lib.hid hp
    clear hp
    by_cases hlt : n < s.size
    · have hC := Lib.hid (HK.out.c s[n].toNat w (UInt8.toNat_lt _))
      obtain ⟨q, hq⟩ : ∃ q, P s[n].toNat = q := ⟨_, rfl⟩
      rw [hq] at hC
      have HQ := Lib.hid (And.intro hq hlt)
      have hni : (n : Int) < s.size := by omega
      have hn0 : (0 : Int) ≤ n := by omega
      have hnw : IntKind.i64.wrap ((n : Int) + 1) = (n : Int) + 1 := L.i64_of (by omega)
      clear hq hn
      go_wp2_with fail
      rw [HK.out.e, Oper.upon_enter]
      refine hC.out.mono ?_; rintro e w' ⟨rfl, rfl⟩
      clear hC
      cases q
      · go_wp2_with fail
        go_ret
        exact ⟨n, Nat.le_of_lt HQ.out.2, HP.out, fun _ => HQ.out.1, rfl, rfl⟩
      · go_wp2_with fail
        go_round
        case rel =>
          refine ⟨n + 1, HQ.out.2, by go_num, fun i h hi => ?_⟩
          by_cases e : i = n
          · subst e; exact HQ.out.1
          · exact HP.out i h (by omega)
        case measure => have := HQ.out.2; simp [intOf]; omega
    · obtain rfl : n = s.size := by omega
      clear hlt hn
      go_wp2_with fail
      go_ret
      exact ⟨_, Nat.le_refl _, HP.out, fun h => absurd h (Nat.lt_irrefl _), rfl, rfl⟩
end Go.Proofs.YtcjfelndnnhgjaaGreatDoor
namespace Go.Proofs.YtcjfelndnnhgjaaGreatDoor
set_option linter.unusedVariables false
open Go.RowKit

/-! # lex: the closures, number, sign, word -/
theorem orB {a b : Bool} : (if a = true then true else b) = (a || b) := by cases a <;> simp
theorem word1_ask : AskB 49 (fun c => letB c || digB c) where
  e := fun _ _ => by kernel_rfl
  c := fun c w _ => by
    have H1 := Lib.hid (letter_lex c w)
    have H2 := Lib.hid (digit_any c w)
    obtain ⟨p, hp⟩ : ∃ p, letB c = p := ⟨_, rfl⟩
    obtain ⟨q, hq⟩ : ∃ q, digB c = q := ⟨_, rfl⟩
    simp only [hp, hq] at H1 H2 ⊢
    clear hp hq
    go_enter Tryz.func49, Tryz.ntmps49
    go_wp2_with fail
    refine H1.out.mono ?_; rintro e w' ⟨rfl, rfl⟩
    cases p
    · go_wp2_with fail
      refine H2.out.mono ?_; rintro e w' ⟨rfl, rfl⟩
      go_wp2_with fail
      go_ret
      exact ⟨rfl, rfl⟩
    · go_wp2_with fail
      go_ret
      exact ⟨rfl, rfl⟩
theorem number2_ask : AskB 71 (fun c => digB c || letB c) where
  e := fun _ _ => by kernel_rfl
  c := fun c w _ => by
    have H1 := Lib.hid (letter_lex c w)
    have H2 := Lib.hid (digit_any c w)
    obtain ⟨p, hp⟩ : ∃ p, letB c = p := ⟨_, rfl⟩
    obtain ⟨q, hq⟩ : ∃ q, digB c = q := ⟨_, rfl⟩
    simp only [hp, hq] at H1 H2 ⊢
    clear hp hq
    go_enter Tryz.func71, Tryz.ntmps71
    go_wp2_with fail
    refine H2.out.mono ?_; rintro e w' ⟨rfl, rfl⟩
    cases q
    · go_wp2_with fail
      refine H1.out.mono ?_; rintro e w' ⟨rfl, rfl⟩
      go_wp2_with fail
      go_ret
      exact ⟨rfl, rfl⟩
    · go_wp2_with fail
      go_ret
      exact ⟨rfl, rfl⟩
theorem number1_ask : AskB 70 (fun c => digB c || decide (c = 95)) where
  e := fun _ _ => by kernel_rfl
  c := fun c w _ => by
    have H2 := Lib.hid (digit_any c w)
    obtain ⟨q, hq⟩ : ∃ q, digB c = q := ⟨_, rfl⟩
    simp only [hq] at H2 ⊢
    clear hq
    go_enter Tryz.func70, Tryz.ntmps70
    go_wp2_with fail
    refine H2.out.mono ?_; rintro e w' ⟨rfl, rfl⟩
    cases q
    · go_wp2_with fail
      go_ret
      refine ⟨congrArg (fun b => Ending.returned (Value.bool b)) ?_, rfl⟩
      simp only [Bool.false_or]
      rw [Bool.eq_iff_iff]; simp; omega
    · go_wp2_with fail
      go_ret
      exact ⟨rfl, rfl⟩
def blankB (c : Nat) : Bool := decide (0 ≤ Lib.indexByte [32, 9, 13, 10] (c : Int).toNat.toUInt8)
theorem piece2_ask : AskB 34 blankB where
  e := fun _ _ => by kernel_rfl
  c := fun c w _ => by
    have H2 := Lib.hid (Tryz.strings_IndexByte ⟨#[32, 9, 13, 10]⟩ c w)
    have e : ({ data := #[32, 9, 13, 10] } : ByteArray).data.toList = [32, 9, 13, 10] := rfl
    unfold blankB
    simp only at H2
    clear e
    obtain ⟨q, hq⟩ : ∃ q, Lib.indexByte [32, 9, 13, 10] (c : Int).toNat.toUInt8 = q := ⟨_, rfl⟩
    rw [hq] at H2 ⊢
    clear hq
    go_enter Tryz.func34, Tryz.ntmps34
    go_wp2_with fail
    refine H2.out.mono ?_; rintro e w' ⟨rfl, rfl⟩
    go_wp2_with fail
    go_ret
    exact ⟨rfl, rfl⟩
/-- no byte of the first n is a blank -/
def No32 (s : ByteArray) (n : Nat) : Prop := ∀ (i : Nat) (h : i < s.size), i < n → s[i].toNat ≠ 32
end Go.Proofs.YtcjfelndnnhgjaaGreatDoor
namespace Go.Proofs.YtcjfelndnnhgjaaGreatDoor
set_option linter.unusedVariables false
open Go.RowKit

theorem extract_get {s : ByteArray} {a : Nat} {i : Nat} (h : i < (s.extract a s.size).size) (h' : a + i < s.size) : (s.extract a s.size)[i] = s[a + i] := by
  simp [ByteArray.getElem_eq_getElem_data, ByteArray.data_extract] at h ⊢
set_option maxRecDepth 100000 in
set_option maxHeartbeats 4000000 in
theorem number_any (s : ByteArray) (hs : s.size ≤ 1000000) (w : World) : Calls Tryz.prog 51 #[.string s] w fun e w' => ∃ n : Nat, n ≤ s.size ∧ No32 s n ∧ ((∃ h : 0 < s.size, digB s[0].toNat = true ∨ s[0].toNat = 39) → 1 ≤ n) ∧ e = .returned (.int .i64 n) ∧ w = w' := by
  have H1 := Lib.hid (span_any number1_ask s hs w)
  have H2 : Hid (∀ t : ByteArray, t.size ≤ 1000000 → _) := Lib.hid fun t ht => span_any number2_ask t ht w
  have hsi : (s.size : Int) ≤ 1000000 := by omega
  have HH := Lib.hid hs
  clear hs
  go_enter Tryz.func51, Tryz.ntmps51
  go_wp2_with fail
  refine H1.out.mono ?_; rintro e w' ⟨n, hn, h1, h2, rfl, rfl⟩
  have H3 := Lib.hid (And.intro h1 (And.intro h2 hn))
  clear h1 h2
  by_cases hlt : n < s.size
  · have hni : (n : Int) < s.size := by omega
    by_cases hq : s[n].toNat = 39
    · have hnw : IntKind.i64.wrap ((n : Int) + 1) = (n : Int) + 1 := L.i64_of (by omega)
      have hn1 : (n : Int) + 1 ≤ s.size := by omega
      have hn0 : (0 : Int) ≤ (n : Int) + 1 := by omega
      have hz : (s.extract (n + 1) s.size).size = s.size - (n + 1) := by rw [ByteArray.size_extract]; omega
      go_wp2_with fail
      refine (H2.out (s.extract (n + 1) s.size) (by have := HH.out; omega)).mono ?_; rintro e w' ⟨k, hk, hk1, hk2, rfl, rfl⟩
      have H4 := Lib.hid hk1
      clear hk1 hk2
      rw [hz] at hk
      have hw1 : IntKind.i64.wrap (1 + (k : Int)) = 1 + (k : Int) := L.i64_of (by omega)
      have hw2 : IntKind.i64.wrap ((n : Int) + (1 + (k : Int))) = (n : Int) + (1 + (k : Int)) := L.i64_of (by omega)
      go_wp2_with fail
      go_ret
      refine ⟨n + (1 + k), by omega, fun i h hi => ?_, fun _ => by omega, by go_num, rfl⟩
      by_cases h1 : i < n
      · have := H3.out.1 i h h1; simp only [Bool.or_eq_true, decide_eq_true_eq] at this; rcases this with h' | h'; exact digB_32 h'; omega
      by_cases h2 : i = n
      · subst h2; omega
      · obtain ⟨j, rfl⟩ : ∃ j, i = n + 1 + j := ⟨i - (n + 1), by omega⟩
        have hj : j < (s.extract (n + 1) s.size).size := by rw [hz]; omega
        have := H4.out j hj (by omega)
        rw [extract_get hj h] at this
        simp only [Bool.or_eq_true] at this; rcases this with h' | h'; exact digB_32 h'; exact letB_32 h'
    · have hqi : ¬ (s[n].toNat : Int) = 39 := by omega
      have hqb : ((s[n].toNat : Int) == 39) = false := by simpa using hqi
      go_wp2_with fail
      go_ret
      refine ⟨n, by omega, fun i h h1 => by have := H3.out.1 i h h1; simp only [Bool.or_eq_true, decide_eq_true_eq] at this; rcases this with h' | h'; exact digB_32 h'; omega, fun ⟨h, hh⟩ => ?_, rfl, rfl⟩
      rcases Nat.eq_zero_or_pos n with h0 | h0
      · subst h0
        have := H3.out.2.1 hlt
        simp only [Bool.or_eq_false_iff] at this
        rcases hh with h' | h'
        · rw [this.1] at h'; cases h'
        · exact absurd h' hq
      · exact h0
  · obtain rfl : n = s.size := by omega
    go_wp2_with fail
    go_ret
    exact ⟨_, Nat.le_refl _, fun i h hi => by have := H3.out.1 i h hi; simp only [Bool.or_eq_true, decide_eq_true_eq] at this; rcases this with h' | h'; exact digB_32 h'; omega, fun ⟨h, _⟩ => h, rfl, rfl⟩
end Go.Proofs.YtcjfelndnnhgjaaGreatDoor
namespace Go.Proofs.YtcjfelndnnhgjaaGreatDoor
set_option linter.unusedVariables false
open Go.RowKit

theorem indexByte_neg : ∀ (l : List UInt8) (c : UInt8), ¬ 0 ≤ Lib.indexByte l c → ∀ x, x ∈ l → x ≠ c
  | [], _, _, x, hx => by cases hx
  | b :: l, c, h, x, hx => by
    unfold Lib.indexByte at h
    by_cases hb : b = c
    · subst hb; simp at h
    · have hbf : (b == c) = false := by simpa using hb
      rw [hbf] at h
      simp only [Bool.false_eq_true, if_false] at h
      rcases List.mem_cons.1 hx with rfl | hx
      · exact hb
      · refine indexByte_neg l c (fun h0 => h ?_) x hx
        have hne : (Lib.indexByte l c == -1) = false := by rw [beq_eq_false_iff_ne]; omega
        rw [hne]; simp only [Bool.false_eq_true, if_false]; omega
theorem no32_of {s : ByteArray} {n : Nat} (hn : n ≤ s.size) (h : ¬ 0 ≤ Lib.indexByte (s.extract 0 n).data.toList 32) : No32 s n := by
  intro i hi hin e
  have hz : (s.extract 0 n).size = n := by rw [ByteArray.size_extract]; omega
  have hm : s[i] ∈ (s.extract 0 n).data.toList := by
    have hi' : i < (s.extract 0 n).size := by omega
    have : (s.extract 0 n)[i] = s[i] := by
      simp [ByteArray.getElem_eq_getElem_data, ByteArray.data_extract]
    rw [← this]
    simp only [ByteArray.getElem_eq_getElem_data]
    exact Array.getElem_mem_toList _
  exact indexByte_neg _ _ h _ hm (UInt8.toNat_inj.1 e)
def longC : ByteArray := ⟨#[32, 60, 60, 60, 32, 62, 62, 62, 32, 60, 60, 32, 62, 62, 32, 60, 61, 32, 62, 61, 32, 61, 61, 32, 33, 61, 32, 38, 38, 32, 124, 124, 32, 126, 38, 32, 126, 124, 32, 126, 94, 32, 94, 126, 32]⟩
def singleC : ByteArray := ⟨#[43, 45, 42, 47, 37, 38, 124, 94, 126, 33, 60, 62, 63, 58, 61, 40, 41, 91, 93, 123, 125, 59, 44, 46, 35, 64]⟩
set_option maxRecDepth 100000 in
theorem single_ix (c : Nat) (hc : c < 256) : 0 ≤ Lib.indexByte singleC.data.toList (c : Int).toNat.toUInt8 → c ≠ 32 := by
  rw [Int.toNat_natCast]
  have h : ∀ d : Nat, d < 256 → (0 ≤ Lib.indexByte singleC.data.toList d.toUInt8 → d ≠ 32) := by decide
  exact h c hc
set_option maxRecDepth 100000 in
set_option maxHeartbeats 4000000 in
theorem sign_any (s : ByteArray) (hs : s.size ≤ 1000000) (h0 : 0 < s.size) (w : World) (hM : ∃ m, w.cell? ⟨0, 0, none⟩ = some (.int .i64 m)) : Calls Tryz.prog 53 #[.string s] w fun e w' => ∃ n : Nat, n ≤ s.size ∧ No32 s n ∧ e = .returned (.int .i64 n) ∧ w = w' := by
  obtain ⟨m, hm⟩ := hM
  have H1 : Hid (∀ t : ByteArray, _) := Lib.hid fun t => Tryz.strings_Contains_one t 32 w
  have H2 : Hid (∀ t : ByteArray, _) := Lib.hid fun t => Tryz.strings_Contains longC t m w (by decide) hm
  have H3 : Hid (∀ c, _) := Lib.hid fun c => Tryz.strings_IndexByte singleC c w
  have hsi : (s.size : Int) ≤ 1000000 := by omega
  have h0i : (0 : Int) < s.size := by omega
  have HH := Lib.hid hs
  clear hs hm
  go_enter Tryz.func53, Tryz.ntmps53
  go_wp2_with fail
  go_loop [3] (fun iv => ∃ n : Nat, n ≤ s.size ∧ n ≤ 3 ∧ iv = .int .i64 n) (fun iv => (intOf iv).toNat)
  case atStart =>
    exact ⟨min 3 s.size, Nat.min_le_right _ _, Nat.min_le_left _ _, by congr 1; omega⟩
  case round =>
    obtain ⟨n, hn, hn3, rfl⟩ := hrel
    by_cases hlt : 1 < n
    · have hni : (n : Int) ≤ s.size := by omega
      have hn1 : (1 : Int) < n := by omega
      have hnw : IntKind.i64.wrap ((n : Int) - 1) = (n : Int) - 1 := L.i64_of (by omega)
      have hz : (s.extract 0 n).size = n := by rw [ByteArray.size_extract]; omega
      go_wp2_with fail
      refine (H1.out (s.extract 0 n)).mono ?_; rintro e w' ⟨rfl, rfl⟩
      by_cases hq : 0 ≤ Lib.indexByte (s.extract 0 n).data.toList 32
      · rw [decide_eq_true hq]
        go_wp2_with fail
        go_round
        case rel => exact ⟨n - 1, by omega, by omega, by go_num⟩
        case measure => simp [intOf]; omega
      · rw [decide_eq_false hq]
        have HN := Lib.hid (no32_of hn hq)
        clear hq
        go_wp2_with fail
        refine (H2.out _).mono ?_; rintro e w' ⟨rfl, rfl⟩
        generalize Lib.contains _ _ = b
        cases b
        · go_wp2_with fail
          go_round
          case rel => exact ⟨n - 1, by omega, by omega, by go_num⟩
          case measure => simp [intOf]; omega
        · go_wp2_with fail
          go_ret
          exact ⟨n, hn, HN.out, rfl, rfl⟩
    · have hn1 : ¬ (1 : Int) < n := by omega
      go_wp2_with fail
      refine (H3.out _).mono ?_; rintro e w' ⟨rfl, rfl⟩
      have HN0 := Lib.hid (single_ix _ (UInt8.toNat_lt s[0]))
      obtain ⟨r, hr⟩ : ∃ r, Lib.indexByte singleC.data.toList (s[0].toNat : Int).toNat.toUInt8 = r := ⟨_, rfl⟩
      rw [hr] at HN0 ⊢
      clear hr
      by_cases hq : 0 ≤ r
      · have HN := Lib.hid (HN0.out hq)
        go_wp2_with fail
        go_ret
        exact ⟨1, h0, fun i hi h1 => by obtain rfl : i = 0 := by omega
                                        exact HN.out, rfl, rfl⟩
      · go_wp2_with fail
        go_ret
        exact ⟨0, Nat.zero_le _, fun i hi h1 => by omega, rfl, rfl⟩
end Go.Proofs.YtcjfelndnnhgjaaGreatDoor
namespace Go.Proofs.YtcjfelndnnhgjaaGreatDoor
set_option linter.unusedVariables false
open Go.RowKit

def WordR (s : ByteArray) (w : World) (e : Ending) (w' : World) : Prop := ∃ (kd : Int) (n : Nat) (err : Int), e = .returned (.tuple #[.int .i64 kd, .int .i64 n, .int .i64 err]) ∧ (err = 0 → 1 ≤ n ∧ n ≤ s.size ∧ No32 s n) ∧ Below w.heap.size w w'
set_option maxRecDepth 100000 in
set_option maxHeartbeats 8000000 in
theorem word_any (s : ByteArray) (hs : s.size ≤ 1000000) (h0 : 0 < s.size) (w : World) (hM : ∃ m, w.cell? ⟨0, 0, none⟩ = some (.int .i64 m)) : Calls Tryz.prog 35 #[.string s] w (WordR s w) := by
  have H1 := Lib.hid (letter_lex s[0].toNat w)
  have H2 := Lib.hid (digit_any s[0].toNat w)
  have H3 : Hid (∀ t : ByteArray, t.size ≤ 1000000 → _) := Lib.hid fun t ht => span_any word1_ask t ht w
  have H4 := Lib.hid (number_any s hs w)
  have H5 := Lib.hid (sign_any s hs h0 w hM)
  have H6 : Hid (∀ t : ByteArray, t.size ≤ 1000000 → _) := Lib.hid fun t ht => L.parse_all (w := w) t ht hM
  have h0i : (0 : Int) < s.size := by omega
  have hsi : (s.size : Int) ≤ 1000000 := by omega
  have HH := Lib.hid hs
  have HL : Hid (letB s[0].toNat = true → s[0].toNat ≠ 32) := Lib.hid letB_32
  obtain ⟨p, hp⟩ : ∃ p, letB s[0].toNat = p := ⟨_, rfl⟩
  obtain ⟨q, hq⟩ : ∃ q, digB s[0].toNat = q := ⟨_, rfl⟩
  simp only [hp, hq] at H1 H2 H4 HL
  clear hs hM hp hq
  go_enter Tryz.func35, Tryz.ntmps35
  go_wp2_with fail
  refine H1.out.mono ?_; rintro e w' ⟨rfl, rfl⟩
  have hz : (s.extract 1 s.size).size = s.size - 1 := by rw [ByteArray.size_extract]; omega
  cases p
  · by_cases h36 : s[0].toNat = 36
    · have h36i : (s[0].toNat : Int) = 36 := by omega
      go_wp2_with fail
      refine (H3.out (s.extract 1 s.size) (by have := HH.out; omega)).mono ?_; rintro e w' ⟨k, hk, hk1, hk2, rfl, rfl⟩
      have HK := Lib.hid hk1
      rw [hz] at hk
      clear hk1 hk2
      have HN : Hid (No32 s (1 + k)) := Lib.hid fun i hi hik => by
        rcases Nat.eq_zero_or_pos i with h | h
        · subst h; exact by omega
        · obtain ⟨j, rfl⟩ : ∃ j, i = 1 + j := ⟨i - 1, by omega⟩
          have hj : j < (s.extract 1 s.size).size := by rw [hz]; omega
          have := HK.out j hj (by omega)
          rw [extract_get hj hi] at this
          simp only [Bool.or_eq_true] at this; rcases this with h' | h'; exact letB_32 h'; exact digB_32 h'
      have hw1 : IntKind.i64.wrap (1 + (k : Int)) = 1 + (k : Int) := L.i64_of (by omega)
      have hkw : (1 + (k : Int)) ≤ s.size := by omega
      by_cases h40 : (40 : Int) < 1 + (k : Int)
      · go_wp2_with fail
        all_goals refine bodyPost_ret (results_tmp3 rfl _ _ _) rfl ?_
        all_goals exact ⟨_, 0, 9, rfl, fun h => absurd h (by decide), Below.refl _ _⟩
      · obtain ⟨b, hb⟩ : ∃ b, ((s.extract 0 (1 + k)).toList == [36]) = b := ⟨_, rfl⟩
        cases b
        all_goals go_wp2_with fail
        all_goals refine bodyPost_ret (results_tmp3 rfl _ _ _) rfl ?_
        all_goals first
          | exact ⟨_, 0, 9, rfl, fun h => absurd h (by decide), Below.refl _ _⟩
          | exact ⟨1, 1 + k, 0, by go_num, fun _ => ⟨by omega, by omega, HN.out⟩, Below.refl _ _⟩
    · have h36i : ¬ (s[0].toNat : Int) = 36 := by omega
      go_wp2_with fail
      refine H2.out.mono ?_; rintro e w' ⟨rfl, rfl⟩
      cases q
      · by_cases h39 : s[0].toNat = 39
        · have h39i : (s[0].toNat : Int) = 39 := by omega
          go_wp2_with fail
          refine H4.out.mono ?_; rintro e w' ⟨n, hn, hN, h1, rfl, rfl⟩
          have hni : (n : Int) ≤ s.size := by omega
          have hn0 : (0 : Int) ≤ n := by omega
          have hzn : (s.extract 0 n).size = n := by rw [ByteArray.size_extract]; omega
          have HN := Lib.hid (And.intro hN (And.intro (h1 ⟨h0, .inr h39⟩) hn))
          clear hN h1
          go_wp2_with fail
          refine (H6.out (s.extract 0 n) (by have := HH.out; have := HN.out.2.2; omega)).mono ?_; rintro e w2 ⟨a1, a2, a3, a4, a5, a6, err, rfl, hb⟩
          have HB := Lib.hid hb
          clear hb
          by_cases he : err = 0
          · subst he
            go_wp2_with fail
            refine bodyPost_ret (results_tmp3 rfl _ _ _) rfl ?_
            exact ⟨2, n, 0, rfl, fun _ => ⟨HN.out.2.1, HN.out.2.2, HN.out.1⟩, HB.out.trans ((L.Below.new w2 _).mono HB.out.size)⟩
          · go_wp2_with fail
            refine bodyPost_ret (results_tmp3 rfl _ _ _) rfl ?_
            exact ⟨_, 0, 7, rfl, fun h => absurd h (by decide), HB.out.trans ((L.Below.new w2 _).mono HB.out.size)⟩
        · have h39i : ¬ (s[0].toNat : Int) = 39 := by omega
          go_wp2_with fail
          refine H5.out.mono ?_; rintro e w' ⟨n, hn, hN, rfl, rfl⟩
          have HN := Lib.hid (And.intro hN hn)
          clear hN hn
          by_cases hz : n = 0
          · subst hz
            go_wp2_with fail
            refine bodyPost_ret (results_tmp3 rfl _ _ _) rfl ?_
            exact ⟨_, 0, 7, rfl, fun h => absurd h (by decide), Below.refl _ _⟩
          · have hzi : ¬ (n : Int) = 0 := by omega
            go_wp2_with fail
            refine bodyPost_ret (results_tmp3 rfl _ _ _) rfl ?_
            exact ⟨3, n, 0, rfl, fun _ => ⟨by omega, HN.out.2, HN.out.1⟩, Below.refl _ _⟩
      · have h39 : True := trivial
        go_wp2_with fail
        refine H4.out.mono ?_; rintro e w' ⟨n, hn, hN, h1, rfl, rfl⟩
        have hni : (n : Int) ≤ s.size := by omega
        have hn0 : (0 : Int) ≤ n := by omega
        have hzn : (s.extract 0 n).size = n := by rw [ByteArray.size_extract]; omega
        have HN := Lib.hid (And.intro hN (And.intro (h1 ⟨h0, .inl trivial⟩) hn))
        clear hN h1
        go_wp2_with fail
        refine (H6.out (s.extract 0 n) (by have := HH.out; have := HN.out.2.2; omega)).mono ?_; rintro e w2 ⟨a1, a2, a3, a4, a5, a6, err, rfl, hb⟩
        have HB := Lib.hid hb
        clear hb
        by_cases he : err = 0
        · subst he
          go_wp2_with fail
          refine bodyPost_ret (results_tmp3 rfl _ _ _) rfl ?_
          exact ⟨2, n, 0, rfl, fun _ => ⟨HN.out.2.1, HN.out.2.2, HN.out.1⟩, HB.out.trans ((L.Below.new w2 _).mono HB.out.size)⟩
        · go_wp2_with fail
          refine bodyPost_ret (results_tmp3 rfl _ _ _) rfl ?_
          exact ⟨_, 0, 7, rfl, fun h => absurd h (by decide), HB.out.trans ((L.Below.new w2 _).mono HB.out.size)⟩
  · go_wp2_with fail
    refine (H3.out (s.extract 1 s.size) (by have := HH.out; omega)).mono ?_; rintro e w' ⟨k, hk, hk1, hk2, rfl, rfl⟩
    have HK := Lib.hid hk1
    rw [hz] at hk
    clear hk1 hk2
    have HN : Hid (No32 s (1 + k)) := Lib.hid fun i hi hik => by
      rcases Nat.eq_zero_or_pos i with h | h
      · subst h; exact HL.out trivial
      · obtain ⟨j, rfl⟩ : ∃ j, i = 1 + j := ⟨i - 1, by omega⟩
        have hj : j < (s.extract 1 s.size).size := by rw [hz]; omega
        have := HK.out j hj (by omega)
        rw [extract_get hj hi] at this
        simp only [Bool.or_eq_true] at this; rcases this with h' | h'; exact letB_32 h'; exact digB_32 h'
    have hw1 : IntKind.i64.wrap (1 + (k : Int)) = 1 + (k : Int) := L.i64_of (by omega)
    have hkw : (1 + (k : Int)) ≤ s.size := by omega
    by_cases h40 : (40 : Int) < 1 + (k : Int)
    · go_wp2_with fail
      all_goals refine bodyPost_ret (results_tmp3 rfl _ _ _) rfl ?_
      all_goals exact ⟨_, 0, 9, rfl, fun h => absurd h (by decide), Below.refl _ _⟩
    · obtain ⟨b, hb⟩ : ∃ b, ((s.extract 0 (1 + k)).toList == [36]) = b := ⟨_, rfl⟩
      cases b
      all_goals go_wp2_with fail
      all_goals refine bodyPost_ret (results_tmp3 rfl _ _ _) rfl ?_
      all_goals first
        | exact ⟨_, 0, 9, rfl, fun h => absurd h (by decide), Below.refl _ _⟩
        | exact ⟨1, 1 + k, 0, by go_num, fun _ => ⟨by omega, by omega, HN.out⟩, Below.refl _ _⟩
end Go.Proofs.YtcjfelndnnhgjaaGreatDoor
