import Derived.Test.YtcifiibpiooeiaaGreatDoorE3
import Derived.Laws.BytesString
import Derived.Lib.ItoaLen
namespace Go.Proofs.YtcifiibpiooeiaaGreatDoor
set_option linter.unusedVariables false
open Go.RowKit Go.Sort Go.ChangeShapes Go.Deep

/-! ## the reference's numbers and text -/
/-- a string of one byte that was made just now -/
theorem run_byte (w : World) (x : Int) : (convert 52 9 (.slice (some ⟨w.heap.size, 0, none⟩) 1 1)).run Tryz.prog (w.alloc (.cells #[.int .u8 x] 5)) = .ok (.string ⟨#[UInt8.ofNat x.toNat]⟩) (w.alloc (.cells #[.int .u8 x] 5)) := by
  have hb := Blk.new (w := w) 5 [.int .u8 x]
  rw [run_convert_bytes_string _ 52 9 5 _ 1 1 Tryz.underlying52 Tryz.underlying5 Tryz.underlying9]
  rw [run_bytesToString _ ⟨w.heap.size, 0, none⟩ 1 1 [x]]
  · rfl
  · rw [run_loadCells _ ⟨w.heap.size, 0, none⟩ 1 (fun j => .int .u8 x) (fun j hj => by
      obtain rfl : j = 0 := by omega
      exact hb.cell (i := 0) rfl)]
    rfl
def digB (d : Nat) : UInt8 := UInt8.ofNat (48 + d)
set_option maxRecDepth 100000 in
set_option maxHeartbeats 4000000 in
theorem dec_any {w : World} (n : Nat) (hn : n ≤ 1000000000) : Calls Tryz.prog 61 #[.int .i64 n] w fun e w' => e = .returned (.string ⟨(Lib.decDigits n).toArray⟩) ∧ Below w.heap.size w w' := by
  have hni : (n : Int) ≤ 1000000000 := by omega
  have hn0 : (0 : Int) ≤ n := by omega
  clear hn
  go_enter Tryz.func61, Tryz.ntmps61
  go_wp2_with fail
  go_loopw [0, 3] (fun nv sv wr => ∃ (m : Nat) (t : List UInt8), m ≤ n ∧ nv = .int .i64 m ∧ sv = .string ⟨t.toArray⟩ ∧ t.length ≤ n ∧ Lib.decDigits n = Lib.decDigits m ++ t ∧ m + t.length ≤ n ∧ Below w.heap.size w wr) (fun nv _ _ => (intOf nv).toNat)
  case atStart => exact ⟨n, [], Nat.le_refl _, rfl, rfl, Nat.zero_le _, by simp, by simp, Below.refl _ _⟩
  case round =>
    obtain ⟨m, t, hm, rfl, rfl, ht, he, hmt, hb⟩ := hrel
    have hmi : (m : Int) ≤ 1000000000 := by omega
    have hm0 : (0 : Int) ≤ m := by omega
    have htl : (t.length : Int) ≤ 1000000000 := by omega
    by_cases h9 : 9 < m
    · have hd : decide ((9 : Int) < m) = true := decide_eq_true (by omega)
      have hu : IntKind.u8.wrap (48 + (m : Int) % 10) = 48 + (m : Int) % 10 := by unfold IntKind.wrap; simp [IntKind.bits, IntKind.signed]; omega
      have hrun := run_byte wr (48 + (m : Int) % 10)
      obtain ⟨c, hc⟩ : ∃ c, UInt8.ofNat (48 + (m : Int) % 10).toNat = c := ⟨_, rfl⟩
      rw [hc] at hrun
      have hc' : c = UInt8.ofNat (48 + m % 10) := by rw [← hc]; congr 1; try omega
      have hst : Lib.decDigits n = Lib.decDigits (m / 10) ++ c :: t := by
        rw [he, Lib.decDigits, dif_neg (by omega), hc', List.append_assoc]; rfl
      have hba : (⟨#[c]⟩ ++ ⟨t.toArray⟩ : ByteArray) = ⟨(c :: t).toArray⟩ := bytes_ext (by simp)
      have HX := Lib.hid (And.intro hst (And.intro hmt (And.intro hb (And.intro h9 (And.intro hm (And.intro ht hba))))))
      clear he hmt hb h9 hm ht hc hc' hst hba
      go_wp2_with fail
      go_roundw
      case rel =>
        obtain ⟨x1, x2, x3, x4, x5, x6, x7⟩ := HX.out
        rw [x7]
        exact ⟨m / 10, c :: t, by omega, by go_num, rfl, by simp only [List.length_cons]; omega, x1, by simp only [List.length_cons]; omega, x3.alloc x3.size _⟩
      case measure => have := HX.out.2.2.2.1; simp [intOf]; omega
    · have hd : decide ((9 : Int) < m) = false := decide_eq_false (by omega)
      have hu : IntKind.u8.wrap (48 + (m : Int)) = 48 + (m : Int) := by unfold IntKind.wrap; simp [IntKind.bits, IntKind.signed]; omega
      have hrun := run_byte wr (48 + (m : Int))
      obtain ⟨c, hc⟩ : ∃ c, UInt8.ofNat (48 + (m : Int)).toNat = c := ⟨_, rfl⟩
      rw [hc] at hrun
      have hc' : c = UInt8.ofNat (48 + m) := by rw [← hc]; congr 1
      have hst : Lib.decDigits n = c :: t := by
        rw [he, Lib.decDigits, dif_pos (by omega), hc']; rfl
      have hba : (⟨#[c]⟩ ++ ⟨t.toArray⟩ : ByteArray) = ⟨(c :: t).toArray⟩ := bytes_ext (by simp)
      have HX := Lib.hid (And.intro hst (And.intro hb hba))
      clear he hmt hb h9 hm ht hc hc' hst hba
      go_wp2_with fail
      go_ret
      exact ⟨by rw [HX.out.2.2, HX.out.1]; rfl, HX.out.2.1.alloc HX.out.2.1.size _⟩

set_option maxRecDepth 100000 in
set_option maxHeartbeats 4000000 in
theorem rint_any {w : World} (n : Int) (hn : n.natAbs ≤ 1000000000) : Calls Tryz.prog 28 #[.int .i64 n] w fun e w' => e = .returned (.string ⟨(Lib.itoa n).toArray⟩) ∧ Below w.heap.size w w' := by
  by_cases h : n < 0
  · have hn1 : IntKind.i64.wrap (-n) = ((n.natAbs : Nat) : Int) := (i64_of (by omega)).trans (by omega)
    have HD := Lib.hid (dec_any (w := w) n.natAbs (by omega))
    have hln : (Lib.decDigits n.natAbs).length ≤ 20 := by rw [Lib.decDigits_length]; exact Lib.nDigits_le20 _ (by omega)
    have he : Lib.itoa n = 45 :: Lib.decDigits n.natAbs := by unfold Lib.itoa; rw [if_pos h]
    obtain ⟨D, hD⟩ : ∃ D, Lib.decDigits n.natAbs = D := ⟨_, rfl⟩
    rw [hD] at HD hln he
    rw [he]
    have hba : (⟨#[45]⟩ ++ ⟨D.toArray⟩ : ByteArray) = ⟨(45 :: D).toArray⟩ := bytes_ext (by simp)
    have HX := Lib.hid hba
    have hli : (D.length : Int) ≤ 20 := by omega
    clear hD he hba hln hn
    go_enter Tryz.func28, Tryz.ntmps28
    go_wp2_with fail
    refine HD.out.mono ?_
    rintro e w1 ⟨rfl, hb⟩
    have HB := Lib.hid hb
    clear hb
    go_wp2_with fail
    go_ret
    exact ⟨by rw [HX.out]; rfl, HB.out⟩
  · obtain ⟨m, rfl⟩ : ∃ m : Nat, n = m := ⟨n.toNat, by omega⟩
    have HD := Lib.hid (dec_any (w := w) m (by omega))
    have he : Lib.itoa (m : Int) = Lib.decDigits m := by unfold Lib.itoa; rw [if_neg h]; simp
    rw [he]
    have hm0 : (0 : Int) ≤ m := by omega
    clear he hn h
    go_enter Tryz.func28, Tryz.ntmps28
    go_wp2_with fail
    refine HD.out.mono ?_
    rintro e w1 ⟨rfl, hb⟩
    have HB := Lib.hid hb
    clear hb
    go_wp2_with fail
    go_ret
    exact ⟨rfl, HB.out⟩
end Go.Proofs.YtcifiibpiooeiaaGreatDoor
