import Derived.Test.YtkoggfahjlnecaaGreatDoorN2
namespace Go.Proofs.YtkoggfahjlnecaaGreatDoor
set_option linter.unusedVariables false
open Go.RowKit

theorem str_ne {s : ByteArray} (h : 0 < s.size) : ¬ s.toList = [] ∧ s.toList.isEmpty = false := by
  have hnl : ¬ s.toList = [] := by
    intro e
    rw [ByteArray.toList_eq] at e
    have := congrArg List.length e
    simp only [Array.length_toList, List.length_nil] at this
    have : s.size = 0 := this
    omega
  exact ⟨hnl, by simpa [List.isEmpty_iff] using hnl⟩
/-- what based makes of a base's letter and digits -/
def BasedR (r : List UInt8) (by_ : Nat) (sg : Bool) (w : World) (e : Ending) (w' : World) : Prop := e = .returned (.tuple #[.string ⟨r.toArray⟩, .int .i64 by_, .bool sg, .int .i64 0]) ∧ w = w'
theorem results_tmp4 {fn : Func} {t u v x : Tmp} (h : fn.results = #[.tmp t, .tmp u, .tmp v, .tmp x]) (tmps : Array Value) (P : Program) (w : World) :
    (results fn tmps).run P w = .ok (.tuple #[tmps.getD t undef, tmps.getD u undef, tmps.getD v undef, tmps.getD x undef]) w := by
  simp [results, h]
/-- a text that begins with a letter -/
structure Hd (s : ByteArray) (c : UInt8) (t : ByteArray) : Prop where
  pos : 0 < s.size
  at0 : s[0] = c
  rest : s.extract 1 s.size = t
theorem Hd.of (c : UInt8) (r : List UInt8) : Hd ⟨(c :: r).toArray⟩ c ⟨r.toArray⟩ := by
  have hsz : (⟨(c :: r).toArray⟩ : ByteArray).size = r.length + 1 := by show (c :: r).toArray.size = _; simp
  refine ⟨by omega, rfl, ?_⟩
  apply ByteArray.ext
  rw [ByteArray.data_extract, hsz]
  simp
set_option maxRecDepth 100000 in
set_option maxHeartbeats 1000000 in
theorem based_u {w : World} {s t : ByteArray} {c : UInt8} (h : Hd s c t) (b : Nat) (hb0 : 0 < b) (hc : (bits .or .u8 (c.toNat : Int) 32 == 115) = false) (hb : ∀ w, Calls Tryz.prog 133 #[.int .u8 (c.toNat : Nat)] w fun e w' => e = .returned (.int .i64 b) ∧ w = w') :
    Calls Tryz.prog 99 #[.string s] w fun e w' => e = .returned (.tuple #[.string t, .int .i64 b, .bool false, .int .i64 0]) ∧ w = w' := by
  obtain ⟨h0, hat, hx⟩ := h
  obtain ⟨hnl, hie⟩ := str_ne h0
  rw [← hat] at hc hb
  have HB := Lib.hid hb
  have hb0' : (0 : Int) < b := by omega
  have hbe : ((b : Int) == 0) = false := by simp; omega
  clear hb hat
  go_enter Tryz.func99, Tryz.ntmps99
  go_wp2_with fail
  refine (HB.out _).mono ?_; rintro e w' ⟨rfl, rfl⟩
  go_wp2_with fail
  (try simp only [Exit.inBlock, Exit.then])
  refine bodyPost_ret (results_tmp4 rfl _ _ _) rfl ?_
  exact ⟨rfl, rfl⟩
set_option maxRecDepth 100000 in
set_option maxHeartbeats 1000000 in
theorem based_s {w : World} {s s2 t : ByteArray} {c : UInt8} (h1 : Hd s 115 s2) (h : Hd s2 c t) (b : Nat) (hb0 : 0 < b) (hb : ∀ w, Calls Tryz.prog 133 #[.int .u8 (c.toNat : Nat)] w fun e w' => e = .returned (.int .i64 b) ∧ w = w') :
    Calls Tryz.prog 99 #[.string s] w fun e w' => e = .returned (.tuple #[.string t, .int .i64 b, .bool true, .int .i64 0]) ∧ w = w' := by
  obtain ⟨j0, jat, jx⟩ := h1
  obtain ⟨jnl, jie⟩ := str_ne j0
  obtain ⟨h0, hat, hx⟩ := h
  obtain ⟨hnl, hie⟩ := str_ne h0
  rw [← hat] at hb
  have hc : (bits .or .u8 (s[0].toNat : Int) 32 == 115) = true := by rw [jat]; decide
  have HB := Lib.hid hb
  have hb0' : (0 : Int) < b := by omega
  have hbe : ((b : Int) == 0) = false := by simp; omega
  clear hb hat jat
  go_enter Tryz.func99, Tryz.ntmps99
  go_wp2_with fail
  refine (HB.out _).mono ?_; rintro e w' ⟨rfl, rfl⟩
  go_wp2_with fail
  (try simp only [Exit.inBlock, Exit.then])
  refine bodyPost_ret (results_tmp4 rfl _ _ _) rfl ?_
  exact ⟨rfl, rfl⟩
end Go.Proofs.YtkoggfahjlnecaaGreatDoor
