import Derived.Test.YtonippdileikbaaA3
namespace Go.Proofs.Ytonippdileikbaa
set_option linter.unusedVariables false
open Go.RowKit

theorem Try.info3 : (Try.prog.info? 3).map (fun i => (i.zero, i.size, i.bytes)) = some (some (.int .i64 0), 1, 8) := by kernel_rfl
theorem Try.T63 : SlTy Try.prog 63 3 1 8 (.int .i64 0) := SlTy.of Try.underlying63 Try.info3 rfl Nat.one_pos

/-- where the lines begin, of the first k bytes -/
def stTo (l : List UInt8) : Nat → List Int
  | 0 => [0]
  | k + 1 => if l.getD k 0 = 10 then stTo l k ++ [((k + 1 : Nat) : Int)] else stTo l k
theorem stTo_succ (l : List UInt8) (k : Nat) : stTo l (k + 1) = if l.getD k 0 = 10 then stTo l k ++ [((k + 1 : Nat) : Int)] else stTo l k := rfl
theorem stTo_length (l : List UInt8) : ∀ k, 0 < (stTo l k).length ∧ (stTo l k).length ≤ k + 1
  | 0 => ⟨Nat.one_pos, Nat.le_refl _⟩
  | k + 1 => by
    have := stTo_length l k
    rw [stTo_succ]; split
    · rw [List.length_append]; exact ⟨by omega, by simp; omega⟩
    · omega
def starts (s : ByteArray) : List Int := stTo s.data.toList s.size

theorem getS (s : ByteArray) (k : Nat) (h : k < s.size) : s.data.toList.getD k 0 = s[k] := by
  rw [List.getD, List.getElem?_eq_getElem (by simpa using h)]; rfl
theorem u8_ten (c : UInt8) : c = 10 ↔ (c.toNat : Int) = 10 := by
  constructor
  · rintro rfl; rfl
  · intro h; apply UInt8.toNat_inj.1; show c.toNat = 10; omega

set_option maxHeartbeats 1000000 in
theorem lines_own (s : ByteArray) (w : World) (hs : s.size ≤ 1000000) : Calls Try.prog 27 #[.string s] w fun e w' => ∃ v, e = .returned v ∧ w'.ownsRow w.heap.size 3 1 v (starts s).length (ints (starts s)) ∧ Below w.heap.size w w' := by
  have hs' : (s.size : Int) ≤ 1000000 := by omega
  go_enter Try.func27, Try.ntmps27
  go_wp2_with fail
  generalize hB : w.heap.size = B at *
  go_loopw [3, 8] (fun v i wr => ∃ k : Nat, k ≤ s.size ∧ i = .int .i64 k ∧ wr.ownsRow B 3 1 v (stTo s.data.toList k).length (ints (stTo s.data.toList k)) ∧ Below B w wr) (fun _ i _ => s.size - (intOf i).toNat)
  case atStart =>
    have hb : Blk (w.alloc (.cells #[.int .i64 0] 3)) B 3 [.int .i64 0] := hB ▸ Blk.new 3 [.int .i64 0]
    exact ⟨0, Nat.zero_le _, rfl, hb.own (by rfl) (by decide) B (Nat.le_refl _), (Below.refl _ _).alloc (Nat.le_of_eq hB.symm) _⟩
  case round =>
    obtain ⟨k, hk, rfl, hown, hbel⟩ := hrel
    have hBw : B ≤ wr.heap.size := hB ▸ hbel.size
    by_cases hlt : k < s.size
    · have hsucc := stTo_succ s.data.toList k
      have hln := stTo_length s.data.toList k
      have hg := getS s k hlt
      have hu := u8_ten s[k]
      rw [hg] at hsucc
      have HS := Lib.hid (And.intro hsucc hu)
      have HR := Lib.hid (And.intro hown hbel)
      clear hsucc hg hu hown hbel
      by_cases h10 : (s[k].toNat : Int) = 10
      · have h10b : ((s[k].toNat : Int) == 10) = true := by simp [h10]
        have H10 := Lib.hid h10
        clear h10
        go_wp2_with (at_builtin; go_must ((refine wpList_app rfl _ _ 63 rfl Try.T63 B _ _ _ rfl (HR.out.1.alloc (Obj.cells #[Value.int IntKind.i64 ((k : Int) + 1)] 3)) _ 1 1 [_] rfl _ (new_at _ _ _ rfl) rfl rfl (by simp [Value.oneCell']) Nat.one_pos (by omega) (by omega) (by simp only [World.size_alloc]; omega) ?_); intro gk cap w4 happ; have HP := Lib.hid happ; clear happ))
        go_roundw
        case rel =>
          refine ⟨k + 1, by omega, by go_num, ?_, HP.out.below (HR.out.2.alloc hBw _) (by simp only [World.size_alloc]; omega) (fun k hk => (HR.out.1.lt k hk).1)⟩
          rw [HS.out.1, if_pos (HS.out.2.2 H10.out), ints_snoc, List.length_append]
          exact HP.out.own
        case measure => simp [intOf]; omega
      · have h10b : ((s[k].toNat : Int) == 10) = false := by simp [h10]
        have H10 := Lib.hid h10
        clear h10
        go_wp2_with fail
        go_roundw
        case rel =>
          refine ⟨k + 1, by omega, by go_num, ?_, HR.out.2⟩
          rw [HS.out.1, if_neg (fun h => H10.out (HS.out.2.1 h))]
          exact HR.out.1
        case measure => simp [intOf]; omega
    · obtain rfl : k = s.size := by omega
      have HR := Lib.hid (And.intro hown hbel)
      clear hown hbel hlt
      go_wp2_with fail
      go_ret
      exact ⟨_, rfl, hB ▸ HR.out.1, hB ▸ HR.out.2⟩
end Go.Proofs.Ytonippdileikbaa
