import Derived.Test.YtonippdileikbaaA18
namespace Go.Proofs.Ytonippdileikbaa
set_option linter.unusedVariables false
open Go.RowKit

theorem Try.info9 : (Try.prog.info? 9).map (fun i => (i.zero, i.size, i.bytes)) = some (some (.string { data := #[] }), 1, 16) := by kernel_rfl
theorem Try.T39 : SlTy Try.prog 39 9 1 16 (.string { data := #[] }) := SlTy.of Try.underlying39 Try.info9 rfl Nat.one_pos
theorem Try.info34 : (Try.prog.info? 34).map (fun i => (i.zero, i.size, i.bytes)) = some (some (.agg #[.string { data := #[] }, .string { data := #[] }]), 2, 32) := by kernel_rfl
theorem Try.T29 : SlTy Try.prog 29 34 2 32 (.agg #[.string { data := #[] }, .string { data := #[] }]) := SlTy.of Try.underlying29 Try.info34 rfl (by decide)

def strs (l : List ByteArray) : List Value := l.map .string
theorem strs_snoc (l : List ByteArray) (s : ByteArray) : strs (l ++ [s]) = strs l ++ [.string s] := by simp [strs]
theorem strs_at (l : List ByteArray) (i : Nat) (h : i < l.length) : (strs l)[i]? = some (.string (l.getD i default)) := by
  rw [strs, List.getElem?_map, List.getD, List.getElem?_eq_getElem h]; rfl

/-- of the first k bytes: the lines that have ended, and where the next begins -/
def lnTo (s : ByteArray) : Nat → List ByteArray × Nat
  | 0 => ([], 0)
  | k + 1 => if s.data.toList.getD k 0 = 10 then ((lnTo s k).1 ++ [s.extract (lnTo s k).2 k], k + 1) else lnTo s k
theorem lnTo_succ (s : ByteArray) (k : Nat) : lnTo s (k + 1) = if s.data.toList.getD k 0 = 10 then ((lnTo s k).1 ++ [s.extract (lnTo s k).2 k], k + 1) else lnTo s k := rfl
theorem lnTo_le (s : ByteArray) : ∀ k, (lnTo s k).2 ≤ k ∧ (lnTo s k).1.length ≤ k
  | 0 => ⟨Nat.le_refl _, Nat.le_refl _⟩
  | k + 1 => by
    have := lnTo_le s k
    rw [lnTo_succ]; split
    · simp; omega
    · omega
/-- the reference's lines -/
def refLines (s : ByteArray) : List ByteArray := (lnTo s s.size).1 ++ [s.extract (lnTo s s.size).2 s.size]

set_option maxHeartbeats 1000000 in
theorem refLines_any (s : ByteArray) (w : World) (hs : s.size ≤ 1000000) : Calls Try.prog 16 #[.string s] w fun e w' => ∃ v, e = .returned v ∧ w'.ownsRow w.heap.size 9 1 v (refLines s).length (strs (refLines s)) ∧ Below w.heap.size w w' := by
  have hs' : (s.size : Int) ≤ 1000000 := by omega
  go_enter Try.func16, Try.ntmps16
  go_wp2_with fail
  generalize hB : w.heap.size = B at *
  go_loopw [3, 4, 5] (fun v f i wr => (∃ k : Nat, k ≤ s.size ∧ i = .int .i64 k ∧ f = .int .i64 (lnTo s k).2 ∧ wr.ownsRow B 9 1 v (lnTo s k).1.length (strs (lnTo s k).1) ∧ Below B w wr) ∨ (∃ f', f = .int .i64 f' ∧ i = .int .i64 ((s.size : Int) + 1) ∧ wr.ownsRow B 9 1 v (refLines s).length (strs (refLines s)) ∧ Below B w wr)) (fun _ _ i _ => s.size + 1 - (intOf i).toNat)
  case atStart => exact .inl ⟨0, Nat.zero_le _, rfl, rfl, World.ownsRow_nil _ _ _ _, Below.refl _ _⟩
  case round =>
    rcases hrel with ⟨k, hk, rfl, rfl, hown, hbel⟩ | ⟨f', rfl, rfl, hown, hbel⟩
    · have hBw : B ≤ wr.heap.size := hB ▸ hbel.size
      have hki : (k : Int) ≤ s.size := by omega
      have hle := lnTo_le s k
      have HR := Lib.hid (And.intro hown hbel)
      clear hown hbel
      have HL := Lib.hid (lnTo_succ s k)
      obtain ⟨F, hF⟩ : ∃ F, (lnTo s k).2 = F := ⟨_, rfl⟩
      rw [hF] at hle
      have hFi : (F : Int) ≤ k := by omega
      have HF := Lib.hid hF
      rw [hF]
      clear hF
      by_cases hlt : k < s.size
      · have hu := u8_ten s[k]
        have hg := getS s k hlt
        have hlti : (k : Int) < s.size := by omega
        have hne : ((k : Int) == s.size) = false := by simp; omega
        by_cases h10 : (s[k].toNat : Int) = 10
        · have h10b : ((s[k].toNat : Int) == 10) = true := by simp [h10]
          have H10 := Lib.hid (hg.trans (hu.2 h10))
          clear h10 hu hg
          go_wp2_with (at_builtin; go_must ((refine wpList_app rfl _ _ 39 rfl Try.T39 B _ _ _ rfl (HR.out.1.alloc (Obj.cells #[.string (s.extract F k)] 9)) _ 1 1 [_] rfl _ (new_at _ _ _ rfl) rfl rfl (by simp [Value.oneCell']) Nat.one_pos (by omega) (by omega) (by simp only [World.size_alloc]; omega) ?_); intro gk cap w4 happ; have HP := Lib.hid happ; clear happ))
          go_roundw
          case rel =>
            refine .inl ⟨k + 1, by omega, by go_num, ?_, ?_, HP.out.below (HR.out.2.alloc hBw _) (by simp only [World.size_alloc]; omega) (fun k hk => (HR.out.1.lt k hk).1)⟩
            · rw [HL.out, if_pos H10.out]; go_num
            · rw [HL.out, if_pos H10.out, strs_snoc, List.length_append, HF.out]
              exact HP.out.own
          case measure => simp [intOf]; omega
        · have h10b : ((s[k].toNat : Int) == 10) = false := by simp [h10]
          have H10 := Lib.hid (fun h => h10 (hu.1 (hg.symm.trans h)))
          clear h10 hu hg
          go_wp2_with fail
          go_roundw
          case rel =>
            refine .inl ⟨k + 1, by omega, by go_num, ?_, ?_, HR.out.2⟩
            · rw [HL.out, if_neg H10.out, HF.out]
            · rw [HL.out, if_neg H10.out]
              exact HR.out.1
          case measure => simp [intOf]; omega
      · obtain rfl : k = s.size := by omega
        have hne : ((s.size : Int) == s.size) = true := by simp
        go_wp2_with (at_builtin; go_must ((refine wpList_app rfl _ _ 39 rfl Try.T39 B _ _ _ rfl (HR.out.1.alloc (Obj.cells #[.string (s.extract F s.size)] 9)) _ 1 1 [_] rfl _ (new_at _ _ _ rfl) rfl rfl (by simp [Value.oneCell']) Nat.one_pos (by omega) (by omega) (by simp only [World.size_alloc]; omega) ?_); intro gk cap w4 happ; have HP := Lib.hid happ; clear happ))
        go_roundw
        case rel =>
          refine .inr ⟨_, rfl, rfl, ?_, HP.out.below (HR.out.2.alloc hBw _) (by simp only [World.size_alloc]; omega) (fun k hk => (HR.out.1.lt k hk).1)⟩
          rw [refLines, strs_snoc, List.length_append, HF.out]
          exact HP.out.own
        case measure => simp [intOf]
    · have HR := Lib.hid (And.intro hown hbel)
      clear hown hbel
      go_wp2_with fail
      go_ret
      exact ⟨_, rfl, hB ▸ HR.out.1, hB ▸ HR.out.2⟩
end Go.Proofs.Ytonippdileikbaa
