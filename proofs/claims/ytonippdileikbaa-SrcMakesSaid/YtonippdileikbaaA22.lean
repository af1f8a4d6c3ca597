import Derived.Test.YtonippdileikbaaA21
namespace Go.Proofs.Ytonippdileikbaa
set_option linter.unusedVariables false
open Go.RowKit

def RefNewPost (w : World) (fs : List Fil) (e : Ending) (w' : World) : Prop := ∃ err, NewErr fs err ∧ e = .returned (.int .i64 err) ∧ Below w.heap.size w w'

set_option maxHeartbeats 2000000 in
theorem refNew_any {w : World} (v : Value) (fs : List Fil) (hr : RO w v 2 fs.length (filCells fs)) (hl : fs.length ≤ 20) (hsz : ∀ i, i < fs.length → (fs.getD i default).name.size ≤ maxLen) (htz : ∀ i, i < fs.length → (fs.getD i default).text.size ≤ 140737488355328) : Calls Try.prog 12 #[v] w (RefNewPost w fs) := by
  obtain ⟨p, c, rfl⟩ := hr.form
  have hl' : (fs.length : Int) ≤ 20 := by omega
  have H := Lib.hid (And.intro hr (And.intro hsz htz))
  clear hr hsz htz
  by_cases h16 : 16 < fs.length
  · have h16' : (16 : Int) < fs.length := by omega
    go_enter Try.func12, Try.ntmps12
    go_wp2_with fail
    go_ret
    exact ⟨19, .inl ⟨h16, rfl⟩, rfl, Below.refl _ _⟩
  have h16' : (fs.length : Int) ≤ 16 := by omega
  go_enter Try.func12, Try.ntmps12
  go_wp2_with fail
  go_loop [3] (fun i => ∃ k : Nat, k ≤ fs.length ∧ i = .int .i64 k ∧ ∀ j, j < k → isName (fs.getD j default).name = true) (fun i => fs.length - (intOf i).toNat)
  case atStart => exact ⟨0, Nat.zero_le _, rfl, fun j hj => absurd hj (Nat.not_lt_zero _)⟩
  case round =>
    obtain ⟨k, hk, rfl, hno⟩ := hrel
    have HN := Lib.hid hno
    clear hno
    by_cases hlt : k < fs.length
    · obtain ⟨bb, o, rfl⟩ := H.out.1.sl (fils_at fs k hlt).1
      have f0 := H.out.1.cell (fils_at fs k hlt).1
      have hlti : (k : Int) < fs.length := by omega
      obtain ⟨r, hr⟩ : ∃ r, isName (fs.getD k default).name = r := ⟨_, rfl⟩
      have HC := Lib.hid (fun w => refNamed_any (fs.getD k default).name w (H.out.2.1 k hlt))
      rw [hr] at HC
      have HR := Lib.hid hr
      clear hr
      obtain ⟨nm, hnm⟩ : ∃ nm, (fs.getD k default).name = nm := ⟨_, rfl⟩
      rw [hnm] at f0 HC
      clear hnm
      go_wp2_with fail
      refine (HC.out _).mono ?_; rintro e w' ⟨rfl, rfl⟩
      cases r
      · go_wp2_with fail
        go_ret
        exact ⟨9, .inr (.inl ⟨by omega, ⟨k, hlt, HR.out⟩, rfl⟩), rfl, Below.refl _ _⟩
      · go_wp2_with fail
        go_round
        case rel => exact ⟨k + 1, by omega, by go_num, fun j hj => by
                      by_cases e : j = k
                      · subst e; exact HR.out
                      · exact HN.out j (by omega)⟩
        case measure => simp [intOf]; omega
    · obtain rfl : k = fs.length := by omega
      clear hlt
      have hbad : Hid (¬ badName fs) := Lib.hid fun ⟨i, hi, h⟩ => by rw [HN.out i hi] at h; cases h
      go_wp2_with fail
      generalize hB : w.heap.size = B at *
      go_loopw [4, 5] (fun s i wr => ∃ k : Nat, ∃ M : Int, k ≤ fs.length ∧ i = .int .i64 k ∧ s = .int .i64 M ∧ M = min ((total (fs.take k) : Nat) : Int) 1000000 ∧ (∀ i j, j < i → i < k → sameS (fs.getD j default).name (fs.getD i default).name = false) ∧ Below B w wr) (fun _ i _ => fs.length - (intOf i).toNat)
      case atStart => exact ⟨0, 0, Nat.zero_le _, rfl, rfl, rfl, fun i j _ hi => absurd hi (Nat.not_lt_zero _), Below.refl _ _⟩
      case round =>
        obtain ⟨k, M, hk, rfl, rfl, hM, hnd, hbel⟩ := hrel
        have hM0 : 0 ≤ M := by omega
        have hM1 : M ≤ 1000000 := by omega
        have HM := Lib.hid (And.intro hM hnd)
        clear hM hnd
        by_cases hlt : k < fs.length
        · have hlti : (k : Int) < fs.length := by omega
          have HL := Lib.hid hlt
          go_wp2_with fail
          obtain ⟨wo, rfl⟩ : ∃ wo : World, wo = wr := ⟨_, rfl⟩
          go_loopw [6] (fun i wr => ∃ j : Nat, j ≤ k ∧ i = .int .i64 j ∧ (∀ i, i < j → sameS (fs.getD i default).name (fs.getD k default).name = false) ∧ Below B w wr) (fun i _ => k - (intOf i).toNat)
          case atStart => exact ⟨0, Nat.zero_le _, rfl, fun j hj => absurd hj (Nat.not_lt_zero _), hbel⟩
          case round =>
            obtain ⟨j, hj, rfl, hdj, hbr⟩ := hrel
            have HD := Lib.hid (And.intro hdj hbr)
            have hro := H.out.1.below (hB ▸ hbr)
            obtain ⟨bb, o, rfl⟩ := hro.sl (fils_at fs k hlt).1
            by_cases hjk : j < k
            · have hjki : (j : Int) < k := by omega
              have hjl : (j : Int) < fs.length := by omega
              have f0 := hro.cell (fils_at fs k hlt).1
              have f1 := hro.cell (fils_at fs j (by omega)).1
              obtain ⟨r, hr⟩ : ∃ r, sameS (fs.getD j default).name (fs.getD k default).name = r := ⟨_, rfl⟩
              have HR := Lib.hid hr
              obtain ⟨n1, hn1⟩ : ∃ n, (fs.getD k default).name = n := ⟨_, rfl⟩
              obtain ⟨n2, hn2⟩ : ∃ n, (fs.getD j default).name = n := ⟨_, rfl⟩
              rw [hn1] at f0 hr
              rw [hn2] at f1 hr
              unfold sameS at hr
              clear hn1 hn2 hdj hbr hro
              cases r
              · go_wp2_with fail
                go_quiet (fail)
                go_wp2_with fail
                go_roundw
                case rel => exact ⟨j + 1, by omega, by go_num, fun i hi => by
                              by_cases e : i = j
                              · subst e; exact HR.out
                              · exact HD.out.1 i (by omega), HD.out.2.trans (below_drewN _)⟩
                case measure => simp [intOf]; omega
              · go_wp2_with fail
                go_quiet (fail)
                go_wp2_with fail
                go_ret
                exact ⟨10, .inr (.inr (.inl ⟨by omega, hbad.out, ⟨k, j, hjk, HL.out, HR.out⟩, rfl⟩)), rfl, hB ▸ HD.out.2.trans (below_drewN _)⟩
            · obtain rfl : j = k := by omega
              have f1 := hro.cell (fils_at fs j hlt).2
              rw [← Nat.add_assoc] at f1
              have htk := total_take fs j hlt
              have htx := H.out.2.2 j hlt
              obtain ⟨tx, ht⟩ : ∃ t, (fs.getD j default).text = t := ⟨_, rfl⟩
              rw [ht] at f1 htk htx
              have htx' : (tx.size : Int) ≤ 140737488355328 := by omega
              have hM2 : min (total (fs.take (j + 1)) : Int) 1000000 = min (M + tx.size) 1000000 := by have := HM.out.1; omega
              have HM2 := Lib.hid hM2
              clear htk htx ht hdj hbr hro hjk hM2
              by_cases hb : 1000000 < M + tx.size
              · go_wp2_with fail
                go_roundw
                case rel => exact ⟨j + 1, 1000000, by omega, by go_num, rfl, by have := HM2.out; omega, fun i l hl hi => by
                              by_cases e : i = j
                              · subst e; exact HD.out.1 l hl
                              · exact HM.out.2 i l hl (by omega), HD.out.2⟩
                case measure => simp [intOf]; omega
              · have hb' : M + tx.size ≤ 1000000 := by omega
                go_wp2_with fail
                go_roundw
                case rel => exact ⟨j + 1, _, by omega, by go_num, rfl, by have := HM2.out; omega, fun i l hl hi => by
                              by_cases e : i = j
                              · subst e; exact HD.out.1 l hl
                              · exact HM.out.2 i l hl (by omega), HD.out.2⟩
                case measure => simp [intOf]; omega
        · obtain rfl : k = fs.length := by omega
          clear hlt
          have hnd : ¬ dupIn fs fs.length := fun ⟨i, j, hj, hi, h⟩ => by rw [HM.out.2 i j hj hi] at h; cases h
          have hMt : M = min (total fs : Int) 1000000 := by have := HM.out.1; rw [List.take_length] at this; exact this
          have HF := Lib.hid (And.intro hnd (And.intro hMt hbel))
          clear hnd hMt hbel
          by_cases hb : 32768 < M
          · go_wp2_with fail
            go_ret
            exact ⟨4, .inr (.inr (.inr (.inl ⟨by omega, hbad.out, HF.out.1, by have := HF.out.2.1; omega, rfl⟩))), rfl, hB ▸ HF.out.2.2⟩
          · have hb' : M ≤ 32768 := by omega
            go_wp2_with fail
            go_ret
            exact ⟨0, .inr (.inr (.inr (.inr ⟨by omega, hbad.out, HF.out.1, by have := HF.out.2.1; omega, rfl⟩))), rfl, hB ▸ HF.out.2.2⟩
end Go.Proofs.Ytonippdileikbaa
