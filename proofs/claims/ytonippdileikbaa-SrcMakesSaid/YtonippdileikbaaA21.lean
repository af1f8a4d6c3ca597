import Derived.Test.YtonippdileikbaaA20
namespace Go.Proofs.Ytonippdileikbaa
set_option linter.unusedVariables false
open Go.RowKit

/-- at most 20 -/
def fewF (l : List Fil) : List Fil := l.take 20
theorem filCells_take (l : List Fil) (n : Nat) : (filCells l).take (n * 2) = filCells (l.take n) := by
  induction l generalizing n with
  | nil => simp [filCells]
  | cons f l ih =>
    cases n with
    | zero => simp [filCells]
    | succ n =>
      have := ih n
      simp only [filCells, List.flatMap_cons, List.take_succ_cons] at *
      rw [show (n + 1) * 2 = n * 2 + 1 + 1 by omega]
      simp [this]
theorem filCells_length (l : List Fil) : (filCells l).length = l.length * 2 := flatMap_len _ 2 (fun _ => rfl) l

def FewPost (w : World) (fs : List Fil) (e : Ending) (w' : World) : Prop := ∃ v, e = .returned v ∧ RO w v 2 (fewF fs).length (filCells (fewF fs)) ∧ w = w'
theorem few_any {w : World} (v : Value) (fs : List Fil) (hr : RO w v 2 fs.length (filCells fs)) (hl : fs.length ≤ 9223372036854775807) (hcap : ∀ p n c, v = .slice p n c → n ≤ c ∧ c ≤ 9223372036854775807) : Calls Try.prog 9 #[v] w (FewPost w fs) := by
  obtain ⟨p, c, rfl⟩ := hr.form
  have hl' : (fs.length : Int) ≤ 9223372036854775807 := by omega
  obtain ⟨hc1, hc2⟩ := hcap _ _ _ rfl
  have hc1' : (fs.length : Int) ≤ c := by omega
  have hc2' : (c : Int) ≤ 9223372036854775807 := by omega
  have H := Lib.hid hr
  clear hr hcap
  by_cases h20 : 20 < fs.length
  · have h20' : (20 : Int) < fs.length := by omega
    obtain ⟨b, o, rfl⟩ := H.out.sl (fils_at fs 0 (by omega)).1
    go_enter Try.func9, Try.ntmps9
    go_wp2_with fail
    go_ret
    have hlen : (fewF fs).length = 20 := by simp [fewF]; omega
    refine ⟨_, rfl, ?_, rfl⟩
    rw [hlen]
    refine ⟨by rw [filCells_length, hlen], _, _, rfl, fun j u hj => ⟨b, o, rfl, H.out.cell ?_⟩⟩
    have hj' : j < 40 := by
      have := (List.getElem?_eq_some_iff.1 hj).1
      rw [filCells_length, hlen] at this; omega
    rw [← hj, fewF, ← filCells_take, List.getElem?_take_of_lt (by omega)]
  · have h20' : (fs.length : Int) ≤ 20 := by omega
    go_enter Try.func9, Try.ntmps9
    go_wp2_with fail
    go_ret
    have e : fewF fs = fs := List.take_of_length_le (by omega)
    exact ⟨_, rfl, by rw [e]; exact H.out, rfl⟩

set_option maxHeartbeats 1000000 in
theorem files_any {w : World} (v : Value) (fs : List Fil) (hr : RO w v 2 fs.length (filCells fs)) (hl : fs.length ≤ 20) : Calls Try.prog 11 #[v] w fun e w' => ∃ v', e = .returned v' ∧ RO w' v' 2 fs.length (filCells fs) ∧ Below w.heap.size w w' := by
  obtain ⟨p, c, rfl⟩ := hr.form
  have hl' : (fs.length : Int) ≤ 20 := by omega
  have H := Lib.hid hr
  clear hr
  go_enter Try.func11, Try.ntmps11
  go_wp2_with fail
  generalize hB : w.heap.size = B at *
  go_loopw [3, 8] (fun v i wr => ∃ k : Nat, k ≤ fs.length ∧ i = .int .i64 k ∧ wr.ownsRow B 34 2 v k (filCells (fs.take k)) ∧ Below B w wr) (fun _ i _ => fs.length - (intOf i).toNat)
  case atStart => exact ⟨0, Nat.zero_le _, rfl, World.ownsRow_nil _ _ _ _, Below.refl _ _⟩
  case round =>
    obtain ⟨k, hk, rfl, hown, hbel⟩ := hrel
    have hBw : B ≤ wr.heap.size := hB ▸ hbel.size
    by_cases hlt : k < fs.length
    · obtain ⟨bb, o, rfl⟩ := H.out.sl (fils_at fs k hlt).1
      have hro := H.out.below (hB ▸ hbel)
      have f0 := hro.cell (fils_at fs k hlt).1
      have f1 := hro.cell (fils_at fs k hlt).2
      rw [← Nat.add_assoc] at f1
      have htk : filCells (fs.take (k + 1)) = filCells (fs.take k) ++ [.string (fs.getD k default).name, .string (fs.getD k default).text] := by
        rw [List.take_succ_eq_append_getElem hlt, List.getD, List.getElem?_eq_getElem hlt]
        simp only [filCells, List.flatMap_append, List.flatMap_cons, List.flatMap_nil, Option.getD_some, List.append_nil]
      generalize fs.getD k default = P at *
      obtain ⟨nm, tx⟩ := P
      dsimp only at f0 f1 htk
      have HR := Lib.hid (And.intro hown (And.intro hbel htk))
      clear hown hbel htk hro
      have e1 : Hid (Below B w ((wr.alloc (Obj.cells #[.string nm, .string tx] 33)).alloc (Obj.cells #[.string nm, .string tx] 34))) := Lib.hid ((HR.out.2.1.alloc hBw _).alloc (by simp only [World.size_alloc]; omega) _)
      go_wp2_with (at_builtin; go_must ((refine wpList_app rfl _ _ 29 rfl Try.T29 B _ _ _ rfl ((HR.out.1.alloc _).alloc _) _ 1 1 [_, _] rfl _ (new_at _ _ _ (by simp only [World.size_alloc])) rfl rfl (by simp [Value.oneCell']) Nat.one_pos (by omega) (by omega) (by simp only [World.size_alloc]; omega) ?_); intro gk cap w4 happ; have HP := Lib.hid happ; clear happ))
      go_roundw
      case rel =>
        refine ⟨k + 1, by omega, by go_num, ?_, HP.out.below e1.out (by simp only [World.size_alloc]; omega) (fun k hk => (HR.out.1.lt k hk).1)⟩
        rw [HR.out.2.2]
        exact HP.out.own
      case measure => simp [intOf]; omega
    · obtain rfl : k = fs.length := by omega
      have HR := Lib.hid (And.intro hown hbel)
      clear hown hbel hlt
      go_wp2_with fail
      go_ret
      refine ⟨_, rfl, ?_, hB ▸ HR.out.2⟩
      have := RO.own HR.out.1
      rwa [List.take_length] at this
end Go.Proofs.Ytonippdileikbaa
