/- The law bvParts holds: for every input it returns true and leaves its arguments as they were. No condition. -/
import Derived.Test.YtmimafbedbohiaaA71
import Derived.Test.YtmimafbedbohiaaL4
namespace Go.Proofs.Ytmimafbedbohiaa
set_option linter.unusedVariables false
open Go.ChangeShapes Go.WideShapes Go.ChangeAt Go.RowKit

set_option maxRecDepth 100000 in
theorem bvParts_lifted (os : Os) (started : os.Started) (H : Type) (enc : TypeId × Value → H) :
    ReturnsInHanded {} Try.checked os 10 .any (Rows.bvPartsSpec.pre6 enc Try.prog Try.f10 Rows.bvPartsRow.domain false) (Rows.bvPartsSpec.post enc Try.prog Try.f10 false true false false) := by
  refine returnsInHanded_of_change_sized (C := Try.checked) own started (by kernel_rfl) Try.func10
    (ChangeSpec.witness6 (enc := enc) (C := Try.checked) false ⟨#[], #[.slice none 0 0, .slice none 0 0, .agg #[.int .i64 0, .int .i64 0, .int .i64 0]], []⟩ 8 (by kernel_rfl) (by kernel_rfl) (by kernel_rfl) (by kernel_rfl)) ?_
  intro W base args ds gs before hval0 hW hcnd hsz _
  have hval : ∀ (j : Nat) t v, Try.f10.params[j]? = some t → args[j]? = some v → Value.okWide Try.prog W .any base t v := hval0
  have hW' := hW
  obtain ⟨p, q, hA0, hV, rfl, hfz, hnd⟩ := hW
  have hA : DataW.TrodAll enc Try.prog W 0 (fun _ => true) true Try.f10.params.toList args.toList ds p := hA0
  have hsz' : (DataW.weightsEach Try.prog (Try.f10.params.toList ++ Rows.bvPartsSpec.plain.varTypes Try.prog) (ds ++ gs)).all (· ≤ reachBytes) = true := hsz
  rw [Try.params10] at hA hval hsz'
  obtain ⟨v0, vs0, d0, ds0, p0, q0, hargs, rfl, rfl, h0, r0⟩ := trodAll_cons hA
  obtain ⟨v1, vs1, d1, ds1, p1, q1, rfl, rfl, rfl, h1, r1⟩ := trodAll_cons r0
  obtain ⟨v2, vs2, d2, ds2, p2, q2, rfl, rfl, rfl, h2, r2⟩ := trodAll_cons r1
  obtain ⟨rfl, rfl, rfl⟩ := trodAll_nil r2
  obtain rfl : args = #[v0, v1, v2] := by cases args; simp_all
  obtain ⟨rfl, rfl⟩ := trodVars_none hV
  have lt0 : ∀ x ∈ p0, x.block < W.heap.size := by obtain ⟨m, hm⟩ := h0; exact DataW.trod_lt m _ _ _ hm
  have lt1 : ∀ x ∈ p1, x.block < W.heap.size := by obtain ⟨m, hm⟩ := h1; exact DataW.trod_lt m _ _ _ hm
  have lt2 : ∀ x ∈ p2, x.block < W.heap.size := by obtain ⟨m, hm⟩ := h2; exact DataW.trod_lt m _ _ _ hm
  have hrb := reachBytes_lt
  obtain ⟨l0, sp0, sc0, e0, cap0, ro0, le0⟩ := rc_bools Try.underlying35 Try.underlying4 (by kernel_rfl) (hval 0 35 v0 rfl rfl) h0
  have rr0 := reach_le (j := 0) (bytes := 1) hsz' rfl rfl Try.underlying35 (by kernel_rfl) ro0 h0
  subst e0
  obtain ⟨l1, sp1, sc1, e1, cap1, ro1, le1⟩ := rc_bools Try.underlying35 Try.underlying4 (by kernel_rfl) (hval 1 35 v1 rfl rfl) h1
  have rr1 := reach_le (j := 1) (bytes := 1) hsz' rfl rfl Try.underlying35 (by kernel_rfl) ro1 h1
  subst e1
  obtain ⟨x2, y2, z2, e2⟩ := open_arr3 Try.underlying63 (by kernel_rfl) (by kernel_rfl) Try.underlying3 (hval 2 63 v2 rfl rfl) h2
  subst e2
  clear hA0 hval0 hsz'
  unfold maxLen at le0 le1
  refine (parts_law (by rw [rl_self]; exact ro0) cap0 (by omega) (by rw [rl_self]; exact ro1) cap1 (by omega) x2 y2 z2).mono fun e W' ⟨he, bel⟩ => ?_
  subst he
  exact ⟨_, rfl, _, _, _, [], _, [], hW', trodAll_mk1 (shut_bool Try.underlying4 _), (trodAll_cons_mk (Below.trod laidOut (by kernel_rfl) (of_decide_eq_true (by kernel_rfl)) h0 bel lt0) (trodAll_cons_mk (Below.trod laidOut (by kernel_rfl) (of_decide_eq_true (by kernel_rfl)) h1 bel lt1) (trodAll_cons_mk (Below.trod laidOut (by kernel_rfl) (of_decide_eq_true (by kernel_rfl)) h2 bel lt2) trodAll_mk0))), rfl, bel.frame _, fun h => by cases h⟩

theorem bvParts_holds : Rows.BvPartsSaid :=
  OpenClaim.holds_of_wide 10 Try.f10 rfl rfl rfl rfl rfl rfl rfl ⟨rfl, rfl, rfl, rfl, rfl⟩ rfl rfl rfl rfl rfl (by kernel_rfl) Try.func10 (by kernel_rfl)
    (of_decide_eq_true (by kernel_rfl)) (by unfold Func.isWrapper; rw [if_neg (of_decide_eq_false (by kernel_rfl))]; exact ⟨rfl, rfl⟩)
    (fun os started H enc _ => bvParts_lifted os started H enc)
end Go.Proofs.Ytmimafbedbohiaa
