/- The law preDefines holds: for every input it returns true and leaves its arguments as they were. No condition (the card ties the library tables that it reads to the program's text). -/
import Derived.Test.YtleipnipohpkoaaDoorZI
import Derived.Test.YtleipnipohpkoaaDoorZM
import Derived.Test.YtleipnipohpkoaaDoorTie
import Derived.Test.YtleipnipohpkoaaDoorCards
namespace Go.Proofs.YtleipnipohpkoaaDoor
set_option linter.unusedVariables false
open Go.RowKit Go.Deep Go.ChangeShapes Go.WideShapes Go.ChangeAt

/-- a slice of bits that is read, and its capacity -/
theorem rc_bools {H : Type} {enc : TypeId × Value → H} {P : Program} {w : World} {t e : Nat} {v : Value} {d : DataW H} {ps : List MemPlace} {r : Reach} {b0 : Nat}
    (ht : P.underlying t = some (.slice e)) (he : P.underlying e = some .bool) (hc : P.cellsOf e = 1)
    (hval : Value.okWide P w r b0 t v) (h : DataW.Trod enc P w 0 (fun _ => true) true t v d ps) :
    ∃ (l : List Bool) (p : Option Addr) (c : Nat), v = .slice p l.length c ∧ l.length ≤ c ∧ RO w v 1 l.length (bools l) ∧ l.length ≤ maxLen := by
  obtain ⟨l, h1, h2⟩ := ro_bools ht he hc hval h
  obtain ⟨p, c, rfl⟩ := h1.form
  refine ⟨l, p, c, rfl, ?_, h1, h2⟩
  obtain ⟨fuel, hfu⟩ := h
  rcases open_slice ht hfu with ⟨hcs, _⟩ | ⟨a, len, cap, m, n, D, Pl, hcs, _, hl, hm, hmm, _, hel⟩
  · simp [Value.cells] at hcs
    simp [hcs.2.1]
  · simp [Value.cells] at hcs
    obtain ⟨_, rfl, rfl⟩ := hcs
    have : m = c := by simpa using hmm
    simpa [this] using hl
/-- a slice of ints that is read, and its capacity -/
theorem rc_ints {H : Type} {enc : TypeId × Value → H} {P : Program} {w : World} {t e : Nat} {v : Value} {d : DataW H} {ps : List MemPlace} {r : Reach} {b0 : Nat}
    (ht : P.underlying t = some (.slice e)) (he : P.underlying e = some (.int .i64)) (hc : P.cellsOf e = 1)
    (hval : Value.okWide P w r b0 t v) (h : DataW.Trod enc P w 0 (fun _ => true) true t v d ps) :
    ∃ (l : List Int) (p : Option Addr) (c : Nat), v = .slice p l.length c ∧ l.length ≤ c ∧ RO w v 1 l.length (ints l) ∧ l.length ≤ maxLen := by
  obtain ⟨l, h1, h2⟩ := ro_ints ht he hc hval h
  obtain ⟨p, c, rfl⟩ := h1.form
  refine ⟨l, p, c, rfl, ?_, h1, h2⟩
  obtain ⟨fuel, hfu⟩ := h
  rcases open_slice ht hfu with ⟨hcs, _⟩ | ⟨a, len, cap, m, n, D, Pl, hcs, _, hl, hm, hmm, _, hel⟩
  · simp [Value.cells] at hcs
    simp [hcs.2.1]
  · simp [Value.cells] at hcs
    obtain ⟨_, rfl, rfl⟩ := hcs
    have : m = c := by simpa using hmm
    simpa [this] using hl

end Go.Proofs.YtleipnipohpkoaaDoor
namespace Go.Proofs.YtleipnipohpkoaaDoor
set_option linter.unusedVariables false
open Go.ChangeShapes Go.WideShapes Go.ChangeAt Go.RowKit

set_option maxRecDepth 100000 in
theorem preDefines_lifted (os : Os) (started : os.Started) (H : Type) (enc : TypeId × Value → H) :
    ReturnsInHanded {} Tryd.checked os 4 .any (fun w args => (Rows.preDefinesSpec.pre enc Tryd.prog Tryd.f4 [] false w args ∧ laidMetH Tryd.prog [("unicode/utf8.acceptRanges", Rows.laid_unicode_utf8_acceptRanges), ("unicode/utf8.first", Rows.laid_unicode_utf8_first)] w) ∧ sizedMet enc Tryd.prog Tryd.f4 (OpenSpec.ofChange Rows.preDefinesSpec) false w args)
      (Rows.preDefinesSpec.post enc Tryd.prog Tryd.f4 false true false false) := by
  refine handed_laid_shaped (C := Tryd.checked) (X := fun w _ => laidMetH Tryd.prog [("unicode/utf8.acceptRanges", Rows.laid_unicode_utf8_acceptRanges), ("unicode/utf8.first", Rows.laid_unicode_utf8_first)] w) (fun _ _ _ hh h => h.of_heap hh) own started (by kernel_rfl) Tryd.func4
    (ChangeSpec.witness_shaped (enc := enc) (C := Tryd.checked) (os := os) (X := fun w _ => laidMetH Tryd.prog [("unicode/utf8.acceptRanges", Rows.laid_unicode_utf8_acceptRanges), ("unicode/utf8.first", Rows.laid_unicode_utf8_first)] w) false (World.laidAll Tryd.prog os [("unicode/utf8.acceptRanges", Rows.laid_unicode_utf8_acceptRanges), ("unicode/utf8.first", Rows.laid_unicode_utf8_first)]) #[.slice none 0 0, .slice none 0 0] 8 (World.laidAll_os _ _ _) (door_shape os _) (by kernel_rfl) (by kernel_rfl) (by kernel_rfl) (door_met os _)) ?_
  intro W base args ds gs before hval0 hW hsz hL hSh
  have hval : ∀ (j : Nat) t v, Tryd.f4.params[j]? = some t → args[j]? = some v → Value.okWide Tryd.prog W .any base t v := hval0
  have hW' := hW
  obtain ⟨p, q, hA0, hV, rfl, hfz, hnd⟩ := hW
  have hA : DataW.TrodAll enc Tryd.prog W 0 (fun _ => true) true Tryd.f4.params.toList args.toList ds p := hA0
  have hsz' : (DataW.weightsEach Tryd.prog (Tryd.f4.params.toList ++ Rows.preDefinesSpec.plain.varTypes Tryd.prog) (ds ++ gs)).all (· ≤ reachBytes) = true := hsz
  rw [Tryd.params4] at hA hval hsz'
  obtain ⟨v0, vs0, d0, ds0, p0, q0, hargs, rfl, rfl, h0, r0⟩ := trodAll_cons hA
  obtain ⟨v1, vs1, d1, ds1, p1, q1, rfl, rfl, rfl, h1, r1⟩ := trodAll_cons r0
  obtain ⟨rfl, rfl, rfl⟩ := trodAll_nil r1
  obtain rfl : args = #[v0, v1] := by cases args; simp_all
  obtain ⟨rfl, rfl⟩ := trodVars_none hV
  have lt0 : ∀ x ∈ p0, x.block < W.heap.size := by obtain ⟨m, hm⟩ := h0; exact DataW.trod_lt m _ _ _ hm
  have lt1 : ∀ x ∈ p1, x.block < W.heap.size := by obtain ⟨m, hm⟩ := h1; exact DataW.trod_lt m _ _ _ hm
  have hmax := max_of_shape hSh
  have hrb := reachBytes_lt
  obtain ⟨l0, sp0, sc0, e0, cap0, ro0, le0⟩ := rc_ints Tryd.underlying37 Tryd.underlying3 (by kernel_rfl) (hval 0 37 v0 rfl rfl) h0
  subst e0
  obtain ⟨l1, sp1, sc1, e1, cap1, ro1, le1⟩ := rc_bools Tryd.underlying38 Tryd.underlying4 (by kernel_rfl) (hval 1 38 v1 rfl rfl) h1
  subst e1
  clear hA0 hval0 hsz'
  unfold maxLen at le0 le1
  refine (defines_law hmax ro0 ro1 (by omega) (by omega)).mono fun e W' ⟨he, bel⟩ => ?_
  subst he
  exact ⟨_, rfl, _, _, _, [], _, [], hW', trodAll_mk1 (shut_bool Tryd.underlying4 _), (trodAll_cons_mk (Below.trod laidOut (by kernel_rfl) (of_decide_eq_true (by kernel_rfl)) h0 bel lt0) (trodAll_cons_mk (Below.trod laidOut (by kernel_rfl) (of_decide_eq_true (by kernel_rfl)) h1 bel lt1) trodAll_mk0)), rfl, bel.frame _, fun h => by cases h⟩

theorem preDefines_row : Rows.PreDefinesSaid :=
  OpenClaim.holds_of_wide 4 Tryd.f4 rfl rfl rfl rfl rfl rfl rfl ⟨rfl, rfl, rfl, rfl, rfl⟩ rfl rfl rfl rfl rfl (by kernel_rfl) Tryd.func4 (by kernel_rfl)
    (of_decide_eq_true (by kernel_rfl)) (by unfold Func.isWrapper; rw [if_neg (of_decide_eq_false (by kernel_rfl))]; exact ⟨rfl, rfl⟩)
    (fun os started H enc _ => preDefines_lifted os started H enc)
theorem preDefines_holds : Rows.PreDefinesCardSaid :=
  Claim7.holds_tied_plain_at .later [] [.data, .pinned] true (true, "eee95ce5db703467920553e46bd6639bbf40ff93b33bc37041f67f6217bf665b") false
    preDefines_row (fun _ h => by cases h) (by kernel_rfl) (fun _ h => by cases h) preDefines_row_tie rfl ⟨rfl, rfl⟩ (by kernel_rfl) rfl
    (fun f fn hf hfn => by
      obtain rfl : f = 4 := Option.some.inj ((show Tryd.prog.funcNamed "sluicegate/sluicegatelaw07.PreDefines" = some 4 by kernel_rfl).symm.trans hf) |>.symm
      obtain rfl : fn = Tryd.f4 := (Option.some.inj (Tryd.func4.symm.trans hfn)).symm
      exact ⟨by kernel_rfl, fun j t ht => by
        rw [Tryd.params4] at ht
        have hm : t ∈ [37, 38] := by simpa using Array.mem_of_getElem? ht
        have hall : ([37, 38].all fun u => !Tryd.prog.wantsStandIn u) = true := by kernel_rfl
        exact (show Tryd.prog.wantsStandIn t = false by simpa using List.all_eq_true.1 hall t hm)⟩)
    (by kernel_rfl)
end Go.Proofs.YtleipnipohpkoaaDoor
