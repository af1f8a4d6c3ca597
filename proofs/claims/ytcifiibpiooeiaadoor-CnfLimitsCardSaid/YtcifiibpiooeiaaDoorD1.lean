import Derived.Test.YtcifiibpiooeiaaDoorD0
import Derived.Lib.LaidTab
import Derived.Lib.ItoaNum
import Derived.LaidMore
import Derived.Carry
import Derived.SevenTiedAt
import Derived.Stop.Joined
import Derived.ProofKit
import Derived.OpenShut
namespace Go.Proofs.YtcifiibpiooeiaaDoor
set_option linter.unusedVariables false
open Go.RowKit Go.Deep Go.ChangeShapes Go.WideShapes Go.ChangeAt

theorem own : ownKnob Tryd.prog.godebug = none := by kernel_rfl
theorem laidOut : laidOutB Tryd.prog = true := by kernel_rfl
/-- a slice of bits that is read, and its capacity -/
theorem rc_bools {H : Type} {enc : TypeId × Value → H} {P : Program} {w : World} {t e : Nat} {v : Value} {d : DataW H} {ps : List MemPlace} {r : Reach} {b0 : Nat}
    (ht : P.underlying t = some (.slice e)) (he : P.underlying e = some .bool) (hc : P.cellsOf e = 1)
    (hval : Value.okWide P w r b0 t v) (h : DataW.Trod enc P w 0 (fun _ => true) true t v d ps) :
    ∃ (l : List Bool) (p : Option Addr) (c : Nat), v = .slice p l.length c ∧ l.length ≤ c ∧ RO w v 1 l.length (bools l) ∧ l.length ≤ maxLen := by
  obtain ⟨l, h1, h2⟩ := ro_bools ht he hc hval h
  obtain ⟨p, c, rfl⟩ := h1.form
  refine ⟨l, p, c, rfl, ?_, h1, h2⟩
  obtain ⟨fuel, hfu⟩ := h
  rcases open_slice ht hfu with ⟨hcs, _⟩ | ⟨a, len, cap, m, n, D, Pl, hcs, _, hl, hm, hmm, _, hel⟩
  · simp [Value.cells] at hcs
    simp [hcs.2.1]
  · simp [Value.cells] at hcs
    obtain ⟨_, rfl, rfl⟩ := hcs
    have : m = c := by simpa using hmm
    simpa [this] using hl
/-- a slice of ints that is read, and its capacity -/
theorem rc_ints {H : Type} {enc : TypeId × Value → H} {P : Program} {w : World} {t e : Nat} {v : Value} {d : DataW H} {ps : List MemPlace} {r : Reach} {b0 : Nat}
    (ht : P.underlying t = some (.slice e)) (he : P.underlying e = some (.int .i64)) (hc : P.cellsOf e = 1)
    (hval : Value.okWide P w r b0 t v) (h : DataW.Trod enc P w 0 (fun _ => true) true t v d ps) :
    ∃ (l : List Int) (p : Option Addr) (c : Nat), v = .slice p l.length c ∧ l.length ≤ c ∧ RO w v 1 l.length (ints l) ∧ l.length ≤ maxLen := by
  obtain ⟨l, h1, h2⟩ := ro_ints ht he hc hval h
  obtain ⟨p, c, rfl⟩ := h1.form
  refine ⟨l, p, c, rfl, ?_, h1, h2⟩
  obtain ⟨fuel, hfu⟩ := h
  rcases open_slice ht hfu with ⟨hcs, _⟩ | ⟨a, len, cap, m, n, D, Pl, hcs, _, hl, hm, hmm, _, hel⟩
  · simp [Value.cells] at hcs
    simp [hcs.2.1]
  · simp [Value.cells] at hcs
    obtain ⟨_, rfl, rfl⟩ := hcs
    have : m = c := by simpa using hmm
    simpa [this] using hl

theorem gPow : Tryd.prog.globalNamed "internal/strconv.uint64pow10" = some 0 := by kernel_rfl
theorem pow_data {H : Type} : (Rows.laid_internal_strconv_uint64pow10 : DataW H) = Lib.tabData .u64 Lib.pow10Tab := by
  unfold Rows.laid_internal_strconv_uint64pow10 Lib.tabData
  rw [show Lib.pow10Tab = [1, 10, 100, 1000, 10000, 100000, 1000000, 10000000, 100000000, 1000000000, 10000000000, 100000000000, 1000000000000, 10000000000000, 100000000000000, 1000000000000000, 10000000000000000, 100000000000000000, 1000000000000000000, 10000000000000000000] from by decide +kernel]
  rfl
/-- what the laid condition gives the walks: the powers of ten -/
theorem tab_of_laid {W : World} (h : laidMetH Tryd.prog [("math/bits.deBruijn32tab", Rows.laid_math_bits_deBruijn32tab), ("math/bits.deBruijn64tab", Rows.laid_math_bits_deBruijn64tab), ("internal/strconv.uint64pow10", Rows.laid_internal_strconv_uint64pow10)] W) : Lib.TabIs Tryd.prog W "internal/strconv.uint64pow10" .u64 Lib.pow10Tab := by
  rw [MakeChecks.laidMetH_plain _ _ _ (by kernel_rfl)] at h
  obtain ⟨ps, ⟨g0, t0, cs0, f0, p0, q0, hg0, ht0, hv0, hd0, ⟨g1, t1, cs1, f1, p1, q1, hg1, ht1, hv1, hd1, ⟨g2, t2, cs2, f2, p2, q2, hg2, ht2, hv2, hd2, _, _⟩, _⟩, _⟩, _, _⟩ := h
  obtain rfl := Option.some.inj (gPow.symm.trans hg2)
  unfold Lib.TabIs
  rw [hv2]
  obtain ⟨e, n, hty, hte, he, hce, hct⟩ : ∃ e n, (Tryd.prog.globals[0]?).map (·.type) = some t2 ∧ Tryd.prog.underlying t2 = some (.array n e) ∧ Tryd.prog.underlying e = some (.int .u64) ∧ Tryd.prog.cellsOf e = 1 ∧ Tryd.prog.cellsOf t2 = n := by
    have hq : (Tryd.prog.globals[0]?).map (·.type) = some 114 := by kernel_rfl
    obtain rfl := Option.some.inj (hq.symm.trans ht2)
    exact ⟨97, 20, hq, Tryd.underlying114, Tryd.underlying97, by kernel_rfl, by kernel_rfl⟩
  rw [← Lib.cells_of_tab hte he hce hct (by rw [← pow_data]; exact hd2)]
/-- the door's own heap meets the condition -/
theorem door_met (os : Os) (args : Array Value) : laidMetH Tryd.prog [("math/bits.deBruijn32tab", Rows.laid_math_bits_deBruijn32tab), ("math/bits.deBruijn64tab", Rows.laid_math_bits_deBruijn64tab), ("internal/strconv.uint64pow10", Rows.laid_internal_strconv_uint64pow10)] ((World.doorLaid Tryd.prog 24 os).forCall (fun _ _ => 0) ⟨#[], args, []⟩).memory :=
  laidMetH_of_parts3 (fuel := 8) (laidMet_of_run' 8 (by kernel_rfl) (by kernel_rfl)) (by kernel_rfl) (by kernel_rfl)
end Go.Proofs.YtcifiibpiooeiaaDoor
