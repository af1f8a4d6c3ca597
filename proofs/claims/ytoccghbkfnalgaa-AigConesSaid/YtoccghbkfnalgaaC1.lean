import Derived.Test.YtoccghbkfnalgaaB6
import Derived.Test.YtoccghbkfnalgaaP6
namespace Go.Proofs.Ytoccghbkfnalgaa
set_option linter.unusedVariables false
open Go.RowKit

theorem len_has' {w : World} {bg F g} (hG : HasG w bg F g) (n : Int) (hn : (g.nodes.length : Int) = n) : Calls Try.prog 10 #[.pointer (some ⟨bg, 0, none⟩)] w fun e w' => e = .returned (.int .i64 n) ∧ w = w' := by
  obtain ⟨vn, vi, bm, hG, rfl⟩ := hG
  obtain ⟨p, c, rfl⟩ := ownsRow_form hG.hn
  subst hn
  exact len_any bg _ c p w hG.cell0

def aw1 : G := (gInput g0).1
theorem aw_i0 : gInput g0 = (aw1, 2) := rfl
def aw2 : G := (gInput aw1).1
theorem aw_i1 : gInput aw1 = (aw2, 4) := rfl
def aw3 : G := (gAnd aw2 2 4).1
theorem aw_and : gAnd aw2 2 4 = (aw3, 6) := rfl
theorem aw_and2 : gAnd aw3 4 2 = (aw3, 6) := rfl
theorem aw_and3 : gAnd aw3 2 3 = (aw3, 0) := rfl
theorem aw_wf2 : WF aw2 := input_wf (input_wf (build_wf [] 0))
theorem aw_wf3 : WF aw3 := and_wf aw_wf2 ⟨by decide, by decide⟩ ⟨by decide, by decide⟩
theorem aw_l2 : aw2.lit 2 ∧ aw2.lit 4 := by constructor <;> exact ⟨by decide, by decide⟩
theorem aw_l3 : aw3.lit 2 ∧ aw3.lit 4 ∧ aw3.lit 3 := by refine ⟨?_, ?_, ?_⟩ <;> exact ⟨by decide, by decide⟩

set_option maxHeartbeats 1000000 in
theorem awake_any (w : World) : Calls Try.prog 7 #[] w fun e w' => e = .returned (.bool true) ∧ Below w.heap.size w w' := by
  have HN := Lib.hid (new_has w)
  go_enter Try.func7, Try.ntmps7
  go_wp2_with fail
  refine HN.out.mono ?_
  rintro e w1 ⟨bg, F0, rfl, hG0, hF0, hb0⟩
  have K0 := Lib.hid (And.intro hG0 (And.intro hF0 hb0))
  clear hG0 hF0 hb0
  go_wp2_with fail
  refine (len_has' K0.out.1 1 rfl).mono ?_
  rintro e w' ⟨rfl, rfl⟩
  go_wp2_with fail
  have HI := input_any w1 bg F0 g0 K0.out.1 (by decide) (by decide)
  rw [aw_i0] at HI
  have HI := Lib.hid HI
  refine HI.out.mono ?_
  rintro e w2 ⟨rfl, F1, hG1, hU1⟩
  have K1 : Hid (HasG w2 bg F1 aw1 ∧ Upd F0 F1 w1 w2) := Lib.hid ⟨hG1, hU1⟩
  clear hG1 hU1
  go_wp2_with fail
  have HI := input_any w2 bg F1 aw1 K1.out.1 (by decide) (by decide)
  rw [aw_i1] at HI
  have HI := Lib.hid HI
  refine HI.out.mono ?_
  rintro e w3 ⟨rfl, F2, hG2, hU2⟩
  have K2 : Hid (HasG w3 bg F2 aw2 ∧ Upd F1 F2 w2 w3) := Lib.hid ⟨hG2, hU2⟩
  clear hG2 hU2
  go_wp2_with fail
  have HI := and_any w3 bg F2 2 4 aw2 K2.out.1 (by decide) aw_l2.1 aw_l2.2 aw_wf2.knw
  rw [aw_and] at HI
  have HI := Lib.hid HI
  refine HI.out.mono ?_
  rintro e w4 ⟨rfl, F3, hG3, hU3⟩
  have K3 : Hid (HasG w4 bg F3 aw3 ∧ Upd F2 F3 w3 w4) := Lib.hid ⟨hG3, hU3⟩
  clear hG3 hU3
  go_wp2_with fail
  have HI := and_any w4 bg F3 4 2 aw3 K3.out.1 (by decide) aw_l3.2.1 aw_l3.1 aw_wf3.knw
  rw [aw_and2] at HI
  have HI := Lib.hid HI
  refine HI.out.mono ?_
  rintro e w5 ⟨rfl, F4, hG4, hU4⟩
  have K4 : Hid (HasG w5 bg F4 aw3 ∧ Upd F3 F4 w4 w5) := Lib.hid ⟨hG4, hU4⟩
  clear hG4 hU4
  go_wp2_with fail
  refine (not_any 2 w5 (by omega) (by omega)).mono ?_
  rintro e w' ⟨rfl, rfl⟩
  rw [show tnot 2 = 3 from rfl]
  go_wp2_with fail
  have HI := and_any w5 bg F4 2 3 aw3 K4.out.1 (by decide) aw_l3.1 aw_l3.2.2 aw_wf3.knw
  rw [aw_and3] at HI
  have HI := Lib.hid HI
  refine HI.out.mono ?_
  rintro e w6 ⟨rfl, F5, hG5, hU5⟩
  have K5 : Hid (HasG w6 bg F5 aw3 ∧ Upd F4 F5 w5 w6) := Lib.hid ⟨hG5, hU5⟩
  clear hG5 hU5
  go_wp2_with fail
  refine (len_has' K5.out.1 4 rfl).mono ?_
  rintro e w' ⟨rfl, rfl⟩
  go_wp2_with fail
  go_ret
  refine ⟨rfl, K0.out.2.2.trans (Upd.toBelow ((((K1.out.2.trans K2.out.2).trans K3.out.2).trans K4.out.2).trans K5.out.2) K0.out.2.1 K0.out.2.2.size)⟩
end Go.Proofs.Ytoccghbkfnalgaa
