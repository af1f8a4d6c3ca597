import Derived.Test.YtoccghbkfnalgaaA5
namespace Go.Proofs.Ytoccghbkfnalgaa
set_option linter.unusedVariables false
open Go.RowKit

/-- a slice that is read: n elements of 'size' cells, the cells that it holds -/
def RO (w : World) (v : Value) (size n : Nat) (cs : List Value) : Prop :=
  cs.length = n * size ∧ ∃ p c, v = .slice p n c ∧ (∀ j u, cs[j]? = some u → ∃ b o, p = some ⟨b, o, none⟩ ∧ w.cell? ⟨b, o + j, none⟩ = some u)

theorem RO.below {w w' : World} {v size n cs} (h : RO w v size n cs) (hb : Below w.heap.size w w') : RO w' v size n cs := by
  obtain ⟨h1, p, c, h2, h3⟩ := h
  refine ⟨h1, p, c, h2, fun j u hu => ?_⟩
  obtain ⟨b, o, e, hc⟩ := h3 j u hu
  exact ⟨b, o, e, (hb.cell (World.block_lt_of_cell? _ _ hc)).trans hc⟩

theorem RO.upd {w w' : World} {F F'} {v size n cs} (h : RO w v size n cs) (hu : Upd F F' w w') (hF : ∀ k, v.ownBlock = some k → ¬ F k) : RO w' v size n cs := by
  obtain ⟨h1, p, c, rfl, h3⟩ := h
  refine ⟨h1, p, c, rfl, fun j u hj => ?_⟩
  obtain ⟨b, o, rfl, hc⟩ := h3 j u hj
  exact ⟨b, o, rfl, hu.cell hc (hF b rfl)⟩

theorem RO.own {w : World} {base e size v n xs} (h : w.ownsRow base e size v n xs) : RO w v size n xs := by
  refine ⟨h.1, ?_⟩
  rcases h.2 with ⟨rfl, rfl⟩ | ⟨g, cap, cur, rfl, hb, hg, h1, h2, h3, h4⟩
  · refine ⟨none, 0, rfl, fun j u hj => ?_⟩
    have : xs = [] := List.eq_nil_of_length_eq_zero (by simpa using h.1)
    subst this; simp at hj
  · refine ⟨_, _, rfl, fun j u hj => ⟨g, 0, rfl, ?_⟩⟩
    have := h.cells (g := g) rfl j u hj
    have hadd : (⟨g, 0, none⟩ : Addr).add j = ⟨g, 0 + j, none⟩ := by unfold Addr.add; split <;> simp_all
    rwa [hadd] at this

/-- a cell of it -/
theorem RO.get {w : World} {v size n cs} (h : RO w v size n cs) {j : Nat} {u : Value} (hu : cs[j]? = some u) : ∃ b o c, v = .slice (some ⟨b, o, none⟩) n c ∧ w.cell? ⟨b, o + j, none⟩ = some u := by
  obtain ⟨h1, p, c, rfl, h3⟩ := h
  obtain ⟨b, o, rfl, hc⟩ := h3 j u hu
  exact ⟨b, o, c, rfl, hc⟩

theorem RO.sl {w : World} {p n c size n' cs} (h : RO w (.slice p n c) size n' cs) {j : Nat} {u : Value} (hu : cs[j]? = some u) : ∃ b o, p = some ⟨b, o, none⟩ := by
  obtain ⟨b, o, c', e, _⟩ := h.get hu
  simp only [Value.slice.injEq] at e
  exact ⟨b, o, e.1⟩
theorem RO.cell {w : World} {b o n c size n' cs} (h : RO w (.slice (some ⟨b, o, none⟩) n c) size n' cs) {j : Nat} {u : Value} (hu : cs[j]? = some u) : w.cell? ⟨b, o + j, none⟩ = some u := by
  obtain ⟨b', o', c', e, hc⟩ := h.get hu
  simp only [Value.slice.injEq, Option.some.injEq, Addr.mk.injEq, and_true] at e
  obtain ⟨⟨rfl, rfl⟩, _⟩ := e
  exact hc

theorem RO.form {w : World} {v size n cs} (h : RO w v size n cs) : ∃ p c, v = .slice p n c := by
  obtain ⟨h1, p, c, rfl, h3⟩ := h; exact ⟨p, c, rfl⟩

def pick (n : Nat) (i : Int) : Int := if n = 0 then -1 else i % n

theorem rem_neg (i : Int) (n : Nat) (hn : 0 < n) (h : i.tmod n < 0) : i.tmod n + n = i % n := by
  have h1 : i.tmod n = i - n * i.tdiv n := Int.tmod_def i n
  have h3 : -(n : Int) < i.tmod n := by have := Int.lt_tmod_of_pos i (b := n) (by omega); omega
  have e : i = (i.tmod n + n) + n * (i.tdiv n - 1) := by rw [Int.mul_sub]; omega
  have h4 : 0 ≤ i.tmod n + n := by omega
  have h5 : i.tmod n + n < n := by omega
  generalize i.tmod n + (n : Int) = r at *
  generalize i.tdiv n - 1 = q at *
  subst e
  rw [Int.add_mul_emod_self_left, Int.emod_eq_of_lt h4 h5]
theorem rem_pos (i : Int) (n : Nat) (hn : 0 < n) (h : 0 ≤ i.tmod n) : i.tmod n = i % n := by
  have h1 : i.tmod n = i - n * i.tdiv n := Int.tmod_def i n
  have h3 : i.tmod n < n := Int.tmod_lt_of_pos i (by omega)
  have e : i = i.tmod n + n * (i.tdiv n) := by omega
  generalize i.tmod n = r at *
  generalize i.tdiv n = q at *
  subst e
  rw [Int.add_mul_emod_self_left, Int.emod_eq_of_lt h h3]

theorem at_zero (i : Int) (w : World) : Calls Try.prog 28 #[.int .i64 0, .int .i64 i] w fun e w' => e = .returned (.int .i64 (-1)) ∧ w = w' := by
  go_enter Try.func28, Try.ntmps28
  go_wp2
  go_ret
  exact ⟨rfl, rfl⟩

theorem at_pos (n : Nat) (i : Int) (w : World) (hn : ((n : Int) == 0) = false) (h1 : 0 < n) (hm : n < 100000) : Calls Try.prog 28 #[.int .i64 n, .int .i64 i] w fun e w' => e = .returned (.int .i64 (i % n)) ∧ w = w' := by
  have hlo : -(n : Int) < i.tmod n := by have := Int.lt_tmod_of_pos i (b := n) (by omega); omega
  have hhi : i.tmod n < n := Int.tmod_lt_of_pos i (by omega)
  go_enter Try.func28, Try.ntmps28
  go_wp2
  · go_ret
    exact ⟨by rw [← rem_neg i n h1 (by assumption)]; rfl, rfl⟩
  · go_ret
    exact ⟨by rw [← rem_pos i n h1 (by assumption)]; rfl, rfl⟩

theorem operand_any (n : Nat) (i : Int) (w : World) (hm : n < 100000) : Calls Try.prog 20 #[.int .i64 n, .int .i64 i] w fun e w' => e = .returned (.int .i64 (pick n i)) ∧ w = w' := by
  have H : Calls Try.prog 28 #[.int .i64 n, .int .i64 i] w fun e w' => e = .returned (.int .i64 (pick n i)) ∧ w = w' := by
    unfold pick
    split
    · rename_i h; subst h; exact at_zero i w
    · rename_i h; exact at_pos n i w (by simp [h]) (by omega) hm
  have HH := Lib.hid H
  clear H hm
  go_enter Try.func20, Try.ntmps20
  go_wp2_with fail
  refine HH.out.mono ?_
  rintro e w' ⟨rfl, rfl⟩
  go_wp2_with fail
  go_ret
  exact ⟨rfl, rfl⟩

/-- what the closure gives: the lit of an act -/
def ofLit (lits : List Int) (i : Int) : Int := if lits = [] then 0 else lits.getD (pick lits.length i).toNat 0

set_option maxHeartbeats 1000000 in
theorem of_none (bc : Nat) (v : Value) (i : Int) (w : World) (hc : w.cell? ⟨bc, 0, none⟩ = some v) (hv : RO w v 1 0 []) :
    Calls Try.prog 24 #[.int .i64 i, .pointer (some ⟨bc, 0, none⟩)] w fun e w' => e = .returned (.int .i64 0) ∧ w = w' := by
  obtain ⟨p, c, rfl⟩ := hv.form
  have HH := Lib.hid (operand_any 0 i w (by omega))
  clear hv
  go_enter Try.func24, Try.ntmps24
  go_wp2_with fail
  refine HH.out.mono ?_
  rintro e w' ⟨rfl, rfl⟩
  go_wp2_with fail
  go_ret
  exact ⟨rfl, rfl⟩

set_option maxHeartbeats 1000000 in
theorem of_some (bc : Nat) (v : Value) (i : Int) (lits : List Int) (w : World) (hc : w.cell? ⟨bc, 0, none⟩ = some v) (hv : RO w v 1 lits.length (ints lits)) (hn : lits.length < 100000) (hp : 0 < lits.length) :
    Calls Try.prog 24 #[.int .i64 i, .pointer (some ⟨bc, 0, none⟩)] w fun e w' => e = .returned (.int .i64 (lits.getD (i % lits.length).toNat 0)) ∧ w = w' := by
  have hx0 : 0 ≤ i % lits.length := Int.emod_nonneg _ (by omega)
  have hx1 : i % lits.length < lits.length := Int.emod_lt_of_pos _ (by omega)
  have hu : (ints lits)[(i % lits.length).toNat]? = some (.int .i64 (lits.getD (i % lits.length).toNat 0)) := by
    rw [ints, List.getElem?_map, List.getD, List.getElem?_eq_getElem (by omega)]; rfl
  obtain ⟨b, o, c, rfl, hcell⟩ := hv.get hu
  have HH := Lib.hid (operand_any lits.length i w hn)
  have hpk : pick lits.length i = i % lits.length := by unfold pick; rw [if_neg (by omega)]
  rw [hpk] at HH
  generalize hV : lits.getD (i % lits.length).toNat 0 = V at *
  generalize hX : i % (lits.length : Int) = X at *
  clear hv hX hpk hV hu
  go_enter Try.func24, Try.ntmps24
  go_wp2_with fail
  refine HH.out.mono ?_
  rintro e w' ⟨rfl, rfl⟩
  go_wp2_with fail
  go_ret
  exact ⟨rfl, rfl⟩
end Go.Proofs.Ytoccghbkfnalgaa
