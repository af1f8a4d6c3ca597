import Derived.Test.YtoccghbkfnalgaaC3
import Derived.Test.YtoccghbkfnalgaaM4
namespace Go.Proofs.Ytoccghbkfnalgaa
set_option linter.unusedVariables false
open Go.RowKit

set_option maxHeartbeats 1000000 in
theorem fan_and {w : World} {bg F g} (hG : HasG w bg F g) (n : Nat) (hn : n < g.nodes.length) (hl : g.nodes.length ≤ 60000) (a b : Int) (hp : g.nodes.getD n (0, 0) = (a, b)) (ha : a ≠ -1) :
    Calls Try.prog 11 #[.pointer (some ⟨bg, 0, none⟩), .int .i64 n] w fun e w' => ∃ d, e = .returned (.tuple #[.int .i64 a, .int .i64 b, .bool true]) ∧ w' = w.drewN d := by
  obtain ⟨vn, vi, bm, hG, rfl⟩ := hG
  have hro := RO.own hG.hn
  have h0 := (pairs_at g.nodes n hn).1
  have h1 := (pairs_at g.nodes n hn).2
  rw [hp] at h0 h1
  obtain ⟨bn, on, c, rfl, hc0⟩ := hro.get h0
  have hc1 := hro.cell h1
  rw [← Nat.add_assoc] at hc1
  have hc := hG.cell0
  have hd : (a == -1) = false := by simp [ha]
  have hd2 : ((n : Int) < 0) = False := by simp
  have hln : (g.nodes.length : Int) ≤ 60000 := by omega
  have hn' : (n : Int) < g.nodes.length := by omega
  clear hG hro h0 h1 hp ha hl
  go_enter Try.func11, Try.ntmps11
  go_wp2
  go_quiet (fail)
  go_wp2
  go_ret3
  exact ⟨nq, rfl, rfl⟩

set_option maxHeartbeats 1000000 in
theorem fan_in {w : World} {bg F g} (hG : HasG w bg F g) (n : Nat) (hn : n < g.nodes.length) (hl : g.nodes.length ≤ 60000) (b : Int) (hp : g.nodes.getD n (0, 0) = (-1, b)) :
    Calls Try.prog 11 #[.pointer (some ⟨bg, 0, none⟩), .int .i64 n] w fun e w' => e = .returned (.tuple #[.int .i64 0, .int .i64 0, .bool false]) ∧ w = w' := by
  obtain ⟨vn, vi, bm, hG, rfl⟩ := hG
  have hro := RO.own hG.hn
  have h0 := (pairs_at g.nodes n hn).1
  rw [hp] at h0
  obtain ⟨bn, on, c, rfl, hc0⟩ := hro.get h0
  have hc := hG.cell0
  have hln : (g.nodes.length : Int) ≤ 60000 := by omega
  have hn' : (n : Int) < g.nodes.length := by omega
  clear hG hro h0 hp hl
  go_enter Try.func11, Try.ntmps11
  go_wp2
  go_ret3
  exact ⟨rfl, rfl⟩

set_option maxHeartbeats 1000000 in
theorem fan_far {w : World} {bg F g} (hG : HasG w bg F g) (n : Int) (hn : (g.nodes.length : Int) ≤ n) (hl : g.nodes.length ≤ 60000) :
    Calls Try.prog 11 #[.pointer (some ⟨bg, 0, none⟩), .int .i64 n] w fun e w' => e = .returned (.tuple #[.int .i64 0, .int .i64 0, .bool false]) ∧ w = w' := by
  obtain ⟨vn, vi, bm, hG, rfl⟩ := hG
  obtain ⟨p, c, rfl⟩ := ownsRow_form hG.hn
  have hc := hG.cell0
  clear hG hl
  go_enter Try.func11, Try.ntmps11
  go_wp2
  go_ret3
  exact ⟨rfl, rfl⟩

theorem lit_bad {w : World} {bg F g} (hG : HasG w bg F g) (hs : g.nodes.length ≤ 60000) (a : Int) (hb : a < 2^62) (h : ¬ g.lit a) :
    Calls Try.prog 26 #[.pointer (some ⟨bg, 0, none⟩), .int .i64 a] w fun e w' => e = .returned (.bool false) ∧ w = w' := by
  obtain ⟨vn, vi, bm, hG, rfl⟩ := hG
  by_cases h0 : 0 ≤ a
  · obtain ⟨p, c, rfl⟩ := ownsRow_form hG.hn
    refine (lit_any a bg g.nodes.length c p w h0 hb hG.cell0).mono ?_
    rintro e w' ⟨rfl, rfl⟩
    have : ¬ a / 2 < (g.nodes.length : Int) := fun hh => h ⟨h0, hh⟩
    exact ⟨by simp [this], rfl⟩
  · exact lit_neg a bg w (by omega)

theorem lit_good {w : World} {bg F g} (hG : HasG w bg F g) (hs : g.nodes.length ≤ 60000) (a : Int) (h : g.lit a) :
    Calls Try.prog 26 #[.pointer (some ⟨bg, 0, none⟩), .int .i64 a] w fun e w' => e = .returned (.bool true) ∧ w = w' := by
  obtain ⟨vn, vi, bm, hG, rfl⟩ := hG
  obtain ⟨p, c, rfl⟩ := ownsRow_form hG.hn
  refine (lit_any a bg g.nodes.length c p w h.1 (by have := h.2; omega) hG.cell0).mono ?_
  rintro e w' ⟨rfl, rfl⟩
  exact ⟨by simp [h.2], rfl⟩

theorem and_bad {w : World} {bg F g} (hG : HasG w bg F g) (hs : g.nodes.length ≤ 60000) (a b : Int) (ha : a < 2^62) (h : ¬ g.lit a) :
    Calls Try.prog 13 #[.pointer (some ⟨bg, 0, none⟩), .int .i64 a, .int .i64 b] w fun e w' => e = .returned (.tuple #[.int .i64 0, .int .i64 3]) ∧ w = w' := by
  have H := Lib.hid (lit_bad hG hs a ha h)
  clear hG hs ha h
  go_enter Try.func13, Try.ntmps13
  go_wp2_with fail
  refine H.out.mono ?_; rintro e w' ⟨rfl, rfl⟩
  go_wp2_with fail
  go_ret2
  exact ⟨rfl, rfl⟩

theorem or_bad {w : World} {bg F g} (hG : HasG w bg F g) (hs : g.nodes.length ≤ 60000) (a b : Int) (ha : g.lit a) (hb : b < 2^62) (h : ¬ g.lit b) :
    Calls Try.prog 14 #[.pointer (some ⟨bg, 0, none⟩), .int .i64 a, .int .i64 b] w fun e w' => e = .returned (.tuple #[.int .i64 0, .int .i64 3]) ∧ w = w' := by
  have H := Lib.hid (And.intro (lit_good hG hs a ha) (lit_bad hG hs b hb h))
  clear hG hs ha h hb
  go_enter Try.func14, Try.ntmps14
  go_wp2_with fail
  refine H.out.1.mono ?_; rintro e w' ⟨rfl, rfl⟩
  go_wp2_with fail
  refine H.out.2.mono ?_; rintro e w' ⟨rfl, rfl⟩
  go_wp2_with fail
  go_ret2
  exact ⟨rfl, rfl⟩

theorem mux_bad {w : World} {bg F g} (hG : HasG w bg F g) (hs : g.nodes.length ≤ 60000) (c a b : Int) (ha : g.lit a) (hb : b < 2^62) (h : ¬ g.lit b) :
    Calls Try.prog 15 #[.pointer (some ⟨bg, 0, none⟩), .int .i64 c, .int .i64 a, .int .i64 b] w fun e w' => e = .returned (.tuple #[.int .i64 0, .int .i64 3]) ∧ w = w' := by
  have H := Lib.hid (And.intro (lit_good hG hs a ha) (lit_bad hG hs b hb h))
  clear hG hs ha h hb
  go_enter Try.func15, Try.ntmps15
  go_wp2_with fail
  refine H.out.1.mono ?_; rintro e w' ⟨rfl, rfl⟩
  go_wp2_with fail
  refine H.out.2.mono ?_; rintro e w' ⟨rfl, rfl⟩
  go_wp2_with fail
  go_ret2
  exact ⟨rfl, rfl⟩

theorem inputs_has {w : World} {bg F g} (hG : HasG w bg F g) : Calls Try.prog 16 #[.pointer (some ⟨bg, 0, none⟩)] w fun e w' => e = .returned (.int .i64 g.inputs.length) ∧ w = w' := by
  obtain ⟨vn, vi, bm, hG, rfl⟩ := hG
  obtain ⟨p, c, rfl⟩ := ownsRow_form hG.hi
  exact inputs_any bg _ c p w hG.cell1
end Go.Proofs.Ytoccghbkfnalgaa
