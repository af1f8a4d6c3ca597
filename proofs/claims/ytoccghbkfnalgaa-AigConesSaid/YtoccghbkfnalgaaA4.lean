import Derived.Test.YtoccghbkfnalgaaA3
namespace Go.Proofs.Ytoccghbkfnalgaa
set_option linter.unusedVariables false
open Go.RowKit

theorem and_any (w : World) (bg : Nat) (F : Nat → Prop) (a b : Int) (g : G) (hG : HasG w bg F g) (hlen : g.nodes.length < 60000) (ha : g.lit a) (hb : g.lit b) (hk : g.Kn) :
    Calls Try.prog 13 #[.pointer (some ⟨bg, 0, none⟩), .int .i64 a, .int .i64 b] w (AddPost w bg F (gAnd g a b).1 (gAnd g a b).2 0) := by
  obtain ⟨vn, vi, bm, hG, rfl⟩ := hG
  obtain ⟨x, y, hx, hy, hxy⟩ : ∃ x y, min a b = x ∧ max a b = y ∧ ((a < b ∧ x = a ∧ y = b) ∨ (a = b ∧ x = a ∧ y = a) ∨ (b < a ∧ x = b ∧ y = a)) := ⟨_, _, rfl, rfl, by omega⟩
  have hlx : g.lit x := by rcases hxy with ⟨_, rfl, rfl⟩ | ⟨_, rfl, rfl⟩ | ⟨_, rfl, rfl⟩ <;> assumption
  have hly : g.lit y := by rcases hxy with ⟨_, rfl, rfl⟩ | ⟨_, rfl, rfl⟩ | ⟨_, rfl, rfl⟩ <;> assumption
  unfold gAnd
  rw [hx, hy]
  by_cases h1 : x = 0
  · rw [if_pos (.inl h1)]
    exact and_0 w bg bm a b x y vn vi g hG hlen hlx hly hxy (.inl (by simp [h1]))
  by_cases h2 : x = tnot y
  · rw [if_pos (.inr h2)]
    exact and_0 w bg bm a b x y vn vi g hG hlen hlx hly hxy (.inr ⟨by simp [h1], by simp [← h2]⟩)
  rw [if_neg (by simp [h1, h2])]
  by_cases h3 : x = 1
  · rw [if_pos (.inl h3)]
    exact and_1 w bg bm a b x y vn vi g hG hlen hlx hly hxy (by simp [h1]) (by simp [h2]) (.inl (by simp [h3]))
  by_cases h4 : x = y
  · rw [if_pos (.inr h4)]
    exact and_1 w bg bm a b x y vn vi g hG hlen hlx hly hxy (by simp [h1]) (by simp [h2]) (.inr ⟨by simp [h3], by simp [← h4]⟩)
  rw [if_neg (by simp [h3, h4])]
  cases hl : look g.known (x, y) with
  | some n =>
    obtain ⟨k1, k2⟩ := hk _ _ hl
    exact and_2 w bg bm a b x y vn vi g hG hlen hlx hly hxy n (by simp [h1]) (by simp [h2]) (by simp [h3]) (by simp [h4]) hl k1 (by omega)
  | none =>
    exact and_3 w bg bm a b x y vn vi g hG hlen hlx hly hxy (by simp [h1]) (by simp [h2]) (by simp [h3]) (by simp [h4]) hl

theorem lit_has {w : World} {bg F g} (hG : HasG w bg F g) (hs : g.nodes.length < 60000) (a : Int) (h : g.lit a) (w1 : World) (he : w1.heap = w.heap) :
    Calls Try.prog 26 #[.pointer (some ⟨bg, 0, none⟩), .int .i64 a] w1 fun e w' => e = .returned (.bool true) ∧ w1 = w' := by
  obtain ⟨vn, vi, bm, hG, rfl⟩ := hG
  exact lit_ok hG hs a h w1 he

set_option maxHeartbeats 1000000 in
theorem or_any (w : World) (bg : Nat) (F : Nat → Prop) (a b : Int) (g : G) (hG : HasG w bg F g) (hlen : g.nodes.length < 60000) (ha : g.lit a) (hb : g.lit b) (hk : g.Kn) (hne : 0 < g.nodes.length) (g' : G) (r : Int) (hr : gOr g a b = (g', r)) :
    Calls Try.prog 14 #[.pointer (some ⟨bg, 0, none⟩), .int .i64 a, .int .i64 b] w (AddPost w bg F g' r 0) := by
  have hgr := gAnd_grows g (tnot a) (tnot b) ha.tnot hb.tnot hk hne
  have ha0 : 0 ≤ a := ha.1
  have ha1 : a < 2 ^ 62 := by have := ha.2; omega
  have hb0 : 0 ≤ b := hb.1
  have hb1 : b < 2 ^ 62 := by have := hb.2; omega
  have HA := not_any a w ha0 ha1
  have HB := not_any b w hb0 hb1
  have HC := and_any w bg F (tnot a) (tnot b) g hG hlen ha.tnot hb.tnot hk
  have HL := lit_has hG hlen a ha w rfl
  have HM := lit_has hG hlen b hb w rfl
  generalize hand : gAnd g (tnot a) (tnot b) = X at *
  obtain ⟨g2, r2⟩ := X
  obtain ⟨rfl, rfl⟩ : g2 = g' ∧ tnot r2 = r := by simpa [gOr, hand] using hr
  have hr0 : 0 ≤ r2 := hgr.2.1
  have hr1 : r2 < 2 ^ 62 := by have := hgr.2.2; have := hgr.1.hi; simp only at *; omega
  have H := Lib.hid (And.intro HA (And.intro HB (And.intro HC (And.intro HL (And.intro HM (And.intro hr0 hr1))))))
  clear HA HB HC HL HM hr hgr hand hG hlen ha hb hk hne ha0 ha1 hb0 hb1 hr0 hr1
  go_enter Try.func14, Try.ntmps14
  go_wp2_with fail
  refine H.out.2.2.2.1.mono ?_
  rintro e w' ⟨rfl, rfl⟩
  go_wp2_with fail
  refine H.out.2.2.2.2.1.mono ?_
  rintro e w' ⟨rfl, rfl⟩
  go_wp2_with fail
  refine H.out.1.mono ?_
  rintro e w' ⟨rfl, rfl⟩
  go_wp2_with fail
  refine H.out.2.1.mono ?_
  rintro e w' ⟨rfl, rfl⟩
  go_wp2_with fail
  refine H.out.2.2.1.mono ?_
  rintro e w' ⟨rfl, hw'⟩
  go_wp2_with fail
  refine (not_any r2 w' H.out.2.2.2.2.2.1 H.out.2.2.2.2.2.2).mono ?_
  rintro e w' ⟨rfl, rfl⟩
  go_wp2_with fail
  go_ret2
  exact ⟨rfl, hw'⟩
end Go.Proofs.Ytoccghbkfnalgaa
