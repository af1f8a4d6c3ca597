import Derived.Test.YtmimafbedbohiaaA35
namespace Go.Proofs.Ytmimafbedbohiaa
set_option linter.unusedVariables false
open Go.RowKit

/-- bits lo and on -/
def sliceR (f : Nat → Bool) (lo j : Nat) : Bool := f (lo + j)
/-- the part of a list that is read -/
theorem RO.part {w : World} {b o n c lo m c' : Nat} {f : Nat → Bool} (h : RO w (.slice (some ⟨b, o, none⟩) n c) 1 n (bools (rl n f))) (hm : lo + m ≤ n) :
    RO w (.slice (some ⟨b, o + lo, none⟩) m c') 1 m (bools (rl m fun j => f (lo + j))) := by
  refine ⟨by simp [bools, rl], _, _, rfl, fun j u hj => ⟨b, o + lo, rfl, ?_⟩⟩
  have hjm : j < m := by
    rcases Nat.lt_or_ge j m with h | h
    · exact h
    · rw [List.getElem?_eq_none (by simp [bools, rl]; omega)] at hj; cases hj
  rw [bools_at _ j (by rw [rl_length]; exact hjm), rl_getD _ _ _ hjm] at hj
  have hat := bools_at (rl n f) (lo + j) (by rw [rl_length]; omega)
  rw [rl_getD n f (lo + j) (by omega), hj] at hat
  rw [Nat.add_assoc]; exact h.cell hat
theorem RO.ptr {w : World} {p : Option Addr} {n c : Nat} {f : Nat → Bool} (h : RO w (.slice p n c) 1 n (bools (rl n f))) (h0 : 0 < n) : ∃ b o, p = some ⟨b, o, none⟩ := by
  exact h.sl (bools_at (rl n f) 0 (by rw [rl_length]; exact h0))

set_option maxHeartbeats 1000000 in
theorem rslice_bad {w : World} {va : Value} {n : Nat} {cs : List Value} (hA : RO w va 1 n cs) (hn : n ≤ 140) (lo k : Int) (hb : lo < 0 ∨ k < 1 ∨ (n : Int) < k ∨ (n : Int) - k < lo) :
    Calls Try.prog 37 #[va, .int .i64 lo, .int .i64 k] w (RetEL w 0 (fun _ => false) 3) := by
  obtain ⟨pa, ca, rfl⟩ := hA.form
  clear hA
  by_cases h0 : lo < 0
  · clear hb
    go_enter Try.func37, Try.ntmps37
    go_wp2_with fail
    go_ret2
    exact ⟨_, rfl, RO.nil _ _ _, Below.refl _ _⟩
  have g0 : decide (lo < 0) = false := by simp; omega
  by_cases h1 : k < 1
  · clear hb h0
    go_enter Try.func37, Try.ntmps37
    go_wp2_with fail
    go_ret2
    exact ⟨_, rfl, RO.nil _ _ _, Below.refl _ _⟩
  have g1 : decide (k < 1) = false := by simp; omega
  by_cases h2 : (n : Int) < lo
  · clear hb h0 h1
    go_enter Try.func37, Try.ntmps37
    go_wp2_with fail
    go_ret2
    exact ⟨_, rfl, RO.nil _ _ _, Below.refl _ _⟩
  · have g2 : decide ((n : Int) < lo) = false := by simp; omega
    have h3 : (n : Int) - lo < k := by omega
    have hw : IntKind.i64.wrap ((n : Int) - lo) = (n : Int) - lo := IntWalk.i64_in _ (by omega)
    clear hb h0 h1 h2
    go_enter Try.func37, Try.ntmps37
    go_wp2_with fail
    go_ret2
    exact ⟨_, rfl, RO.nil _ _ _, Below.refl _ _⟩

set_option maxHeartbeats 1000000 in
theorem rslice_good {w : World} {p : Option Addr} {n c : Nat} {f : Nat → Bool} (hA : RO w (.slice p n c) 1 n (bools (rl n f))) (hc : n ≤ c) (hn : n ≤ 140) (lo m : Nat) (hm : 1 ≤ m) (hlm : lo + m ≤ n) :
    Calls Try.prog 37 #[.slice p n c, .int .i64 lo, .int .i64 m] w (RetEL w m (sliceR f lo) 0) := by
  obtain ⟨b, o, rfl⟩ := hA.ptr (by omega)
  have HA : Hid (∀ c', RO (w.alloc (.cells #[] 4)) (.slice (some ⟨b, o + lo, none⟩) m c') 1 m (bools (rl m (sliceR f lo)))) := Lib.hid fun c' => (hA.part hlm).below (Below.new w (.cells #[] 4))
  have g0 : decide ((lo : Int) < 0) = false := by simp
  have g1 : decide ((m : Int) < 1) = false := by simp; omega
  have g2 : decide ((n : Int) < lo) = false := by simp; omega
  have g2' : decide (n < lo) = false := decide_eq_false (by omega)
  have hcl : ¬ c = lo := by omega
  have g3 : decide ((n : Int) - lo < m) = false := by simp; omega
  have hw : IntKind.i64.wrap ((n : Int) - lo) = (n : Int) - lo := IntWalk.i64_in _ (by omega)
  have hw2 : IntKind.i64.wrap ((lo : Int) + m) = (lo : Int) + m := IntWalk.i64_in _ (by omega)
  have q1 : (0 : Int) ≤ (lo : Int) + m := by omega
  have q2 : ((lo : Int) + m) ≤ c := by omega
  have q3 : (lo : Int) ≤ (lo : Int) + m := by omega
  have q4 : ((lo : Int) + m).toNat = lo + m := by omega
  have q5 : lo + m - lo = m := by omega
  have HS := Lib.hid (own_bools0 w)
  have hmi : m ≤ 140 := by omega
  clear hA hm hlm
  go_enter Try.func37, Try.ntmps37
  go_wp2_with (at_builtin; go_must (refine wpList_appR rfl _ _ 35 rfl Try.T35 w.heap.size (.slice (some ⟨w.heap.size, 0, none⟩) 0 0) 0 (bools []) rfl HS.out _ m _ rfl (HA.out _) (bools_one _) (by omega) (by omega) (by simp) ?_); intro v4 w4 happ; have HP := Lib.hid happ; clear happ)
  go_ret2
  refine ⟨_, rfl, ?_, HP.out.below (Below.new _ _) (by simp) (fun k hk => by have := own_bk hk; omega)⟩
  have := RO.own HP.out.own
  rwa [Nat.zero_add, bools_append, List.nil_append] at this

theorem RO.part' {w : World} {b o n c lo m c' : Nat} {f : Nat → Bool} {p : Option Addr} (h : RO w (.slice (some ⟨b, o, none⟩) n c) 1 n (bools (rl n f))) (hm : lo + m ≤ n) (hp : 0 < m → p = some ⟨b, o + lo, none⟩) :
    RO w (.slice p m c') 1 m (bools (rl m fun j => f (lo + j))) := by
  by_cases h0 : m = 0
  · subst h0
    exact ⟨rfl, _, _, rfl, fun j u hj => by simp [rl, bools] at hj⟩
  · obtain rfl := hp (by omega)
    exact h.part hm

set_option maxHeartbeats 1000000 in
theorem rput_bad {w : World} {va vb : Value} {n m : Nat} {cs ds : List Value} (hA : RO w va 1 n cs) (hB : RO w vb 1 m ds) (hn : n ≤ 140) (hm : m ≤ 140) (lo : Int) (hb : lo < 0 ∨ m < 1 ∨ (n : Int) < lo ∨ (n : Int) - lo < m) :
    Calls Try.prog 38 #[va, .int .i64 lo, vb] w (RetEL w 0 (fun _ => false) 3) := by
  obtain ⟨pa, ca, rfl⟩ := hA.form
  obtain ⟨pb, cb, rfl⟩ := hB.form
  clear hA hB
  by_cases h0 : lo < 0
  · clear hb
    go_enter Try.func38, Try.ntmps38
    go_wp2_with fail
    go_ret2
    exact ⟨_, rfl, RO.nil _ _ _, Below.refl _ _⟩
  have g0 : decide (lo < 0) = false := by simp; omega
  by_cases h1 : m < 1
  · have h1i : (m : Int) < 1 := by omega
    clear hb h0
    go_enter Try.func38, Try.ntmps38
    go_wp2_with fail
    go_ret2
    exact ⟨_, rfl, RO.nil _ _ _, Below.refl _ _⟩
  have g1 : decide ((m : Int) < 1) = false := by simp; omega
  by_cases h2 : (n : Int) < lo
  · clear hb h0 h1
    go_enter Try.func38, Try.ntmps38
    go_wp2_with fail
    go_ret2
    exact ⟨_, rfl, RO.nil _ _ _, Below.refl _ _⟩
  · have g2 : decide ((n : Int) < lo) = false := by simp; omega
    have h3 : (n : Int) - lo < m := by omega
    have hw : IntKind.i64.wrap ((n : Int) - lo) = (n : Int) - lo := IntWalk.i64_in _ (by omega)
    clear hb h0 h1 h2
    go_enter Try.func38, Try.ntmps38
    go_wp2_with fail
    go_ret2
    exact ⟨_, rfl, RO.nil _ _ _, Below.refl _ _⟩

/-- what Put gives -/
def putR (f g : Nat → Bool) (lo m j : Nat) : Bool := if j < lo then f j else if j < lo + m then g (j - lo) else f j

set_option maxHeartbeats 2000000 in
theorem rput_good {w : World} {p : Option Addr} {vb : Value} {n c m : Nat} {f g : Nat → Bool} (hA : RO w (.slice p n c) 1 n (bools (rl n f))) (hc : n ≤ c) (hn : n ≤ 140) (hB : RO w vb 1 m (bools (rl m g))) (lo : Nat) (hm : 1 ≤ m) (hlm : lo + m ≤ n) :
    Calls Try.prog 38 #[.slice p n c, .int .i64 lo, vb] w (RetEL w n (putR f g lo m) 0) := by
  obtain ⟨b, o, rfl⟩ := hA.ptr (by omega)
  obtain ⟨pb, cb, rfl⟩ := hB.form
  have HA := Lib.hid hA
  have HB := Lib.hid hB
  have HP1 : Hid (∀ c', RO (w.alloc (.cells #[] 4)) (.slice (some ⟨b, o, none⟩) lo c') 1 lo (bools (rl lo fun j => f (0 + j)))) := Lib.hid fun c' => (hA.part' (lo := 0) (m := lo) (by omega) (fun _ => rfl)).below (Below.new w (.cells #[] 4))
  have HP3 : Hid (∀ w' c', Below w.heap.size w w' → RO w' (.slice (if c = lo + m then some ⟨b, o, none⟩ else some ⟨b, o + (lo + m), none⟩) (n - (lo + m)) c') 1 (n - (lo + m)) (bools (rl (n - (lo + m)) fun j => f (lo + m + j)))) := Lib.hid fun w' c' hb => by
    refine (hA.part' (lo := lo + m) (m := n - (lo + m)) (by omega) (fun h0 => ?_)).below hb
    rw [if_neg (by omega)]
  have g0 : decide ((lo : Int) < 0) = false := by simp
  have g1 : decide ((m : Int) < 1) = false := by simp; omega
  have g2 : decide ((n : Int) < lo) = false := by simp; omega
  have g2' : decide (n < lo) = false := decide_eq_false (by omega)
  have g3 : decide ((n : Int) - lo < m) = false := by simp; omega
  have hw : IntKind.i64.wrap ((n : Int) - lo) = (n : Int) - lo := IntWalk.i64_in _ (by omega)
  have hw2 : IntKind.i64.wrap ((lo : Int) + m) = (lo : Int) + m := IntWalk.i64_in _ (by omega)
  have q1 : (0 : Int) ≤ (lo : Int) + m := by omega
  have q2 : ((lo : Int) + m) ≤ n := by omega
  have q2' : ((lo : Int)) ≤ c := by omega
  have q4 : ((lo : Int) + m).toNat = lo + m := by omega
  have q5 : (n : Int) ≤ c := by omega
  have HS := Lib.hid (own_bools0 w)
  have HL := Lib.hid (And.intro hn (And.intro hm hlm))
  clear hA hB hm hlm hn
  go_enter Try.func38, Try.ntmps38
  have HFin : Hid (bools (rl lo fun j => f (0 + j)) ++ bools (rl m g) ++ bools (rl (n - (lo + m)) fun j => f (lo + m + j)) = bools (rl n (putR f g lo m))) := Lib.hid (by
    have hl := HL.out
    rw [bools_append, bools_append, rl_append, rl_append, show lo + m + (n - (lo + m)) = n by omega]
    congr 1
    refine rl_congr fun i hi => ?_
    unfold putR
    by_cases h1 : i < lo
    · rw [if_pos (show i < lo + m by omega), if_pos h1, if_pos h1, Nat.zero_add]
    · by_cases h2 : i < lo + m
      · rw [if_pos h2, if_neg h1, if_neg h1, if_pos h2]
      · rw [if_neg h2, if_neg h1, if_neg h2, show lo + m + (i - (lo + m)) = i by omega])
  go_wp2_with (first
    | (at_builtin; refine wpList_appR rfl _ _ 35 rfl Try.T35 w.heap.size (.slice pv5 (lo + m) cv5) (lo + m) _ rfl HP2.out.1 _ (n - (lo + m)) _ rfl (HP3.out _ _ HP2.out.2) (bools_one _) (by have := HL.out; omega) (by have := HL.out; omega) HP2.out.2.size ?_; intro v6 w6 happ; have HP4 := Lib.hid (And.intro happ (happ.below HP2.out.2 HP2.out.2.size (fun k hk => (HP2.out.1.lt k hk).1))); clear happ)
    | (at_builtin; refine wpList_appR rfl _ _ 35 rfl Try.T35 w.heap.size (.slice pv4 lo cv4) lo _ rfl HP.out.1 _ m _ rfl (HB.out.below HP.out.2) (bools_one _) (by have := HL.out; omega) (by have := HL.out; omega) HP.out.2.size ?_; intro v5 w5 happ; have HP2 := Lib.hid (And.intro happ.own (happ.below HP.out.2 HP.out.2.size (fun k hk => (HP.out.1.lt k hk).1))); obtain ⟨pv5, cv5, ev5⟩ := ownsRow_form happ.own; subst ev5; clear happ)
    | (at_builtin; refine wpList_appR rfl _ _ 35 rfl Try.T35 w.heap.size (.slice (some ⟨w.heap.size, 0, none⟩) 0 0) 0 (bools []) rfl HS.out _ lo _ rfl (HP1.out _) (bools_one _) (by have := HL.out; omega) (by have := HL.out; omega) (by simp) ?_; intro v4 w4 happ; have hown := happ.own; rw [Nat.zero_add] at hown; have HP := Lib.hid (And.intro hown (happ.below (Below.new _ _) (by simp) (fun k hk => by have := own_bk hk; omega))); obtain ⟨pv4, cv4, ev4⟩ := ownsRow_form hown; subst ev4; clear happ hown))
  all_goals
    go_ret2
    refine ⟨_, rfl, ?_, HP4.out.2⟩
    have := RO.own HP4.out.1.own
    rwa [show bools [] = [] from rfl, List.nil_append, HFin.out, show lo + m + (n - (lo + m)) = n by have := HL.out; omega] at this
end Go.Proofs.Ytmimafbedbohiaa
