import Derived.Test.YtmimafbedbohiaaB6
import Derived.Test.YtmimafbedbohiaaQ2
import Derived.Deep.CutRange
import Derived.Test.YtmimafbedbohiaaB3
import Derived.Test.YtmimafbedbohiaaB4
namespace Go.Proofs.Ytmimafbedbohiaa
set_option linter.unusedVariables false
open Go.RowKit

theorem Try.T24 : SlTy Try.prog 24 22 1 8 (.int .u64 0) := SlTy.of Try.underlying24 Try.info22 rfl Nat.one_pos
theorem Try.T35 : SlTy Try.prog 35 4 1 1 (.bool false) := SlTy.of Try.underlying35 Try.info4 rfl Nat.one_pos

set_option maxRecDepth 100000 in
theorem clone_any {w : World} {v : Value} {m : Nat} {xs : List Value} (h : RO w v 1 m xs) (h1 : ∀ u ∈ xs, u.oneCell' = true) (hm : m ≤ 1000000) : Calls Try.prog 62 #[v] w fun e w' => ∃ v', e = .returned v' ∧ w'.ownsRow w.heap.size 22 1 v' m xs ∧ Below w.heap.size w w' := by
  have H := Lib.hid h
  have H1 := Lib.hid h1
  obtain ⟨hl, p, c, rfl, hcell⟩ := h
  cases p with
  | none =>
    have hx : xs = [] := by
      cases xs with
      | nil => rfl
      | cons u r => obtain ⟨b, o', hb, _⟩ := hcell 0 u rfl; cases hb
    subst hx
    obtain rfl : m = 0 := by simpa using hl.symm
    have hnil := fun w' => Lib.run_eql_slice_nil (P := Try.prog) w' 24 22 none 0 c 0 0 Try.underlying24
    clear H H1 h1 hcell hl
    go_enter Try.func62, Try.ntmps62
    go_wp2_with fail
    go_ret
    exact ⟨_, rfl, ⟨rfl, .inl ⟨rfl, rfl⟩⟩, Below.refl _ _⟩
  | some ad =>
    have hnil := fun w' => Lib.run_eql_slice_nil (P := Try.prog) w' 24 22 (some ad) m c 0 0 Try.underlying24
    have hs0 := (Blk.new (w := w) 22 []).own (n := 0) (size := 1) (by simp) (Nat.zero_le _) w.heap.size (Nat.le_refl _)
    have HS := Lib.hid (And.intro hs0 (And.intro (H.out.below (Below.new w (.cells #[] 22))) (Below.new w (.cells #[] 22))))
    clear hcell hl h1 hs0
    go_enter Try.func62, Try.ntmps62
    go_wp2_with (at_builtin; go_must (refine wpList_appR rfl _ _ 24 rfl Try.T24 w.heap.size (.slice (some ⟨w.heap.size, 0, none⟩) 0 0) 0 [] rfl HS.out.1 _ m xs rfl HS.out.2.1 H1.out (by omega) (by omega) (by simp) ?_); intro v4 w4 happ; have HP := Lib.hid happ; clear happ)
    have hf := ownsRow_le HP.out.own
    go_ret
    refine ⟨_, rfl, by have := HP.out.own; rwa [Nat.zero_add, List.nil_append] at this, HP.out.below HS.out.2.2 (by simp) ?_⟩
    intro k hk
    have : k = w.heap.size := by simpa [Value.ownBlock] using hk.symm
    omega
end Go.Proofs.Ytmimafbedbohiaa
namespace Go.Proofs.Ytmimafbedbohiaa
set_option linter.unusedVariables false
open Go.RowKit

theorem wordsV_one (m x : Nat) : ∀ u ∈ wordsV m x, u.oneCell' = true := by
  intro u hu
  simp only [wordsV, List.mem_map] at hu
  obtain ⟨x, _, rfl⟩ := hu; rfl
theorem words_any {w : World} {v : Value} {n x : Nat} (h : VR w v n x) : Calls Try.prog 25 #[v] w fun e w' => ∃ v', e = .returned v' ∧ w'.ownsRow w.heap.size 22 1 v' (wcount n) (wordsV (wcount n) x) ∧ Below w.heap.size w w' := by
  obtain ⟨⟨p, c, rfl, hr⟩, _, hle⟩ := h
  have HC := Lib.hid (fun o => clone_any (hr.below (Below.new w o)) (wordsV_one _ _) (by unfold wcount; omega))
  clear hr
  go_enter Try.func25, Try.ntmps25
  go_wp2_with fail
  refine (HC.out _).mono ?_; rintro e w1 ⟨v', rfl, ho, hb⟩
  have HH := Lib.hid (And.intro ho hb)
  clear ho hb
  go_wp2_with fail
  go_ret
  refine ⟨_, rfl, ⟨HH.out.1.1, ?_⟩, Below.then (Below.new _ _) HH.out.2 (Nat.le_refl _)⟩
  rcases HH.out.1.2 with h | ⟨g, cap, cur, h1, h2, h3⟩
  · exact .inl h
  · exact .inr ⟨g, cap, cur, h1, by have := h2; rw [World.size_alloc] at this; omega, h3⟩

/-- a list of bits and an error are returned -/
def RetEL (w : World) (n : Nat) (f : Nat → Bool) (err : Int) (e : Ending) (w' : World) : Prop := ∃ v, e = .returned (.tuple #[v, .int .i64 err]) ∧ RO w' v 1 n (bools (rl n f)) ∧ Below w.heap.size w w'
theorem RO.nil (w : World) (f : Nat → Bool) (c : Nat) : RO w (.slice none 0 c) 1 0 (bools (rl 0 f)) := ⟨rfl, _, _, rfl, fun j u hj => by simp [rl, bools] at hj⟩
theorem rl_append (n m : Nat) (f g : Nat → Bool) : rl n f ++ rl m g = rl (n + m) (fun i => if i < n then f i else g (i - n)) := by
  apply List.ext_getElem?
  intro j
  by_cases h : j < n
  · rw [List.getElem?_append_left (by rw [rl_length]; exact h)]
    simp only [rl, List.getElem?_map, List.getElem?_range h, List.getElem?_range (show j < n + m by omega), Option.map_some, if_pos h]
  · rw [List.getElem?_append_right (by rw [rl_length]; omega), rl_length]
    simp only [rl, List.getElem?_map]
    by_cases h2 : j < n + m
    · rw [List.getElem?_range (by omega : j - n < m), List.getElem?_range h2]; simp [h]
    · rw [List.getElem?_eq_none (by simp; omega), List.getElem?_eq_none (by simp; omega)]; rfl
theorem bools_append (a b : List Bool) : bools a ++ bools b = bools (a ++ b) := by simp [bools]

theorem rof_bad {w : World} {va : Value} {n : Nat} {cs : List Value} (hA : RO w va 1 n cs) (hb : n < 1 ∨ 128 < n) : Calls Try.prog 22 #[va] w (RetEL w 0 (fun _ => false) 2) := by
  obtain ⟨pa, ca, rfl⟩ := hA.form
  clear hA
  by_cases h1 : n < 1
  · have hi : (n : Int) < 1 := by omega
    clear hb h1
    go_enter Try.func22, Try.ntmps22
    go_wp2_with fail
    go_ret2
    exact ⟨_, rfl, RO.nil _ _ _, Below.refl _ _⟩
  · have hd : decide ((n : Int) < 1) = false := by simp; omega
    have hi : (128 : Int) < n := by omega
    clear hb h1
    go_enter Try.func22, Try.ntmps22
    go_wp2_with fail
    go_ret2
    exact ⟨_, rfl, RO.nil _ _ _, Below.refl _ _⟩

theorem own_bools0 (w : World) : (w.alloc (.cells #[] 4)).ownsRow w.heap.size 4 1 (.slice (some ⟨w.heap.size, 0, none⟩) 0 0) 0 (bools []) := (Blk.new (w := w) 4 []).own (n := 0) (size := 1) (by simp) (Nat.zero_le _) w.heap.size (Nat.le_refl _)
theorem own_bk {k : Nat} {g : Nat} (hk : (Value.slice (some ⟨g, 0, none⟩) 0 0).ownBlock = some k) : g = k := by simpa [Value.ownBlock] using hk

theorem rof_good {w : World} {va : Value} {n : Nat} {f : Nat → Bool} (hA : RO w va 1 n (bools (rl n f))) (h1 : 1 ≤ n) (h2 : n ≤ 128) : Calls Try.prog 22 #[va] w (RetEL w n f 0) := by
  have HA := Lib.hid (hA.below (Below.new w (.cells #[] 4)))
  obtain ⟨pa, ca, rfl⟩ := hA.form
  have hd : decide ((n : Int) < 1) = false := by simp; omega
  have hi : (n : Int) ≤ 128 := by omega
  have HS := Lib.hid (own_bools0 w)
  clear hA h1
  go_enter Try.func22, Try.ntmps22
  go_wp2_with (at_builtin; go_must (refine wpList_appR rfl _ _ 35 rfl Try.T35 w.heap.size (.slice (some ⟨w.heap.size, 0, none⟩) 0 0) 0 (bools []) rfl HS.out _ n _ rfl HA.out (bools_one _) (by omega) (by omega) (by simp) ?_); intro v4 w4 happ; have HP := Lib.hid happ; clear happ)
  go_ret2
  refine ⟨_, rfl, ?_, HP.out.below (Below.new _ _) (by simp) (fun k hk => by have := own_bk hk; omega)⟩
  have := RO.own HP.out.own
  rwa [Nat.zero_add, bools_append, List.nil_append] at this
end Go.Proofs.Ytmimafbedbohiaa
namespace Go.Proofs.Ytmimafbedbohiaa
set_option linter.unusedVariables false
open Go.RowKit

/-- as VO, with cells behind the words -/
structure VOc (w : World) (v : Value) (n x b cap : Nat) (rest : List Value) : Prop where
  e : v = .agg #[.int .i64 n, .slice (some ⟨b, 0, none⟩) (wcount n) cap]
  blk : Blk w b 22 (wordsV (wcount n) x ++ rest)
  lt : x < 2 ^ (64 * wcount n)
  le : n ≤ 128
theorem VOc.below {w w' : World} {v n x b cap rest} (h : VOc w v n x b cap rest) (hb : Below w.heap.size w w') : VOc w' v n x b cap rest := ⟨h.e, h.blk.below hb h.blk.lt, h.lt, h.le⟩
theorem VOc.other {w : World} {v n x b cap rest} (h : VOc w v n x b cap rest) {a : Addr} (ha : b ≠ a.block) (u : Value) : VOc (w.setCell a u) v n x b cap rest := ⟨h.e, h.blk.other u ha, h.lt, h.le⟩
theorem VOc.at {m x i : Nat} {rest : List Value} (h : i < m) : (wordsV m x ++ rest)[i]? = some (.int .u64 (word x i)) := by
  rw [List.getElem?_append_left (by rw [wordsV_length]; exact h)]; exact wordsV_at h
theorem VOc.vr {w v n x b cap rest} (h : VOc w v n x b cap rest) (hx : x < 2 ^ n) : VR w v n x := by
  refine ⟨⟨_, _, h.e, by rw [wordsV_length, Nat.mul_one], _, _, rfl, fun j u hj => ⟨b, 0, rfl, ?_⟩⟩, hx, h.le⟩
  rw [Nat.zero_add]
  refine h.blk.cell ?_
  rw [List.getElem?_append_left (by rcases Nat.lt_or_ge j (wordsV (wcount n) x).length with h | h; exact h; rw [List.getElem?_eq_none h] at hj; cases hj)]; exact hj
theorem VOc.set {w : World} {v n x b cap rest} (h : VOc w v n x b cap rest) {i y : Nat} (hi : i < wcount n) (hy : y < 2 ^ 64) : VOc (w.setCell ⟨b, i, none⟩ (.int .u64 y)) v n (setW x i y) b cap rest :=
  ⟨h.e, by have := h.blk.set i (.int .u64 y); rwa [List.set_append_left _ _ (by rw [wordsV_length]; exact hi), wordsV_set hy] at this, setW_lt h.lt hi hy, h.le⟩
theorem VOc.congr {w : World} {v n x y b cap rest} (h : VOc w v n x b cap rest) (hy : y < 2 ^ (64 * wcount n)) (he : ∀ i, i < wcount n → word x i = word y i) : VOc w v n y b cap rest := by
  obtain rfl := words_ext h.lt hy he; exact h
theorem VOc.setBit {w : World} {v : Value} {n x b cap rest} (h : VOc w v n x b cap rest) (i : Nat) (is : Bool) (hi : i < n) : VOc (w.setCell ⟨b, i / 64, none⟩ (.int .u64 ((setB (word x (i / 64)) (i % 64) is : Nat) : Int))) v n (setB x i is) b cap rest := by
  have hk : i / 64 < wcount n := by unfold wcount; omega
  have hy : setB (word x (i / 64)) (i % 64) is < 2 ^ 64 := setB_lt is (word_lt _ _) (Nat.mod_lt _ (by decide))
  refine (h.set hk hy).congr (setB_lt is h.lt (by have := n_le_words n; omega)) fun j _ => ?_
  rw [setW_word _ _ _ _ hy, setB_word]
  by_cases e : j = i / 64
  · subst e; rfl
  · rw [if_neg e, if_neg e]

set_option maxRecDepth 100000 in
set_option maxHeartbeats 1000000 in
theorem setc_any {w : World} {v : Value} {n x b cap rest} (h : VOc w v n x b cap rest) (i : Nat) (is : Bool) (hi : i < n) :
    Calls Try.prog 61 #[v, .int .i64 i, .bool is] w fun e w' => e = .returned (.tuple #[]) ∧ VOc w' v n (setB x i is) b cap rest ∧ w.grownBy w' (some b) := by
  have HV := Lib.hid (fun o => h.below (Below.new w o))
  obtain ⟨rfl, hb, hx, hn⟩ := h
  have hk : i / 64 < wcount n := by unfold wcount; omega
  have hlt := hb.lt
  have hc := (hb.alloc (.cells #[.int .i64 n, .slice (some ⟨b, 0, none⟩) (wcount n) cap] 26)).cell (VOc.at hk)
  have hf := (hb.alloc (.cells #[.int .i64 n, .slice (some ⟨b, 0, none⟩) (wcount n) cap] 26)).frz (i / 64)
  have hp0 := (Blk.new (w := w) 26 [.int .i64 n, .slice (some ⟨b, 0, none⟩) (wcount n) cap]).cell (i := 0) rfl
  have hp1 := (Blk.new (w := w) 26 [.int .i64 n, .slice (some ⟨b, 0, none⟩) (wcount n) cap]).cell (i := 1) rfl
  have hi' : (i : Int) ≤ 128 := by omega
  have q1 : (0 : Int) ≤ (i : Int) / 64 := by omega
  have q2 : (i : Int) / 64 < (wcount n : Int) := by omega
  have q3 : ((i : Int) / 64).toNat = i / 64 := by omega
  have q4 : (0 : Int) ≤ (i : Int) % 64 := by omega
  have q5 : ((i : Int) % 64).toNat = i % 64 := by omega
  have q6 : (i : Int).tmod 64 = (i : Int) % 64 := Int.tmod_eq_emod_of_nonneg (by omega)
  have q0 : IntKind.i64.wrap ((i : Int) / 64) = (i : Int) / 64 := IntWalk.i64_in _ (by omega)
  go_enter Try.func61, Try.ntmps61
  have hu0 := Lib.hid (u64_clr (word x (i / 64)) (i % 64) (word_lt _ _) (Nat.mod_lt _ (by decide)))
  have hu1 := Lib.hid (u64_put (word x (i / 64)) (i % 64) (word_lt _ _) (Nat.mod_lt _ (by decide)))
  have HG := Lib.hid (fun o y => grown_set w o b (i / 64) y hlt)
  have HI := Lib.hid hi
  clear hb hx hi hn hk
  cases is
  all_goals
    go_wp2_with fail
    have HV2 := Lib.hid ((HV.out (.cells #[.int .i64 n, .slice (some ⟨b, 0, none⟩) (wcount n) cap] 26)).setBit i)
    have HG2 := Lib.hid (HG.out (.cells #[.int .i64 n, .slice (some ⟨b, 0, none⟩) (wcount n) cap] 26))
    generalize w.alloc (.cells #[.int .i64 n, .slice (some ⟨b, 0, none⟩) (wcount n) cap] 26) = W at *
    refine wp_region_still_tail 11 (by kernel_rfl) (by kernel_rfl) ?_
    simp only [List.take_succ_cons, List.take_zero, List.drop_succ_cons, List.drop_zero]
    change wpStill _ _ W.drew (fun a' => wpList _ _ _ _ a' W.drew) _ _
    repeat still_step
    refine wpStill_nil ?_
    go_wp2_with fail
    first | rw [hu0.out] | rw [hu1.out]
    go_end0
    exact ⟨rfl, (HV2.out _ HI.out).below ((Below.refl _ _).drew), HG2.out _⟩

set_option maxRecDepth 100000 in
set_option maxHeartbeats 4000000 in
theorem put_bad {w : World} {va vb : Value} {n m A B : Nat} (hA : VR w va n A) (hB : VR w vb m B) (lo : Int) (hb : lo < 0 ∨ m < 1 ∨ n < m ∨ (n : Int) - m < lo) :
    Calls Try.prog 31 #[va, .int .i64 lo, vb] w (RetE w 0 0 3) := by
  have hni : (n : Int) ≤ 128 := by have := hA.le; omega
  have hmi : (m : Int) ≤ 128 := by have := hB.le; omega
  obtain ⟨pa, ca, rfl, _⟩ := hA.ex
  obtain ⟨pb, cb, rfl, _⟩ := hB.ex
  have hbel : Below w.heap.size w (((w.alloc (.cells #[.int .i64 n, .slice pa (wcount n) ca] 26)).alloc (.cells #[.int .i64 m, .slice pb (wcount m) cb] 26)).alloc (.cells #[.int .i64 0, .slice none 0 0] 26)) := ((Below.new _ _).alloc (by simp) _).alloc (by simp; omega) _
  have HBel := Lib.hid hbel
  clear hA hB hbel
  by_cases h0 : lo < 0
  · clear hb
    go_enter Try.func31, Try.ntmps31
    go_wp2_with fail
    exact bodyPost_ret (v := .tuple #[.agg #[.int .i64 0, .slice none 0 0], .int .i64 3]) (by simp [results, Try.results31, go_sem]) rfl ⟨_, rfl, VR.zero _, HBel.out, Far.zero _ _⟩
  have g0 : decide (lo < 0) = false := by simp; omega
  by_cases h1 : m < 1
  · have h1i : (m : Int) < 1 := by omega
    clear hb h0 h1
    go_enter Try.func31, Try.ntmps31
    go_wp2_with fail
    exact bodyPost_ret (v := .tuple #[.agg #[.int .i64 0, .slice none 0 0], .int .i64 3]) (by simp [results, Try.results31, go_sem]) rfl ⟨_, rfl, VR.zero _, HBel.out, Far.zero _ _⟩
  have g1 : decide ((m : Int) < 1) = false := by simp; omega
  by_cases h2 : n < m
  · have h2i : (n : Int) < m := by omega
    clear hb h0 h1 h2
    go_enter Try.func31, Try.ntmps31
    go_wp2_with fail
    exact bodyPost_ret (v := .tuple #[.agg #[.int .i64 0, .slice none 0 0], .int .i64 3]) (by simp [results, Try.results31, go_sem]) rfl ⟨_, rfl, VR.zero _, HBel.out, Far.zero _ _⟩
  · have g2 : decide (n < m) = false := decide_eq_false h2
    have g2i : decide ((n : Int) < m) = false := by simp; omega
    have h3 : (n : Int) - m < lo := by omega
    have hw : IntKind.i64.wrap ((n : Int) - m) = (n : Int) - m := IntWalk.i64_in _ (by omega)
    clear hb h0 h1 h2
    go_enter Try.func31, Try.ntmps31
    go_wp2_with fail
    exact bodyPost_ret (v := .tuple #[.agg #[.int .i64 0, .slice none 0 0], .int .i64 3]) (by simp [results, Try.results31, go_sem]) rfl ⟨_, rfl, VR.zero _, HBel.out, Far.zero _ _⟩
end Go.Proofs.Ytmimafbedbohiaa
namespace Go.Proofs.Ytmimafbedbohiaa
set_option linter.unusedVariables false
open Go.RowKit

structure Bldc (w : World) (bs : List (Nat × List Value)) (n x b cap : Nat) (rest : List Value) (wr : World) : Prop where
  bx : ∀ p ∈ bs, Blk wr p.1 26 p.2 ∧ p.1 ≠ b
  vo : VOc wr (.agg #[.int .i64 n, .slice (some ⟨b, 0, none⟩) (wcount n) cap]) n x b cap rest
  bel : Below w.heap.size w wr
  ge : w.heap.size ≤ b
theorem Bldc.box {w bs n x b cap rest wr} (h : Bldc w bs n x b cap rest wr) {p : Nat × List Value} (hp : p ∈ bs) : Blk wr p.1 26 p.2 := (h.bx p hp).1
theorem Bldc.grown {w bs n x y b cap rest wr w'} (h : Bldc w bs n x b cap rest wr) (hg : wr.grownBy w' (some b)) (hv : VOc w' (.agg #[.int .i64 n, .slice (some ⟨b, 0, none⟩) (wcount n) cap]) n y b cap rest) : Bldc w bs n y b cap rest w' := by
  refine ⟨fun p hp => ?_, hv, below_grown h.bel hg h.bel.size h.ge, h.ge⟩
  obtain ⟨h1, h2⟩ := h.bx p hp
  refine ⟨?_, h2⟩
  unfold Blk at *
  rw [hg.block p.1 (some_lt h1) (by simpa using h2)]; exact h1
theorem Bldc.below {w bs n x b cap rest wr w'} (h : Bldc w bs n x b cap rest wr) (hb : Below wr.heap.size wr w') : Bldc w bs n x b cap rest w' :=
  ⟨fun p hp => ⟨(h.bx p hp).1.below hb (h.bx p hp).1.lt, (h.bx p hp).2⟩, h.vo.below hb, h.bel.trans (hb.mono h.bel.size), h.ge⟩
theorem Bldc.drew {w bs n x b cap rest wr} (h : Bldc w bs n x b cap rest wr) : Bldc w bs n x b cap rest wr.drew := h.below (Below.refl _ _).drew
theorem Bldc.start1 {w W w1 : World} {bs : List (Nat × List Value)} {n x b cap : Nat} {rest : List Value} (hbs : ∀ p ∈ bs, Blk W p.1 26 p.2) (hb : Below w.heap.size w W) (hb1 : Below W.heap.size W w1) (hk : Blk w1 b 22 (wordsV (wcount n) x ++ rest)) (hge : W.heap.size ≤ b) (hx : x < 2 ^ (64 * wcount n)) (hn : n ≤ 128) :
    Bldc w ((w1.heap.size, [.int .i64 n, .slice (some ⟨b, 0, none⟩) (wcount n) cap]) :: bs) n x b cap rest (w1.alloc (.cells #[.int .i64 n, .slice (some ⟨b, 0, none⟩) (wcount n) cap] 26)) := by
  have h1 : Below w.heap.size w w1 := hb.trans (hb1.mono hb.size)
  refine ⟨fun p hp => ?_, ⟨rfl, hk.alloc _, hx, hn⟩, h1.alloc h1.size _, Nat.le_trans hb.size hge⟩
  rcases List.mem_cons.1 hp with rfl | hp
  · exact ⟨Blk.new 26 [.int .i64 n, .slice (some ⟨b, 0, none⟩) (wcount n) cap], by have := hk.lt; show w1.heap.size ≠ b; omega⟩
  · exact ⟨((hbs p hp).below hb1 (hbs p hp).lt).alloc _, by have := (hbs p hp).lt; omega⟩
theorem Bldc.start2 {w W w1 : World} {bs : List (Nat × List Value)} {n x b cap : Nat} {rest : List Value} (hbs : ∀ p ∈ bs, Blk W p.1 26 p.2) (hb : Below w.heap.size w W) (hb1 : Below (W.alloc (.cells #[.int .i64 0, .slice none 0 0] 26)).heap.size (W.alloc (.cells #[.int .i64 0, .slice none 0 0] 26)) w1) (hk : Blk w1 b 22 (wordsV (wcount n) x ++ rest)) (hge : (W.alloc (.cells #[.int .i64 0, .slice none 0 0] 26)).heap.size ≤ b) (hx : x < 2 ^ (64 * wcount n)) (hn : n ≤ 128) :
    Bldc w ((W.heap.size, [.int .i64 n, .slice (some ⟨b, 0, none⟩) (wcount n) cap]) :: bs) n x b cap rest ((w1.setCell ⟨W.heap.size, 0, none⟩ (.int .i64 n)).setCell ⟨W.heap.size, 1, none⟩ (.slice (some ⟨b, 0, none⟩) (wcount n) cap)) := by
  have hg : W.heap.size < b := by rw [World.size_alloc] at hge; omega
  have h1 : Below w.heap.size w w1 := (hb.alloc hb.size _).trans (hb1.mono (by have := hb.size; rw [World.size_alloc]; omega))
  have hL : Blk w1 W.heap.size 26 [.int .i64 0, .slice none 0 0] := (Blk.new (w := W) 26 [.int .i64 0, .slice none 0 0]).below hb1 (by rw [World.size_alloc]; omega)
  refine ⟨fun p hp => ?_, ⟨rfl, (hk.other (a := ⟨W.heap.size, 0, none⟩) _ (Nat.ne_of_gt hg)).other (a := ⟨W.heap.size, 1, none⟩) _ (Nat.ne_of_gt hg), hx, hn⟩, (h1.setCell hb.size _).setCell hb.size _, by have := hb.size; omega⟩
  rcases List.mem_cons.1 hp with rfl | hp
  · exact ⟨(hL.set 0 (.int .i64 n)).set 1 (.slice (some ⟨b, 0, none⟩) (wcount n) cap), Nat.ne_of_lt hg⟩
  · have hlt := (hbs p hp).lt
    refine ⟨((((hbs p hp).alloc (.cells #[.int .i64 0, .slice none 0 0] 26)).below hb1 (by rw [World.size_alloc]; omega)).other (a := ⟨W.heap.size, 0, none⟩) _ (Nat.ne_of_lt hlt)).other (a := ⟨W.heap.size, 1, none⟩) _ (Nat.ne_of_lt hlt), by omega⟩
theorem Bldc.ret {w bs n x b cap rest w3} (h : Bldc w bs n x b cap rest w3) {R : Nat} {u v : Value} (hR : (R, [u, v]) ∈ bs) (hge : w.heap.size ≤ R) :
    ((w3.setCell ⟨R, 0, none⟩ (.int .i64 n)).setCell ⟨R, 1, none⟩ (.slice (some ⟨b, 0, none⟩) (wcount n) cap)).cell? ⟨R, 0, none⟩ = some (.int .i64 n) ∧
    ((w3.setCell ⟨R, 0, none⟩ (.int .i64 n)).setCell ⟨R, 1, none⟩ (.slice (some ⟨b, 0, none⟩) (wcount n) cap)).cell? ⟨R, 1, none⟩ = some (.slice (some ⟨b, 0, none⟩) (wcount n) cap) ∧
    VOc ((w3.setCell ⟨R, 0, none⟩ (.int .i64 n)).setCell ⟨R, 1, none⟩ (.slice (some ⟨b, 0, none⟩) (wcount n) cap)) (.agg #[.int .i64 n, .slice (some ⟨b, 0, none⟩) (wcount n) cap]) n x b cap rest ∧
    Below w.heap.size w ((w3.setCell ⟨R, 0, none⟩ (.int .i64 n)).setCell ⟨R, 1, none⟩ (.slice (some ⟨b, 0, none⟩) (wcount n) cap)) := by
  obtain ⟨h1, h2⟩ := h.bx _ hR
  have hk := (h1.set 0 (.int .i64 n)).set 1 (.slice (some ⟨b, 0, none⟩) (wcount n) cap)
  exact ⟨hk.cell (i := 0) rfl, hk.cell (i := 1) rfl, (h.vo.other (Ne.symm h2) _).other (Ne.symm h2) _, (h.bel.setCell hge _).setCell hge _⟩
theorem Bldc.four {w bs n x b cap rest wr} (h : Bldc w bs n x b cap rest wr) {L a : Nat} {u v y z : Value} (hL : (L, [u, v]) ∈ bs) (ha : (a, [y, z]) ∈ bs) : wr.cell? ⟨L, 0, none⟩ = some u ∧ wr.cell? ⟨L, 1, none⟩ = some v ∧ wr.cell? ⟨a, 0, none⟩ = some y ∧ wr.cell? ⟨a, 1, none⟩ = some z :=
  ⟨(h.box hL).cell (i := 0) rfl, (h.box hL).cell (i := 1) rfl, (h.box ha).cell (i := 0) rfl, (h.box ha).cell (i := 1) rfl⟩
theorem own_blk {w' w'' : World} {e : Ending} {v' : Value} {m : Nat} {l : List Value} (hm : 0 < m) (he : e = .returned v') (ho : w''.ownsRow w'.heap.size 22 1 v' m l) (hb2 : Below w'.heap.size w' w'') :
    ∃ b cap rest, e = .returned (.slice (some ⟨b, 0, none⟩) m cap) ∧ Blk w'' b 22 (l ++ rest) ∧ w'.heap.size ≤ b ∧ Below w'.heap.size w' w'' := by
  obtain ⟨hl, ⟨_, h0⟩ | ⟨g, cap, cur, rfl, h1, h2, h3, h4, h5, h6⟩⟩ := ho
  · omega
  · refine ⟨g, cap, cur.toList.drop m, he, ?_, h1, hb2⟩
    unfold Blk
    rw [h2, ← h6, Nat.mul_one, List.take_append_drop, Array.toArray_toList]
/-- what Put gives -/
def putF (A B lo m j : Nat) : Bool := if j < lo then A.testBit j else if j < lo + m then B.testBit (j - lo) else A.testBit j

set_option maxRecDepth 100000 in
set_option maxHeartbeats 4000000 in
theorem put_good {w : World} {va vb : Value} {n m A B : Nat} (hA : VR w va n A) (hB : VR w vb m B) (lo : Nat) (hm : 1 ≤ m) (hlm : lo + m ≤ n) :
    Calls Try.prog 31 #[va, .int .i64 lo, vb] w (RetE w n (ofB (putF A B lo m) n) 0) := by
  have HA := Lib.hid hA
  have hn128 := hA.le
  have hni : (n : Int) ≤ 128 := by omega
  have hmi : (1 : Int) ≤ m := by omega
  have g0 : decide ((lo : Int) < 0) = false := by simp
  have g1 : decide ((m : Int) < 1) = false := by simp; omega
  have g2 : decide (n < m) = false := decide_eq_false (by omega)
  have g2i : decide ((n : Int) < m) = false := by simp; omega
  have g3 : decide ((n : Int) - m < lo) = false := by simp; omega
  have g4 : (lo : Int) + m ≤ n := by omega
  have hw : IntKind.i64.wrap ((n : Int) - m) = (n : Int) - m := IntWalk.i64_in _ (by omega)
  have HBit := Lib.hid (fun w' (hb : Below w.heap.size w w') => bit_any (hB.below hb))
  obtain ⟨pa, ca, rfl, ra⟩ := hA.ex
  obtain ⟨pb, cb, rfl, rb⟩ := hB.ex
  have HClone : Hid (∀ w', Below w.heap.size w w' → Calls Try.prog 62 #[.slice pa (wcount n) ca] w' fun e w'' => ∃ b cap rest, e = .returned (.slice (some ⟨b, 0, none⟩) (wcount n) cap) ∧ Blk w'' b 22 (wordsV (wcount n) A ++ rest) ∧ w'.heap.size ≤ b ∧ Below w'.heap.size w' w'') := Lib.hid fun w' hb => (clone_any (ra.below hb) (wordsV_one _ _) (by unfold wcount; omega)).mono fun e w'' ⟨v', he, ho, hb2⟩ => own_blk (by unfold wcount; omega) he ho hb2
  have HLT := Lib.hid (And.intro (Nat.lt_of_lt_of_le hA.lt (Nat.pow_le_pow_right (by decide) (n_le_words n))) (And.intro hA.lt (And.intro hm hlm)))
  clear hA hB ra rb hn128 hm hlm
  go_enter Try.func31, Try.ntmps31
  go_upto_region 3 with fail
  have k0 := ((Blk.new (w := w) 26 [.int .i64 n, .slice pa (wcount n) ca]).alloc (.cells #[.int .i64 m, .slice pb (wcount m) cb] 26)).alloc (.cells #[.int .i64 0, .slice none 0 0] 26)
  have k1 := (Blk.new (w := w.alloc (.cells #[.int .i64 n, .slice pa (wcount n) ca] 26)) 26 [.int .i64 m, .slice pb (wcount m) cb]).alloc (.cells #[.int .i64 0, .slice none 0 0] 26)
  have k2 := Blk.new (w := (w.alloc (.cells #[.int .i64 n, .slice pa (wcount n) ca] 26)).alloc (.cells #[.int .i64 m, .slice pb (wcount m) cb] 26)) 26 [.int .i64 0, .slice none 0 0]
  have hb3 : Below w.heap.size w (((w.alloc (.cells #[.int .i64 n, .slice pa (wcount n) ca] 26)).alloc (.cells #[.int .i64 m, .slice pb (wcount m) cb] 26)).alloc (.cells #[.int .i64 0, .slice none 0 0] 26)) := ((Below.new _ _).alloc (by simp) _).alloc (by simp; omega) _
  simp only [World.size_alloc] at k1 k2
  generalize ((w.alloc (.cells #[.int .i64 n, .slice pa (wcount n) ca] 26)).alloc (.cells #[.int .i64 m, .slice pb (wcount m) cb] 26)).alloc (.cells #[.int .i64 0, .slice none 0 0] 26) = W at *
  have HK := Lib.hid (And.intro k0 (And.intro k1 (And.intro k2 hb3)))
  clear k0 k1 k2 hb3
  go_cut [8] from 34 (fun v8 wx => ∃ L b cap rest, v8 = .pointer (some ⟨L, 0, none⟩) ∧ Bldc w [(L, [.int .i64 n, .slice (some ⟨b, 0, none⟩) (wcount n) cap]), (w.heap.size, [.int .i64 n, .slice pa (wcount n) ca]), (w.heap.size + 1, [.int .i64 m, .slice pb (wcount m) cb]), (w.heap.size + 1 + 1, [.int .i64 0, .slice none 0 0])] n A b cap rest wx)
  case first =>
    have s0 : W.drew.cell? ⟨w.heap.size, 0, none⟩ = some (.int .i64 n) ∧ W.drew.cell? ⟨w.heap.size, 1, none⟩ = some (.slice pa (wcount n) ca) ∧ Below w.heap.size w W.drew := ⟨HK.out.1.drew.cell (i := 0) rfl, HK.out.1.drew.cell (i := 1) rfl, HK.out.2.2.2.drew⟩
    have sA : ∀ o, (W.drew.alloc o).cell? ⟨w.heap.size, 0, none⟩ = some (.int .i64 n) ∧ (W.drew.alloc o).cell? ⟨w.heap.size, 1, none⟩ = some (.slice pa (wcount n) ca) ∧ Below w.heap.size w (W.drew.alloc o) := fun o => two_step s0 (Below.new _ _)
    go_region_held3 (fun w' => w'.cell? ⟨w.heap.size, 0, none⟩ = some (.int .i64 n) ∧ w'.cell? ⟨w.heap.size, 1, none⟩ = some (.slice pa (wcount n) ca) ∧ Below w.heap.size w w')
      (first | assumption | exact sA _ | exact two_step s1 (Below.new _ _) | exact two_set s1 (Nat.ne_of_gt HK.out.1.lt) (Nat.le_of_lt HK.out.1.lt))
      (first
        | (go_at_call 62; refine (HClone.out _ (by first | exact s0.2.2 | exact (sA _).2.2)).mono ?_; rintro e w1 ⟨b1, cap1, rest1, rfl, hk1, hge1, hb1⟩; have s1 := two_step (by first | exact s0 | exact sA _) hb1; (first | (have L1 : Blk w1 W.heap.size 26 [.int .i64 0, .slice none 0 0] := (Blk.new (w := W.drew) 26 [.int .i64 0, .slice none 0 0]).next hb1; have l0 := L1.cell (i := 0) rfl; have l1 := L1.cell (i := 1) rfl; have lf0 := L1.frz 0; have lf1 := L1.frz 1; have HL1 := Lib.hid L1; clear L1) | skip); have H1 := Lib.hid (And.intro hk1 (And.intro hge1 hb1)); clear hk1 hge1 hb1))
    all_goals
      go_wp2_with fail
      go_meet
      have hbs : ∀ p ∈ [(w.heap.size, [Value.int .i64 n, .slice pa (wcount n) ca]), (w.heap.size + 1, [.int .i64 m, .slice pb (wcount m) cb]), (w.heap.size + 1 + 1, [.int .i64 0, .slice none 0 0])], Blk W.drew p.1 26 p.2 := by
        intro p hp
        simp only [List.mem_cons, List.not_mem_nil, or_false] at hp
        rcases hp with rfl | rfl | rfl
        · exact HK.out.1.drew
        · exact HK.out.2.1.drew
        · exact HK.out.2.2.1.drew
      first
        | exact ⟨_, _, _, _, rfl, Bldc.start1 hbs HK.out.2.2.2.drew H1.out.2.2 H1.out.1 H1.out.2.1 HLT.out.1 (by omega)⟩
        | exact ⟨_, _, _, _, rfl, Bldc.start2 (W := W.drew) hbs HK.out.2.2.2.drew H1.out.2.2 H1.out.1 H1.out.2.1 HLT.out.1 (by omega)⟩
  case rest =>
    obtain ⟨L, b, cap, rest, rfl, hS⟩ := hcut
    generalize hbs : [(L, [Value.int .i64 n, .slice (some ⟨b, 0, none⟩) (wcount n) cap]), (w.heap.size, [Value.int .i64 n, .slice pa (wcount n) ca]), (w.heap.size + 1, [.int .i64 m, .slice pb (wcount m) cb]), (w.heap.size + 1 + 1, [.int .i64 0, .slice none 0 0])] = bs at *
    have hL : (L, [Value.int .i64 n, .slice (some ⟨b, 0, none⟩) (wcount n) cap]) ∈ bs := by rw [← hbs]; simp
    have ha : (w.heap.size + 1, [Value.int .i64 m, .slice pb (wcount m) cb]) ∈ bs := by rw [← hbs]; simp
    have hR : (w.heap.size + 1 + 1, [Value.int .i64 0, .slice none 0 0]) ∈ bs := by rw [← hbs]; simp
    have m0 := (hS.box ha).cell (i := 0) rfl
    have HS := Lib.hid (And.intro hL (And.intro ha hR))
    have HS0 := Lib.hid hS
    dsimp only at m0
    clear hbs hL ha hR hS HK
    go_wp2_with fail
    go_loopw [42] (fun i wr => ∃ k : Nat, k ≤ m ∧ i = .int .i64 k ∧ ∃ X, Bldc w bs n X b cap rest wr ∧ ∀ j, X.testBit j = if lo ≤ j ∧ j < lo + k then B.testBit (j - lo) else A.testBit j) (fun i _ => m - (intOf i).toNat)
    case atStart => exact ⟨0, Nat.zero_le _, rfl, A, HS0.out, fun j => by rw [if_neg (by omega)]⟩
    case round =>
      obtain ⟨k, hk, rfl, X, hX, hXb⟩ := hrel
      have HX := Lib.hid hX
      have HXb := Lib.hid hXb
      have s0 := hX.drew.four HS.out.1 HS.out.2.1
      by_cases hlt : k < m
      · have hki : (k : Int) < m := by omega
        have hlk : lo + k < n := by have := HLT.out; omega
        have hb := HBit.out wr.drew hX.drew.bel (k : Int)
        rw [show bitI B (k : Int) = B.testBit k by simp [bitI]] at hb
        have HC := Lib.hid hb
        have hwr : IntKind.i64.wrap ((lo : Int) + (k : Int)) = ((lo + k : Nat) : Int) := by rw [IntWalk.i64_in _ (by omega)]; omega
        have HQ : Hid (∀ j, (setB X (lo + k) (B.testBit k)).testBit j = if lo ≤ j ∧ j < lo + (k + 1) then B.testBit (j - lo) else A.testBit j) := Lib.hid fun j => by
          rw [setB_bit]
          by_cases e : j = lo + k
          · subst e; rw [if_pos rfl, if_pos (by omega), show lo + k - lo = k by omega]
          · rw [if_neg e, hXb]
            by_cases e2 : lo ≤ j ∧ j < lo + k
            · rw [if_pos e2, if_pos (by omega)]
            · rw [if_neg e2, if_neg (by omega)]
        have HLK := Lib.hid (And.intro hlk hlt)
        generalize hr : B.testBit k = r at *
        clear hX hb g0 g1 g2 g3 hXb hk hr hlk hlt
        go_wp2_with fail
        go_region_held3 (fun w' => w'.cell? ⟨L, 0, none⟩ = some (.int .i64 n) ∧ w'.cell? ⟨L, 1, none⟩ = some (.slice (some ⟨b, 0, none⟩) (wcount n) cap) ∧ w'.cell? ⟨w.heap.size + 1, 0, none⟩ = some (.int .i64 m) ∧ w'.cell? ⟨w.heap.size + 1, 1, none⟩ = some (.slice pb (wcount m) cb))
          (first | assumption)
          (first
            | (go_at_call 17; refine HC.out.mono ?_; rintro e w5 ⟨rfl, hb5⟩; have s5 := four_step s0 hb5; have H5 := Lib.hid (HX.out.drew.below hb5); clear hb5)
            | (go_at_call 61; refine (setc_any H5.out.vo (lo + k) r HLK.out.1).mono ?_; rintro e w6 ⟨rfl, hv6, hg6⟩; have h6 := H5.out.grown hg6 hv6; have s6 := h6.four HS.out.1 HS.out.2.1; have H6 := Lib.hid h6; clear hv6 hg6 h6))
        go_wp2_with fail
        go_roundw
        case rel => exact ⟨k + 1, HLK.out.2, by go_num, _, H6.out, HQ.out⟩
        case measure => have := HLK.out.2; simp [intOf]; omega
      · obtain rfl : k = m := by omega
        have kr := hX.box HS.out.2.2
        have r0 := kr.cell (i := 0) rfl
        have r1 := kr.cell (i := 1) rfl
        have f0 := kr.frz 0
        have f1 := kr.frz 1
        have y0 := (hX.box HS.out.1).cell (i := 0) rfl
        have y1 := (hX.box HS.out.1).cell (i := 1) rfl
        have HE : Hid (X = ofB (putF A B lo k) n) := Lib.hid (by
          apply eq_bits; intro j
          have hl := HLT.out
          rw [hXb, testBit_ofB]
          unfold putF
          by_cases h1 : j < n
          · rw [decide_eq_true h1, Bool.true_and]
            by_cases h2 : j < lo
            · rw [if_neg (by omega), if_pos h2]
            · by_cases h3 : j < lo + k
              · rw [if_pos (by omega), if_neg h2, if_pos h3]
              · rw [if_neg (by omega), if_neg h2, if_neg h3]
          · rw [decide_eq_false h1, Bool.false_and, if_neg (by omega), bit_big hl.2.1 (by omega)])
        dsimp only at r0 r1 f0 f1 y0 y1
        clear hX kr hlt s0 hXb
        go_wp2_with fail
        obtain ⟨e0, e1, hv, hbl⟩ := HX.out.ret HS.out.2.2 (by omega)
        rw [HE.out] at hv
        exact bodyPost_ret (v := .tuple #[.agg #[.int .i64 n, .slice (some ⟨b, 0, none⟩) (wcount n) cap], .int .i64 0]) (by simp [results, Try.results31, go_sem, e0, e1]) rfl ⟨_, rfl, hv.vr (ofB_lt _ _), hbl, Far.vec HX.out.ge⟩
end Go.Proofs.Ytmimafbedbohiaa
namespace Go.Proofs.Ytmimafbedbohiaa
set_option linter.unusedVariables false

theorem xor_low {X k : Nat} (h : X < 2 ^ k) : X ^^^ 2 ^ k = X + 2 ^ k := by
  apply eq_bits; intro j
  rw [Nat.testBit_xor, Nat.testBit_two_pow, Nat.add_comm]
  rcases Nat.lt_trichotomy j k with hj | hj | hj
  · rw [Nat.testBit_two_pow_add_gt hj]
    have : ¬ k = j := by omega
    simp [this]
  · subst hj
    rw [Nat.testBit_two_pow_add_eq, bit_big h (Nat.le_refl _)]; simp
  · have h1 : 2 ^ k + X < 2 ^ j := Nat.lt_of_lt_of_le (by rw [Nat.pow_succ]; omega : 2 ^ k + X < 2 ^ (k + 1)) (Nat.pow_le_pow_right (by decide) hj)
    have : ¬ k = j := by omega
    rw [Nat.testBit_lt_two_pow h1, bit_big h (by omega)]; simp [this]
theorem xor_top {X k : Nat} (h : X < 2 ^ (k + 1)) : X ^^^ 2 ^ k = if 2 ^ k ≤ X then X - 2 ^ k else X + 2 ^ k := by
  by_cases hx : 2 ^ k ≤ X
  · rw [if_pos hx]
    rw [Nat.pow_succ] at h
    have hz : X - 2 ^ k < 2 ^ k := by omega
    have := xor_low hz
    rw [show X - 2 ^ k + 2 ^ k = X by omega] at this
    rw [← this, Nat.xor_assoc, Nat.xor_self, Nat.xor_zero, this]
  · rw [if_neg hx]; exact xor_low (by omega)
theorem slt_xor {n X Y : Nat} (hn : 0 < n) (hX : X < 2 ^ n) (hY : Y < 2 ^ n) : sltB n X Y = decide (X ^^^ 2 ^ (n - 1) < Y ^^^ 2 ^ (n - 1)) := by
  obtain ⟨k, rfl⟩ : ∃ k, n = k + 1 := ⟨n - 1, by omega⟩
  rw [Nat.add_sub_cancel, xor_top hX, xor_top hY]
  unfold sltB
  rw [top_eq (by omega) hX, top_eq (by omega) hY]
  rw [Nat.pow_succ] at *
  generalize 2 ^ k = h at *
  rw [Bool.eq_iff_iff]
  by_cases h1 : h ≤ X <;> by_cases h2 : h ≤ Y <;> simp [show (h * 2 ≤ 2 * X) ↔ h ≤ X by omega, show (h * 2 ≤ 2 * Y) ↔ h ≤ Y by omega, h1, h2] <;> omega
/-- the vector with the highest bit alone -/
theorem put_high {n : Nat} (hn : 0 < n) : ofB (putF 0 1 (n - 1) 1) n = 2 ^ (n - 1) := by
  apply eq_bits; intro j
  rw [testBit_ofB, Nat.testBit_two_pow]
  unfold putF
  by_cases h : j < n - 1
  · rw [if_pos h]; have : ¬ n - 1 = j := by omega
    simp [this]
  · rw [if_neg h]
    by_cases h2 : j < n - 1 + 1
    · obtain rfl : j = n - 1 := by omega
      rw [if_pos h2]; simp; omega
    · rw [if_neg h2]; have : ¬ n - 1 = j := by omega
      simp [this]
end Go.Proofs.Ytmimafbedbohiaa
namespace Go.Proofs.Ytmimafbedbohiaa
set_option linter.unusedVariables false

theorem moves_back {n X K : Nat} (hK : K < n) : shiftN 11 n (shiftN 10 n X K) K = ofB (extF (ofB (sliceF X 0) (n - K)) (n - K) false) n := by
  have hm : min K n = K := by omega
  unfold shiftN
  rw [hm]
  simp only [if_true, show ¬ (11 : Nat) = 10 by decide, if_false]
  refine ofB_congr fun j hj => ?_
  unfold downF extF
  rw [testBit_ofB, testBit_ofB]
  unfold upF sliceF
  by_cases h : j < n - K
  · rw [if_pos h, decide_eq_true (show j + K < n by omega), decide_eq_true (show K ≤ j + K by omega), decide_eq_true h, Nat.add_sub_cancel, Nat.zero_add]; simp
  · rw [if_neg h, decide_eq_false h]; simp
theorem moves_all {n X : Nat} : shiftN 11 n (shiftN 10 n X n) n = 0 := by
  unfold shiftN
  rw [Nat.min_self]
  simp only [show ¬ (11 : Nat) = 10 by decide, if_false, if_true]
  refine ofB_none _ _ fun j hj => ?_
  unfold downF
  rw [if_neg (by omega)]
theorem top_not {n X : Nat} (hn : 0 < n) (hX : X < 2 ^ n) : topB n (notN n X) = !topB n X := by
  unfold topB bitI
  rw [decide_eq_true (by omega), show ((n : Int) - 1).toNat = n - 1 by omega, notN_bit hX, decide_eq_true (by omega)]; simp
theorem moves_sar {n X K : Nat} (hn : 0 < n) (hX : X < 2 ^ n) : notN n (shiftN 12 n (notN n X) K) = shiftN 12 n X K := by
  apply eq_bits; intro j
  have hl : shiftN 12 n (notN n X) K < 2 ^ n := shiftN_lt _ _ _ _
  rw [notN_bit hl]
  unfold shiftN
  simp only [show ¬ (12 : Nat) = 10 by decide, show ¬ (12 : Nat) = 11 by decide, if_false]
  rw [testBit_ofB, testBit_ofB, top_not hn hX]
  by_cases hj : j < n
  · rw [decide_eq_true hj]
    unfold downF
    by_cases h : j < n - min K n
    · rw [if_pos h, if_pos h, notN_bit hX, decide_eq_true (by omega)]; simp
    · rw [if_neg h, if_neg h]; simp
  · rw [decide_eq_false hj]; simp
end Go.Proofs.Ytmimafbedbohiaa
