import Derived.Test.YtmimafbedbohiaaA38
import Derived.Deep.CutRange
namespace Go.Proofs.Ytmimafbedbohiaa
set_option linter.unusedVariables false
open Go.RowKit

structure Bldc (w : World) (bs : List (Nat × List Value)) (n x b cap : Nat) (rest : List Value) (wr : World) : Prop where
  bx : ∀ p ∈ bs, Blk wr p.1 26 p.2 ∧ p.1 ≠ b
  vo : VOc wr (.agg #[.int .i64 n, .slice (some ⟨b, 0, none⟩) (wcount n) cap]) n x b cap rest
  bel : Below w.heap.size w wr
  ge : w.heap.size ≤ b
theorem Bldc.box {w bs n x b cap rest wr} (h : Bldc w bs n x b cap rest wr) {p : Nat × List Value} (hp : p ∈ bs) : Blk wr p.1 26 p.2 := (h.bx p hp).1
theorem Bldc.grown {w bs n x y b cap rest wr w'} (h : Bldc w bs n x b cap rest wr) (hg : wr.grownBy w' (some b)) (hv : VOc w' (.agg #[.int .i64 n, .slice (some ⟨b, 0, none⟩) (wcount n) cap]) n y b cap rest) : Bldc w bs n y b cap rest w' := by
  refine ⟨fun p hp => ?_, hv, below_grown h.bel hg h.bel.size h.ge, h.ge⟩
  obtain ⟨h1, h2⟩ := h.bx p hp
  refine ⟨?_, h2⟩
  unfold Blk at *
  rw [hg.block p.1 (some_lt h1) (by simpa using h2)]; exact h1
theorem Bldc.below {w bs n x b cap rest wr w'} (h : Bldc w bs n x b cap rest wr) (hb : Below wr.heap.size wr w') : Bldc w bs n x b cap rest w' :=
  ⟨fun p hp => ⟨(h.bx p hp).1.below hb (h.bx p hp).1.lt, (h.bx p hp).2⟩, h.vo.below hb, h.bel.trans (hb.mono h.bel.size), h.ge⟩
theorem Bldc.drew {w bs n x b cap rest wr} (h : Bldc w bs n x b cap rest wr) : Bldc w bs n x b cap rest wr.drew := h.below (Below.refl _ _).drew
theorem Bldc.start1 {w W w1 : World} {bs : List (Nat × List Value)} {n x b cap : Nat} {rest : List Value} (hbs : ∀ p ∈ bs, Blk W p.1 26 p.2) (hb : Below w.heap.size w W) (hb1 : Below W.heap.size W w1) (hk : Blk w1 b 22 (wordsV (wcount n) x ++ rest)) (hge : W.heap.size ≤ b) (hx : x < 2 ^ (64 * wcount n)) (hn : n ≤ 128) :
    Bldc w ((w1.heap.size, [.int .i64 n, .slice (some ⟨b, 0, none⟩) (wcount n) cap]) :: bs) n x b cap rest (w1.alloc (.cells #[.int .i64 n, .slice (some ⟨b, 0, none⟩) (wcount n) cap] 26)) := by
  have h1 : Below w.heap.size w w1 := hb.trans (hb1.mono hb.size)
  refine ⟨fun p hp => ?_, ⟨rfl, hk.alloc _, hx, hn⟩, h1.alloc h1.size _, Nat.le_trans hb.size hge⟩
  rcases List.mem_cons.1 hp with rfl | hp
  · exact ⟨Blk.new 26 [.int .i64 n, .slice (some ⟨b, 0, none⟩) (wcount n) cap], by have := hk.lt; show w1.heap.size ≠ b; omega⟩
  · exact ⟨((hbs p hp).below hb1 (hbs p hp).lt).alloc _, by have := (hbs p hp).lt; omega⟩
theorem Bldc.start2 {w W w1 : World} {bs : List (Nat × List Value)} {n x b cap : Nat} {rest : List Value} (hbs : ∀ p ∈ bs, Blk W p.1 26 p.2) (hb : Below w.heap.size w W) (hb1 : Below (W.alloc (.cells #[.int .i64 0, .slice none 0 0] 26)).heap.size (W.alloc (.cells #[.int .i64 0, .slice none 0 0] 26)) w1) (hk : Blk w1 b 22 (wordsV (wcount n) x ++ rest)) (hge : (W.alloc (.cells #[.int .i64 0, .slice none 0 0] 26)).heap.size ≤ b) (hx : x < 2 ^ (64 * wcount n)) (hn : n ≤ 128) :
    Bldc w ((W.heap.size, [.int .i64 n, .slice (some ⟨b, 0, none⟩) (wcount n) cap]) :: bs) n x b cap rest ((w1.setCell ⟨W.heap.size, 0, none⟩ (.int .i64 n)).setCell ⟨W.heap.size, 1, none⟩ (.slice (some ⟨b, 0, none⟩) (wcount n) cap)) := by
  have hg : W.heap.size < b := by rw [World.size_alloc] at hge; omega
  have h1 : Below w.heap.size w w1 := (hb.alloc hb.size _).trans (hb1.mono (by have := hb.size; rw [World.size_alloc]; omega))
  have hL : Blk w1 W.heap.size 26 [.int .i64 0, .slice none 0 0] := (Blk.new (w := W) 26 [.int .i64 0, .slice none 0 0]).below hb1 (by rw [World.size_alloc]; omega)
  refine ⟨fun p hp => ?_, ⟨rfl, (hk.other (a := ⟨W.heap.size, 0, none⟩) _ (Nat.ne_of_gt hg)).other (a := ⟨W.heap.size, 1, none⟩) _ (Nat.ne_of_gt hg), hx, hn⟩, (h1.setCell hb.size _).setCell hb.size _, by have := hb.size; omega⟩
  rcases List.mem_cons.1 hp with rfl | hp
  · exact ⟨(hL.set 0 (.int .i64 n)).set 1 (.slice (some ⟨b, 0, none⟩) (wcount n) cap), Nat.ne_of_lt hg⟩
  · have hlt := (hbs p hp).lt
    refine ⟨((((hbs p hp).alloc (.cells #[.int .i64 0, .slice none 0 0] 26)).below hb1 (by rw [World.size_alloc]; omega)).other (a := ⟨W.heap.size, 0, none⟩) _ (Nat.ne_of_lt hlt)).other (a := ⟨W.heap.size, 1, none⟩) _ (Nat.ne_of_lt hlt), by omega⟩
theorem Bldc.ret {w bs n x b cap rest w3} (h : Bldc w bs n x b cap rest w3) {R : Nat} {u v : Value} (hR : (R, [u, v]) ∈ bs) (hge : w.heap.size ≤ R) :
    ((w3.setCell ⟨R, 0, none⟩ (.int .i64 n)).setCell ⟨R, 1, none⟩ (.slice (some ⟨b, 0, none⟩) (wcount n) cap)).cell? ⟨R, 0, none⟩ = some (.int .i64 n) ∧
    ((w3.setCell ⟨R, 0, none⟩ (.int .i64 n)).setCell ⟨R, 1, none⟩ (.slice (some ⟨b, 0, none⟩) (wcount n) cap)).cell? ⟨R, 1, none⟩ = some (.slice (some ⟨b, 0, none⟩) (wcount n) cap) ∧
    VOc ((w3.setCell ⟨R, 0, none⟩ (.int .i64 n)).setCell ⟨R, 1, none⟩ (.slice (some ⟨b, 0, none⟩) (wcount n) cap)) (.agg #[.int .i64 n, .slice (some ⟨b, 0, none⟩) (wcount n) cap]) n x b cap rest ∧
    Below w.heap.size w ((w3.setCell ⟨R, 0, none⟩ (.int .i64 n)).setCell ⟨R, 1, none⟩ (.slice (some ⟨b, 0, none⟩) (wcount n) cap)) := by
  obtain ⟨h1, h2⟩ := h.bx _ hR
  have hk := (h1.set 0 (.int .i64 n)).set 1 (.slice (some ⟨b, 0, none⟩) (wcount n) cap)
  exact ⟨hk.cell (i := 0) rfl, hk.cell (i := 1) rfl, (h.vo.other (Ne.symm h2) _).other (Ne.symm h2) _, (h.bel.setCell hge _).setCell hge _⟩
theorem Bldc.four {w bs n x b cap rest wr} (h : Bldc w bs n x b cap rest wr) {L a : Nat} {u v y z : Value} (hL : (L, [u, v]) ∈ bs) (ha : (a, [y, z]) ∈ bs) : wr.cell? ⟨L, 0, none⟩ = some u ∧ wr.cell? ⟨L, 1, none⟩ = some v ∧ wr.cell? ⟨a, 0, none⟩ = some y ∧ wr.cell? ⟨a, 1, none⟩ = some z :=
  ⟨(h.box hL).cell (i := 0) rfl, (h.box hL).cell (i := 1) rfl, (h.box ha).cell (i := 0) rfl, (h.box ha).cell (i := 1) rfl⟩
theorem own_blk {w' w'' : World} {e : Ending} {v' : Value} {m : Nat} {l : List Value} (hm : 0 < m) (he : e = .returned v') (ho : w''.ownsRow w'.heap.size 22 1 v' m l) (hb2 : Below w'.heap.size w' w'') :
    ∃ b cap rest, e = .returned (.slice (some ⟨b, 0, none⟩) m cap) ∧ Blk w'' b 22 (l ++ rest) ∧ w'.heap.size ≤ b ∧ Below w'.heap.size w' w'' := by
  obtain ⟨hl, ⟨_, h0⟩ | ⟨g, cap, cur, rfl, h1, h2, h3, h4, h5, h6⟩⟩ := ho
  · omega
  · refine ⟨g, cap, cur.toList.drop m, he, ?_, h1, hb2⟩
    unfold Blk
    rw [h2, ← h6, Nat.mul_one, List.take_append_drop, Array.toArray_toList]
/-- what Put gives -/
def putF (A B lo m j : Nat) : Bool := if j < lo then A.testBit j else if j < lo + m then B.testBit (j - lo) else A.testBit j

set_option maxRecDepth 100000 in
set_option maxHeartbeats 4000000 in
theorem put_good {w : World} {va vb : Value} {n m A B : Nat} (hA : VR w va n A) (hB : VR w vb m B) (lo : Nat) (hm : 1 ≤ m) (hlm : lo + m ≤ n) :
    Calls Try.prog 31 #[va, .int .i64 lo, vb] w (RetE w n (ofB (putF A B lo m) n) 0) := by
  have HA := Lib.hid hA
  have hn128 := hA.le
  have hni : (n : Int) ≤ 128 := by omega
  have hmi : (1 : Int) ≤ m := by omega
  have g0 : decide ((lo : Int) < 0) = false := by simp
  have g1 : decide ((m : Int) < 1) = false := by simp; omega
  have g2 : decide (n < m) = false := decide_eq_false (by omega)
  have g2i : decide ((n : Int) < m) = false := by simp; omega
  have g3 : decide ((n : Int) - m < lo) = false := by simp; omega
  have g4 : (lo : Int) + m ≤ n := by omega
  have hw : IntKind.i64.wrap ((n : Int) - m) = (n : Int) - m := IntWalk.i64_in _ (by omega)
  have HBit := Lib.hid (fun w' (hb : Below w.heap.size w w') => bit_any (hB.below hb))
  obtain ⟨pa, ca, rfl, ra⟩ := hA.ex
  obtain ⟨pb, cb, rfl, rb⟩ := hB.ex
  have HClone : Hid (∀ w', Below w.heap.size w w' → Calls Try.prog 62 #[.slice pa (wcount n) ca] w' fun e w'' => ∃ b cap rest, e = .returned (.slice (some ⟨b, 0, none⟩) (wcount n) cap) ∧ Blk w'' b 22 (wordsV (wcount n) A ++ rest) ∧ w'.heap.size ≤ b ∧ Below w'.heap.size w' w'') := Lib.hid fun w' hb => (clone_any (ra.below hb) (wordsV_one _ _) (by unfold wcount; omega)).mono fun e w'' ⟨v', he, ho, hb2⟩ => own_blk (by unfold wcount; omega) he ho hb2
  have HLT := Lib.hid (And.intro (Nat.lt_of_lt_of_le hA.lt (Nat.pow_le_pow_right (by decide) (n_le_words n))) (And.intro hA.lt (And.intro hm hlm)))
  clear hA hB ra rb hn128 hm hlm
  go_enter Try.func31, Try.ntmps31
  go_upto_region 3 with fail
  have k0 := ((Blk.new (w := w) 26 [.int .i64 n, .slice pa (wcount n) ca]).alloc (.cells #[.int .i64 m, .slice pb (wcount m) cb] 26)).alloc (.cells #[.int .i64 0, .slice none 0 0] 26)
  have k1 := (Blk.new (w := w.alloc (.cells #[.int .i64 n, .slice pa (wcount n) ca] 26)) 26 [.int .i64 m, .slice pb (wcount m) cb]).alloc (.cells #[.int .i64 0, .slice none 0 0] 26)
  have k2 := Blk.new (w := (w.alloc (.cells #[.int .i64 n, .slice pa (wcount n) ca] 26)).alloc (.cells #[.int .i64 m, .slice pb (wcount m) cb] 26)) 26 [.int .i64 0, .slice none 0 0]
  have hb3 : Below w.heap.size w (((w.alloc (.cells #[.int .i64 n, .slice pa (wcount n) ca] 26)).alloc (.cells #[.int .i64 m, .slice pb (wcount m) cb] 26)).alloc (.cells #[.int .i64 0, .slice none 0 0] 26)) := ((Below.new _ _).alloc (by simp) _).alloc (by simp; omega) _
  simp only [World.size_alloc] at k1 k2
  generalize ((w.alloc (.cells #[.int .i64 n, .slice pa (wcount n) ca] 26)).alloc (.cells #[.int .i64 m, .slice pb (wcount m) cb] 26)).alloc (.cells #[.int .i64 0, .slice none 0 0] 26) = W at *
  have HK := Lib.hid (And.intro k0 (And.intro k1 (And.intro k2 hb3)))
  clear k0 k1 k2 hb3
  go_cut [8] from 34 (fun v8 wx => ∃ L b cap rest, v8 = .pointer (some ⟨L, 0, none⟩) ∧ Bldc w [(L, [.int .i64 n, .slice (some ⟨b, 0, none⟩) (wcount n) cap]), (w.heap.size, [.int .i64 n, .slice pa (wcount n) ca]), (w.heap.size + 1, [.int .i64 m, .slice pb (wcount m) cb]), (w.heap.size + 1 + 1, [.int .i64 0, .slice none 0 0])] n A b cap rest wx)
  case first =>
    have s0 : W.drew.cell? ⟨w.heap.size, 0, none⟩ = some (.int .i64 n) ∧ W.drew.cell? ⟨w.heap.size, 1, none⟩ = some (.slice pa (wcount n) ca) ∧ Below w.heap.size w W.drew := ⟨HK.out.1.drew.cell (i := 0) rfl, HK.out.1.drew.cell (i := 1) rfl, HK.out.2.2.2.drew⟩
    have sA : ∀ o, (W.drew.alloc o).cell? ⟨w.heap.size, 0, none⟩ = some (.int .i64 n) ∧ (W.drew.alloc o).cell? ⟨w.heap.size, 1, none⟩ = some (.slice pa (wcount n) ca) ∧ Below w.heap.size w (W.drew.alloc o) := fun o => two_step s0 (Below.new _ _)
    go_region_held3 (fun w' => w'.cell? ⟨w.heap.size, 0, none⟩ = some (.int .i64 n) ∧ w'.cell? ⟨w.heap.size, 1, none⟩ = some (.slice pa (wcount n) ca) ∧ Below w.heap.size w w')
      (first | assumption | exact sA _ | exact two_step s1 (Below.new _ _) | exact two_set s1 (Nat.ne_of_gt HK.out.1.lt) (Nat.le_of_lt HK.out.1.lt))
      (first
        | (go_at_call 62; refine (HClone.out _ (by first | exact s0.2.2 | exact (sA _).2.2)).mono ?_; rintro e w1 ⟨b1, cap1, rest1, rfl, hk1, hge1, hb1⟩; have s1 := two_step (by first | exact s0 | exact sA _) hb1; (first | (have L1 : Blk w1 W.heap.size 26 [.int .i64 0, .slice none 0 0] := (Blk.new (w := W.drew) 26 [.int .i64 0, .slice none 0 0]).next hb1; have l0 := L1.cell (i := 0) rfl; have l1 := L1.cell (i := 1) rfl; have lf0 := L1.frz 0; have lf1 := L1.frz 1; have HL1 := Lib.hid L1; clear L1) | skip); have H1 := Lib.hid (And.intro hk1 (And.intro hge1 hb1)); clear hk1 hge1 hb1))
    all_goals
      go_wp2_with fail
      go_meet
      have hbs : ∀ p ∈ [(w.heap.size, [Value.int .i64 n, .slice pa (wcount n) ca]), (w.heap.size + 1, [.int .i64 m, .slice pb (wcount m) cb]), (w.heap.size + 1 + 1, [.int .i64 0, .slice none 0 0])], Blk W.drew p.1 26 p.2 := by
        intro p hp
        simp only [List.mem_cons, List.not_mem_nil, or_false] at hp
        rcases hp with rfl | rfl | rfl
        · exact HK.out.1.drew
        · exact HK.out.2.1.drew
        · exact HK.out.2.2.1.drew
      first
        | exact ⟨_, _, _, _, rfl, Bldc.start1 hbs HK.out.2.2.2.drew H1.out.2.2 H1.out.1 H1.out.2.1 HLT.out.1 (by omega)⟩
        | exact ⟨_, _, _, _, rfl, Bldc.start2 (W := W.drew) hbs HK.out.2.2.2.drew H1.out.2.2 H1.out.1 H1.out.2.1 HLT.out.1 (by omega)⟩
  case rest =>
    obtain ⟨L, b, cap, rest, rfl, hS⟩ := hcut
    generalize hbs : [(L, [Value.int .i64 n, .slice (some ⟨b, 0, none⟩) (wcount n) cap]), (w.heap.size, [Value.int .i64 n, .slice pa (wcount n) ca]), (w.heap.size + 1, [.int .i64 m, .slice pb (wcount m) cb]), (w.heap.size + 1 + 1, [.int .i64 0, .slice none 0 0])] = bs at *
    have hL : (L, [Value.int .i64 n, .slice (some ⟨b, 0, none⟩) (wcount n) cap]) ∈ bs := by rw [← hbs]; simp
    have ha : (w.heap.size + 1, [Value.int .i64 m, .slice pb (wcount m) cb]) ∈ bs := by rw [← hbs]; simp
    have hR : (w.heap.size + 1 + 1, [Value.int .i64 0, .slice none 0 0]) ∈ bs := by rw [← hbs]; simp
    have m0 := (hS.box ha).cell (i := 0) rfl
    have HS := Lib.hid (And.intro hL (And.intro ha hR))
    have HS0 := Lib.hid hS
    dsimp only at m0
    clear hbs hL ha hR hS HK
    go_wp2_with fail
    go_loopw [42] (fun i wr => ∃ k : Nat, k ≤ m ∧ i = .int .i64 k ∧ ∃ X, Bldc w bs n X b cap rest wr ∧ ∀ j, X.testBit j = if lo ≤ j ∧ j < lo + k then B.testBit (j - lo) else A.testBit j) (fun i _ => m - (intOf i).toNat)
    case atStart => exact ⟨0, Nat.zero_le _, rfl, A, HS0.out, fun j => by rw [if_neg (by omega)]⟩
    case round =>
      obtain ⟨k, hk, rfl, X, hX, hXb⟩ := hrel
      have HX := Lib.hid hX
      have HXb := Lib.hid hXb
      have s0 := hX.drew.four HS.out.1 HS.out.2.1
      by_cases hlt : k < m
      · have hki : (k : Int) < m := by omega
        have hlk : lo + k < n := by have := HLT.out; omega
        have hb := HBit.out wr.drew hX.drew.bel (k : Int)
        rw [show bitI B (k : Int) = B.testBit k by simp [bitI]] at hb
        have HC := Lib.hid hb
        have hwr : IntKind.i64.wrap ((lo : Int) + (k : Int)) = ((lo + k : Nat) : Int) := by rw [IntWalk.i64_in _ (by omega)]; omega
        have HQ : Hid (∀ j, (setB X (lo + k) (B.testBit k)).testBit j = if lo ≤ j ∧ j < lo + (k + 1) then B.testBit (j - lo) else A.testBit j) := Lib.hid fun j => by
          rw [setB_bit]
          by_cases e : j = lo + k
          · subst e; rw [if_pos rfl, if_pos (by omega), show lo + k - lo = k by omega]
          · rw [if_neg e, hXb]
            by_cases e2 : lo ≤ j ∧ j < lo + k
            · rw [if_pos e2, if_pos (by omega)]
            · rw [if_neg e2, if_neg (by omega)]
        have HLK := Lib.hid (And.intro hlk hlt)
        generalize hr : B.testBit k = r at *
        clear hX hb g0 g1 g2 g3 hXb hk hr hlk hlt
        go_wp2_with fail
        go_region_held3 (fun w' => w'.cell? ⟨L, 0, none⟩ = some (.int .i64 n) ∧ w'.cell? ⟨L, 1, none⟩ = some (.slice (some ⟨b, 0, none⟩) (wcount n) cap) ∧ w'.cell? ⟨w.heap.size + 1, 0, none⟩ = some (.int .i64 m) ∧ w'.cell? ⟨w.heap.size + 1, 1, none⟩ = some (.slice pb (wcount m) cb))
          (first | assumption)
          (first
            | (go_at_call 17; refine HC.out.mono ?_; rintro e w5 ⟨rfl, hb5⟩; have s5 := four_step s0 hb5; have H5 := Lib.hid (HX.out.drew.below hb5); clear hb5)
            | (go_at_call 61; refine (setc_any H5.out.vo (lo + k) r HLK.out.1).mono ?_; rintro e w6 ⟨rfl, hv6, hg6⟩; have h6 := H5.out.grown hg6 hv6; have s6 := h6.four HS.out.1 HS.out.2.1; have H6 := Lib.hid h6; clear hv6 hg6 h6))
        go_wp2_with fail
        go_roundw
        case rel => exact ⟨k + 1, HLK.out.2, by go_num, _, H6.out, HQ.out⟩
        case measure => have := HLK.out.2; simp [intOf]; omega
      · obtain rfl : k = m := by omega
        have kr := hX.box HS.out.2.2
        have r0 := kr.cell (i := 0) rfl
        have r1 := kr.cell (i := 1) rfl
        have f0 := kr.frz 0
        have f1 := kr.frz 1
        have y0 := (hX.box HS.out.1).cell (i := 0) rfl
        have y1 := (hX.box HS.out.1).cell (i := 1) rfl
        have HE : Hid (X = ofB (putF A B lo k) n) := Lib.hid (by
          apply eq_bits; intro j
          have hl := HLT.out
          rw [hXb, testBit_ofB]
          unfold putF
          by_cases h1 : j < n
          · rw [decide_eq_true h1, Bool.true_and]
            by_cases h2 : j < lo
            · rw [if_neg (by omega), if_pos h2]
            · by_cases h3 : j < lo + k
              · rw [if_pos (by omega), if_neg h2, if_pos h3]
              · rw [if_neg (by omega), if_neg h2, if_neg h3]
          · rw [decide_eq_false h1, Bool.false_and, if_neg (by omega), bit_big hl.2.1 (by omega)])
        dsimp only at r0 r1 f0 f1 y0 y1
        clear hX kr hlt s0 hXb
        go_wp2_with fail
        obtain ⟨e0, e1, hv, hbl⟩ := HX.out.ret HS.out.2.2 (by omega)
        rw [HE.out] at hv
        exact bodyPost_ret (v := .tuple #[.agg #[.int .i64 n, .slice (some ⟨b, 0, none⟩) (wcount n) cap], .int .i64 0]) (by simp [results, Try.results31, go_sem, e0, e1]) rfl ⟨_, rfl, hv.vr (ofB_lt _ _), hbl, Far.vec HX.out.ge⟩
end Go.Proofs.Ytmimafbedbohiaa
