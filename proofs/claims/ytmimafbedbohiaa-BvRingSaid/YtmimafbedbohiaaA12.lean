import Derived.Test.YtmimafbedbohiaaA11
namespace Go.Proofs.Ytmimafbedbohiaa
set_option linter.unusedVariables false
open Go.RowKit

theorem setB_ofB (f : Nat → Bool) (k : Nat) : setB (ofB f k) k (f k) = ofB f (k + 1) := by
  apply eq_bits; intro j
  rw [setB_bit, testBit_ofB, testBit_ofB]
  by_cases e : j = k
  · subst e; simp
  · rw [if_neg e]
    by_cases h : j < k
    · simp [h, Nat.lt_succ_of_lt h]
    · have : ¬ j < k + 1 := by omega
      simp [h, this]
theorem ofB_none (f : Nat → Bool) (k : Nat) (h : ∀ j, j < k → f j = false) : ofB f k = 0 := by
  apply eq_bits; intro j
  rw [testBit_ofB, Nat.zero_testBit]
  by_cases hj : j < k
  · simp [h j hj]
  · simp [hj]
/-- the block L of the variable out, and the block a of a boxed vector -/
theorem four_step {w' w'' : World} {L a : Nat} {x y u v : Value} (h : w'.cell? ⟨L, 0, none⟩ = some x ∧ w'.cell? ⟨L, 1, none⟩ = some y ∧ w'.cell? ⟨a, 0, none⟩ = some u ∧ w'.cell? ⟨a, 1, none⟩ = some v) (hb : Below w'.heap.size w' w'') :
    w''.cell? ⟨L, 0, none⟩ = some x ∧ w''.cell? ⟨L, 1, none⟩ = some y ∧ w''.cell? ⟨a, 0, none⟩ = some u ∧ w''.cell? ⟨a, 1, none⟩ = some v :=
  ⟨(hb.cell (World.block_lt_of_cell? _ _ h.1)).trans h.1, (hb.cell (World.block_lt_of_cell? _ _ h.2.1)).trans h.2.1, (hb.cell (World.block_lt_of_cell? _ _ h.2.2.1)).trans h.2.2.1, (hb.cell (World.block_lt_of_cell? _ _ h.2.2.2)).trans h.2.2.2⟩
theorem Bld.four {w bs n x b wr} (h : Bld w bs n x b wr) {L a : Nat} {p q u v : Value} (hL : (L, [p, q]) ∈ bs) (ha : (a, [u, v]) ∈ bs) :
    wr.cell? ⟨L, 0, none⟩ = some p ∧ wr.cell? ⟨L, 1, none⟩ = some q ∧ wr.cell? ⟨a, 0, none⟩ = some u ∧ wr.cell? ⟨a, 1, none⟩ = some v :=
  ⟨(h.box hL).cell (i := 0) rfl, (h.box hL).cell (i := 1) rfl, (h.box ha).cell (i := 0) rfl, (h.box ha).cell (i := 1) rfl⟩

/-- what up gives: bit j is bit j - s of A -/
def upF (A s : Nat) (j : Nat) : Bool := decide (s ≤ j) && A.testBit (j - s)
theorem bitI_sub (A s k : Nat) (h : s ≤ k) : bitI A ((k : Int) - (s : Int)) = upF A s k := by
  unfold bitI upF
  rw [decide_eq_true (by omega), decide_eq_true h, show ((k : Int) - (s : Int)).toNat = k - s by omega]

set_option maxRecDepth 100000 in
set_option maxHeartbeats 4000000 in
theorem up_any {w : World} {va : Value} {n A : Nat} (hA : VR w va n A) (s : Nat) (hs : s ≤ n) :
    Calls Try.prog 85 #[va, .int .i64 s] w (Fresh w n (ofB (upF A s) n)) := by
  have HA := Lib.hid hA
  have hn128 := hA.le
  have hni : (n : Int) ≤ 128 := by omega
  have HN := Lib.hid (And.intro hn128 hs)
  have HBit := Lib.hid (fun w' (hb : Below w.heap.size w w') => bit_any (hA.below hb))
  obtain ⟨pa, ca, rfl, ra⟩ := hA.ex
  have HBl := Lib.hid (fun w => blank_any (w := w) n hn128)
  have hsi : (s : Int) ≤ n := by omega
  clear hA ra hn128 hs
  go_enter Try.func85, Try.ntmps85
  go_wp2_with fail
  have k0 := (Blk.new (w := w) 26 [.int .i64 n, .slice pa (wcount n) ca]).alloc (.cells #[.int .i64 0, .slice none 0 0] 26)
  have k2 := Blk.new (w := (w.alloc (.cells #[.int .i64 n, .slice pa (wcount n) ca] 26))) 26 [.int .i64 0, .slice none 0 0]
  have hb3 : Below w.heap.size w ((w.alloc (.cells #[.int .i64 n, .slice pa (wcount n) ca] 26)).alloc (.cells #[.int .i64 0, .slice none 0 0] 26)) := (Below.new _ _).alloc (by simp) _
  simp only [World.size_alloc] at k2
  generalize (w.alloc (.cells #[.int .i64 n, .slice pa (wcount n) ca] 26)).alloc (.cells #[.int .i64 0, .slice none 0 0] 26) = W at *
  have p1 := k0.cell (i := 0) rfl
  have HK := Lib.hid (And.intro k0 (And.intro k2 hb3))
  clear k0 k2 hb3
  refine (HBl.out _).mono ?_; rintro e w1 ⟨v, b, rfl, hV, hge, hb1⟩
  obtain rfl := hV.e
  have hS := Bld.start (w := w) (bs := [(w.heap.size, [.int .i64 n, .slice pa (wcount n) ca]), (w.heap.size + 1, [.int .i64 0, .slice none 0 0])]) (by
    intro p hp
    simp only [List.mem_cons, List.not_mem_nil, or_false] at hp
    rcases hp with rfl | rfl
    · exact HK.out.1
    · exact HK.out.2.1) HK.out.2.2 hb1 hV hge
  have hS2 := Lib.hid (hS.push [.int .i64 n, .slice (some ⟨b, 0, none⟩) (wcount n) (wcount n)])
  clear hV hb1 hS hge p1
  go_wp2_with fail
  generalize w1.alloc (.cells #[.int .i64 n, .slice (some ⟨b, 0, none⟩) (wcount n) (wcount n)] 26) = w2 at *
  generalize w1.heap.size = L at *
  generalize hbs : [(L, [Value.int IntKind.i64 n, Value.slice (some ⟨b, 0, none⟩) (wcount n) (wcount n)]), (w.heap.size, [Value.int IntKind.i64 n, Value.slice pa (wcount n) ca]), (w.heap.size + 1, [Value.int IntKind.i64 0, Value.slice none 0 0])] = bs at *
  have hL : (L, [Value.int IntKind.i64 n, Value.slice (some ⟨b, 0, none⟩) (wcount n) (wcount n)]) ∈ bs := by rw [← hbs]; simp
  have ha : (w.heap.size, [Value.int IntKind.i64 n, Value.slice pa (wcount n) ca]) ∈ bs := by rw [← hbs]; simp
  have hR : (w.heap.size + 1, [Value.int IntKind.i64 0, Value.slice none 0 0]) ∈ bs := by rw [← hbs]; simp
  have HS := Lib.hid (And.intro hL (And.intro ha hR))
  clear hbs hL ha hR
  go_loopw [6] (fun i wr => ∃ k : Nat, s ≤ k ∧ k ≤ n ∧ i = .int .i64 k ∧ Bld w bs n (ofB (upF A s) k) b wr) (fun i _ => n - (intOf i).toNat)
  case atStart =>
    refine ⟨s, Nat.le_refl _, HN.out.2, rfl, ?_⟩
    rw [ofB_none _ _ fun j hj => by unfold upF; rw [decide_eq_false (by omega)]; rfl]
    exact hS2.out
  case round =>
    obtain ⟨k, hsk, hk, rfl, hX⟩ := hrel
    have HX := Lib.hid hX
    have s0 := hX.drew.four HS.out.1 HS.out.2.1
    have x0 := (hX.box HS.out.2.1).cell (i := 0) rfl
    dsimp only at x0
    have hski : (s : Int) ≤ k := by omega
    by_cases hlt : k < n
    · have hki : (k : Int) < n := by omega
      have HST := Lib.hid (setB_ofB (upF A s) k)
      have hb := HBit.out wr.drew hX.drew.bel ((k : Int) - (s : Int))
      rw [bitI_sub A s k hsk] at hb
      have HC := Lib.hid hb
      have hwr : IntKind.i64.wrap ((k : Int) - (s : Int)) = (k : Int) - (s : Int) := IntWalk.i64_in _ (by omega)
      generalize upF A s k = r at *
      clear hX hb
      go_wp2_with fail
      go_region_held3 (fun w' => w'.cell? ⟨L, 0, none⟩ = some (.int .i64 n) ∧ w'.cell? ⟨L, 1, none⟩ = some (.slice (some ⟨b, 0, none⟩) (wcount n) (wcount n)) ∧ w'.cell? ⟨w.heap.size, 0, none⟩ = some (.int .i64 n) ∧ w'.cell? ⟨w.heap.size, 1, none⟩ = some (.slice pa (wcount n) ca))
        (first | assumption)
        (first
          | (go_at_call 17; refine HC.out.mono ?_; rintro e w5 ⟨rfl, hb5⟩; have s5 := four_step s0 hb5; have H5 := Lib.hid (HX.out.drew.below hb5); clear hb5)
          | (go_at_call 61; refine (set_any H5.out.vo k r hlt).mono ?_; rintro e w6 ⟨rfl, hv6, hg6⟩; have h6 := H5.out.grown hg6 hv6; have s6 := h6.four HS.out.1 HS.out.2.1; have H6 := Lib.hid h6; clear hv6 hg6 h6))
      go_wp2_with fail
      go_roundw
      case rel => exact ⟨k + 1, by omega, by omega, by go_num, by rw [← HST.out]; exact H6.out⟩
      case measure => simp [intOf]; omega
    · obtain rfl : k = n := by omega
      have kr := hX.box HS.out.2.2
      have r0 := kr.cell (i := 0) rfl
      have r1 := kr.cell (i := 1) rfl
      have f0 := kr.frz 0
      have f1 := kr.frz 1
      have y0 := (hX.box HS.out.1).cell (i := 0) rfl
      have y1 := (hX.box HS.out.1).cell (i := 1) rfl
      dsimp only at r0 r1 f0 f1 y0 y1
      clear hX kr hlt s0
      go_wp2_with fail
      obtain ⟨e0, e1, hv, hbl⟩ := HX.out.ret HS.out.2.2 (by omega)
      exact bodyPost_ret (v := vecO k b) (by simp [results, Try.results85, go_sem, e0, e1, vecO]) rfl ⟨_, _, rfl, hv, HX.out.ge, hbl⟩
end Go.Proofs.Ytmimafbedbohiaa
