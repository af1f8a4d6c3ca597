import Derived.Test.YtmimafbedbohiaaA12
namespace Go.Proofs.Ytmimafbedbohiaa
set_option linter.unusedVariables false
open Go.RowKit

/-- what down gives: bit j is bit j + s of A, or q -/
def downF (A n s : Nat) (q : Bool) (j : Nat) : Bool := if j < n - s then A.testBit (j + s) else q

set_option maxRecDepth 100000 in
set_option maxHeartbeats 4000000 in
theorem down_any {w : World} {va : Value} {n A : Nat} (hA : VR w va n A) (s : Nat) (hs : s ≤ n) (q : Bool) :
    Calls Try.prog 86 #[va, .int .i64 s, .bool q] w (Fresh w n (ofB (downF A n s q) n)) := by
  have HA := Lib.hid hA
  have hn128 := hA.le
  have hni : (n : Int) ≤ 128 := by omega
  have HN := Lib.hid (And.intro hn128 hs)
  have HBit := Lib.hid (fun w' (hb : Below w.heap.size w w') => bit_any (hA.below hb))
  obtain ⟨pa, ca, rfl, ra⟩ := hA.ex
  have HBl := Lib.hid (fun w => blank_any (w := w) n hn128)
  have hsi : (s : Int) ≤ n := by omega
  clear hA ra hn128 hs
  go_enter Try.func86, Try.ntmps86
  go_wp2_with fail
  have k0 := (Blk.new (w := w) 26 [.int .i64 n, .slice pa (wcount n) ca]).alloc (.cells #[.int .i64 0, .slice none 0 0] 26)
  have k2 := Blk.new (w := (w.alloc (.cells #[.int .i64 n, .slice pa (wcount n) ca] 26))) 26 [.int .i64 0, .slice none 0 0]
  have hb3 : Below w.heap.size w ((w.alloc (.cells #[.int .i64 n, .slice pa (wcount n) ca] 26)).alloc (.cells #[.int .i64 0, .slice none 0 0] 26)) := (Below.new _ _).alloc (by simp) _
  simp only [World.size_alloc] at k2
  generalize (w.alloc (.cells #[.int .i64 n, .slice pa (wcount n) ca] 26)).alloc (.cells #[.int .i64 0, .slice none 0 0] 26) = W at *
  have p1 := k0.cell (i := 0) rfl
  have HK := Lib.hid (And.intro k0 (And.intro k2 hb3))
  clear k0 k2 hb3
  refine (HBl.out _).mono ?_; rintro e w1 ⟨v, b, rfl, hV, hge, hb1⟩
  obtain rfl := hV.e
  have hS := Bld.start (w := w) (bs := [(w.heap.size, [.int .i64 n, .slice pa (wcount n) ca]), (w.heap.size + 1, [.int .i64 0, .slice none 0 0])]) (by
    intro p hp
    simp only [List.mem_cons, List.not_mem_nil, or_false] at hp
    rcases hp with rfl | rfl
    · exact HK.out.1
    · exact HK.out.2.1) HK.out.2.2 hb1 hV hge
  have q1 := (hS.box (p := (w.heap.size, [.int .i64 n, .slice pa (wcount n) ca])) (by simp)).cell (i := 0) rfl
  have hwz : w.heap.size < w1.heap.size := (hS.box (p := (w.heap.size, [.int .i64 n, .slice pa (wcount n) ca])) (by simp)).lt
  dsimp only at q1
  have hS2 := Lib.hid (hS.push [.int .i64 n, .slice (some ⟨b, 0, none⟩) (wcount n) (wcount n)])
  clear hV hb1 hS hge p1
  go_wp2_with fail
  generalize w1.alloc (.cells #[.int .i64 n, .slice (some ⟨b, 0, none⟩) (wcount n) (wcount n)] 26) = w2 at *
  generalize w1.heap.size = L at *
  generalize hbs : [(L, [Value.int IntKind.i64 n, Value.slice (some ⟨b, 0, none⟩) (wcount n) (wcount n)]), (w.heap.size, [Value.int IntKind.i64 n, Value.slice pa (wcount n) ca]), (w.heap.size + 1, [Value.int IntKind.i64 0, Value.slice none 0 0])] = bs at *
  have hL : (L, [Value.int IntKind.i64 n, Value.slice (some ⟨b, 0, none⟩) (wcount n) (wcount n)]) ∈ bs := by rw [← hbs]; simp
  have ha : (w.heap.size, [Value.int IntKind.i64 n, Value.slice pa (wcount n) ca]) ∈ bs := by rw [← hbs]; simp
  have hR : (w.heap.size + 1, [Value.int IntKind.i64 0, Value.slice none 0 0]) ∈ bs := by rw [← hbs]; simp
  have HS := Lib.hid (And.intro hL (And.intro ha hR))
  clear hbs hL ha hR
  go_loopw [14] (fun i wr => ∃ k : Nat, k ≤ n ∧ i = .int .i64 k ∧ Bld w bs n (ofB (downF A n s q) k) b wr) (fun i _ => n - (intOf i).toNat)
  case atStart => exact ⟨0, Nat.zero_le _, rfl, hS2.out⟩
  case round =>
    obtain ⟨k, hk, rfl, hX⟩ := hrel
    have HX := Lib.hid hX
    have s0 := hX.drew.four HS.out.1 HS.out.2.1
    have x0 := (hX.box HS.out.2.1).cell (i := 0) rfl
    dsimp only at x0
    by_cases hlt : k < n
    · have hki : (k : Int) < n := by omega
      have HST := Lib.hid (setB_ofB (downF A n s q) k)
      by_cases hin : k < n - s
      · have hini : (k : Int) < (n : Int) - s := by omega
        have hb := HBit.out wr.drew hX.drew.bel ((k : Int) + (s : Int))
        rw [show bitI A ((k : Int) + (s : Int)) = downF A n s q k by unfold bitI downF; rw [if_pos hin, decide_eq_true (by omega), show ((k : Int) + (s : Int)).toNat = k + s by omega]; rfl] at hb
        have HC := Lib.hid hb
        have hwr : IntKind.i64.wrap ((k : Int) + (s : Int)) = (k : Int) + (s : Int) := IntWalk.i64_in _ (by omega)
        generalize downF A n s q k = r at *
        clear hX hb
        go_wp2_with fail
        go_region_held3 (fun w' => w'.cell? ⟨L, 0, none⟩ = some (.int .i64 n) ∧ w'.cell? ⟨L, 1, none⟩ = some (.slice (some ⟨b, 0, none⟩) (wcount n) (wcount n)) ∧ w'.cell? ⟨w.heap.size, 0, none⟩ = some (.int .i64 n) ∧ w'.cell? ⟨w.heap.size, 1, none⟩ = some (.slice pa (wcount n) ca))
          (first | assumption)
          (first
            | (go_at_call 17; refine HC.out.mono ?_; rintro e w5 ⟨rfl, hb5⟩; have s5 := four_step s0 hb5; have H5 := Lib.hid (HX.out.drew.below hb5); clear hb5)
            | (go_at_call 61; refine (set_any H5.out.vo k r hlt).mono ?_; rintro e w6 ⟨rfl, hv6, hg6⟩; have h6 := H5.out.grown hg6 hv6; have s6 := h6.four HS.out.1 HS.out.2.1; have H6 := Lib.hid h6; clear hv6 hg6 h6))
        go_wp2_with fail
        go_roundw
        case rel => exact ⟨k + 1, by omega, by go_num, by rw [← HST.out]; exact H6.out⟩
        case measure => simp [intOf]; omega
      · have hini : (n : Int) - s ≤ k := by omega
        have hq : downF A n s q k = q := by unfold downF; rw [if_neg hin]
        rw [hq] at HST
        have HSet := Lib.hid (set_any hX.vo k q hlt)
        have y0 := (hX.box HS.out.1).cell (i := 0) rfl
        have y1 := (hX.box HS.out.1).cell (i := 1) rfl
        dsimp only at y0 y1
        clear hX hq s0 hin
        go_wp2_with fail
        refine HSet.out.mono ?_; rintro e w6 ⟨rfl, hv6, hg6⟩
        have H6 := Lib.hid (HX.out.grown hg6 hv6)
        clear hv6 hg6
        go_wp2_with fail
        go_roundw
        case rel => exact ⟨k + 1, by omega, by go_num, by rw [← HST.out]; exact H6.out⟩
        case measure => simp [intOf]; omega
    · obtain rfl : k = n := by omega
      have kr := hX.box HS.out.2.2
      have r0 := kr.cell (i := 0) rfl
      have r1 := kr.cell (i := 1) rfl
      have f0 := kr.frz 0
      have f1 := kr.frz 1
      have y0 := (hX.box HS.out.1).cell (i := 0) rfl
      have y1 := (hX.box HS.out.1).cell (i := 1) rfl
      dsimp only at r0 r1 f0 f1 y0 y1
      clear hX kr hlt s0
      go_wp2_with fail
      obtain ⟨e0, e1, hv, hbl⟩ := HX.out.ret HS.out.2.2 (by omega)
      exact bodyPost_ret (v := vecO k b) (by simp [results, Try.results86, go_sem, e0, e1, vecO]) rfl ⟨_, _, rfl, hv, HX.out.ge, hbl⟩

def b2n (b : Bool) : Nat := if b then 1 else 0
theorem setB_one (b : Bool) : setB 0 0 b = b2n b := by cases b <;> rfl
set_option maxRecDepth 100000 in
set_option maxHeartbeats 4000000 in
theorem truth_any {w : World} (q : Bool) : Calls Try.prog 56 #[.bool q] w (Fresh w 1 (b2n q)) := by
  have HBl := Lib.hid (fun w => blank_any (w := w) 1 (by omega))
  go_enter Try.func56, Try.ntmps56
  go_wp2_with fail
  have k2 := Blk.new (w := w) 26 [.int .i64 0, .slice none 0 0]
  have hb3 := Below.new w (.cells #[.int .i64 0, .slice none 0 0] 26)
  generalize w.alloc (.cells #[.int .i64 0, .slice none 0 0] 26) = W at *
  have HK := Lib.hid (And.intro k2 hb3)
  clear k2 hb3
  refine (HBl.out _).mono ?_; rintro e w1 ⟨v, b, rfl, hV, hge, hb1⟩
  obtain rfl := hV.e
  have hS := Bld.start (w := w) (bs := [(w.heap.size, [.int .i64 0, .slice none 0 0])]) (by
    intro p hp
    simp only [List.mem_cons, List.not_mem_nil, or_false] at hp
    subst hp
    exact HK.out.1) HK.out.2 hb1 hV hge
  have hS2 := hS.push [.int .i64 (1 : Nat), .slice (some ⟨b, 0, none⟩) (wcount 1) (wcount 1)]
  have HS := Lib.hid hS2
  have HSet := Lib.hid (set_any hS2.vo 0 q (by omega))
  clear hV hb1 hS hge hS2
  go_wp2_with fail
  refine HSet.out.mono ?_; rintro e w6 ⟨rfl, hv6, hg6⟩
  rw [setB_one] at hv6
  have h6 := HS.out.grown hg6 hv6
  have H6 := Lib.hid h6
  have y0 := (h6.box (p := (w1.heap.size, [.int .i64 (1 : Nat), .slice (some ⟨b, 0, none⟩) (wcount 1) (wcount 1)])) (by simp)).cell (i := 0) rfl
  have y1 := (h6.box (p := (w1.heap.size, [.int .i64 (1 : Nat), .slice (some ⟨b, 0, none⟩) (wcount 1) (wcount 1)])) (by simp)).cell (i := 1) rfl
  have kr := h6.box (p := (w.heap.size, [.int .i64 0, .slice none 0 0])) (by simp)
  have r0 := kr.cell (i := 0) rfl
  have r1 := kr.cell (i := 1) rfl
  have f0 := kr.frz 0
  have f1 := kr.frz 1
  dsimp only at y0 y1 r0 r1 f0 f1
  clear hv6 hg6 h6 kr
  go_wp2_with fail
  have HH := H6.out.ret (R := w.heap.size) (u := .int .i64 0) (v := .slice none 0 0) (by simp) (Nat.le_refl _)
  rw [show ((1 : Nat) : Int) = 1 from rfl] at HH
  obtain ⟨e0, e1, hv, hbl⟩ := HH
  exact bodyPost_ret (v := vecO 1 b) (by simp [results, Try.results56, go_sem, e0, e1, vecO]) rfl ⟨_, _, rfl, hv, H6.out.ge, hbl⟩
end Go.Proofs.Ytmimafbedbohiaa
