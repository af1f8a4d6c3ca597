import Derived.Test.YtcifiibpiooeiaaA4
namespace Go.Proofs.Ytcifiibpiooeiaa
set_option linter.unusedVariables false
open Go.RowKit Go.Shelf Go.Lib Go.Sort

/-- a list of numbers that is read, and lies in memory that is new since w -/
def New (w : World) (w' : World) (v : Value) (l : List Int) : Prop := RO w' v 1 l.length (ints l) ∧ ∀ p n c, v = .slice p n c → ∀ b o, l ≠ [] → p = some ⟨b, o, none⟩ → w.heap.size ≤ b

/-- what plain hands back -/
def PlainR (w : World) (l : List Int) (e : Ending) (w' : World) : Prop :=
  (taut l = true → e = .returned (.tuple #[.slice none 0 0, .bool true])) ∧ (taut l = false → ∃ v, e = .returned (.tuple #[v, .bool false]) ∧ New w w' v (norm l)) ∧ Below w.heap.size w w'

/-- Compact at a sorted list of the call's own -/
theorem compact_any {w : World} {g cap : Nat} {l' l : List Int} (hH : Holds (Value.int .i64) w g 0 l'.toArray) (hg : g < w.heap.size) (ha : Asc l') (hm : ∀ z, z ∈ l' ↔ z ∈ l) (hn : l'.length ≤ 1000000000000) (hcap : l'.length ≤ cap) :
    Calls Try.prog 64 #[.slice (some ⟨g, 0, none⟩) l'.length cap] w fun e w' => e = .returned (.slice (some ⟨g, 0, none⟩) (norm l).length cap) ∧ RO w' (.slice (some ⟨g, 0, none⟩) (norm l).length cap) 1 (norm l).length (ints (norm l)) ∧ w.grownBy w' (some g) := by
  refine (Try.slices_Compact_int g 0 cap l' w hH (by omega) hcap).mono ?_
  rintro e w' ⟨he, q, rfl⟩
  rw [compact_norm ha hm] at he ⊢
  have hle : (norm l).length ≤ l'.length := by rw [← compact_norm ha hm]; exact compact_length_le l'
  obtain ⟨N, hN⟩ : ∃ N, norm l = N := ⟨_, rfl⟩
  rw [hN] at he hle ⊢
  refine ⟨he, ⟨by simp [ints], _, _, rfl, fun j u hj => ⟨g, 0, rfl, ?_⟩⟩, ?_⟩
  · have hj' : j < N.length := by
      rcases Nat.lt_or_ge j N.length with h | h
      · exact h
      · rw [List.getElem?_eq_none (by simpa [ints] using h)] at hj; cases hj
    have h1 : Holds (Value.int .i64) (Sort.ahead w q) g 0 l'.toArray := fun i hi => hH i hi
    have := (holds_putRow (Value.int .i64) (Sort.ahead w q) g 0 l'.toArray (N ++ List.replicate (l'.length - N.length) 0).toArray h1 (by simp; omega) j (by simp; omega)).1
    rw [this]
    rw [ints_getElem?, List.getElem?_eq_getElem hj'] at hj
    simp only [Option.map_some, Option.some.injEq] at hj
    rw [← hj, getElem!_pos _ j (by simp; omega)]
    simp [List.getElem_append_left hj']
  · have := grownBy_sortedI (w := w) (g := g) (n := q) (os := #[]) (N ++ List.replicate (l'.length - N.length) 0).toArray
    rwa [grow_empty] at this

theorem norm_nil : norm [] = [] := rfl
theorem norm_ne {l : List Int} (h : l ≠ []) : norm l ≠ [] := by
  intro e
  cases l with
  | nil => exact h rfl
  | cons x l => have := (norm_mem (x :: l) x).2 (by simp); rw [e] at this; cases this

set_option maxHeartbeats 4000000 in
theorem plain_any {w : World} {v : Value} {l : List Int} (hv : RO w v 1 l.length (ints l)) (hn : l.length ≤ 1000000000000) (hb : ∀ x ∈ l, x ≠ 0 ∧ x.natAbs ≤ 1000000000) :
    Calls Try.prog 32 #[v] w (PlainR w l) := by
  have HC := Lib.hid (clone_ints hv (ints_one l) hn)
  obtain ⟨p, c, rfl⟩ := hv.form
  by_cases h0 : l = []
  · subst h0
    clear hv hn hb
    go_enter Try.func32, Try.ntmps32
    go_wp2_with fail
    refine HC.out.mono ?_; rintro e w1 ⟨v1, rfl, hr, hb1⟩
    obtain ⟨p1, c1, rfl⟩ := ownsRow_form hr
    have HB := Lib.hid hb1
    have hs := sort_none p1 c1 (.func (.func 62) #[] #[]) w1
    have hk := Try.slices_Compact_int_empty p1 c1 w1
    clear hr hb1
    go_wp2_with fail
    refine hs.mono ?_; rintro e w2 ⟨rfl, rfl⟩
    go_wp2_with fail
    refine hk.mono ?_; rintro e w2 ⟨rfl, rfl⟩
    go_wp2_with fail
    refine wp_loop_rounds 1 ?_
    rw [rounds_succ]
    go_wp2_with fail
    go_ret2
    exact ⟨fun h => by simp [taut] at h, fun _ => ⟨_, rfl, ⟨rfl, _, _, rfl, fun j u hj => by simp [norm_nil, ints] at hj⟩, fun p n c e b o h => absurd norm_nil h⟩, HB.out⟩
  · have HL := Lib.hid (And.intro hn (And.intro hb h0))
    have hln : (l.length : Int) ≤ 1000000000000 := by omega
    clear hv hn hb h0
    go_enter Try.func32, Try.ntmps32
    go_wp2_with fail
    refine HC.out.mono ?_; rintro e w1 ⟨v1, rfl, hr, hb1⟩
    obtain ⟨g, cap, rfl⟩ : ∃ g cap, v1 = .slice (some ⟨g, 0, none⟩) l.length cap := by
      rcases hr.2 with ⟨_, e⟩ | ⟨g, cap, cur, e, _⟩
      · exact absurd (List.length_eq_zero_iff.1 e) HL.out.2.2
      · exact ⟨g, cap, e⟩
    obtain ⟨hH, hge, hlt, _, hcap⟩ := holds_own hr
    have HS := Lib.hid (sort_any hH hlt (fun x hx => (HL.out.2.1 x hx).2) HL.out.1 (cap := cap))
    have H1 := Lib.hid (And.intro hb1 (And.intro hge hcap))
    clear hr hb1 hH hge hlt hcap HC
    go_wp2_with fail
    refine HS.out.mono ?_; rintro e w2 ⟨rfl, l', hl', ha, hm, hH2, hg2, hgr⟩
    have hb2 := below_grown H1.out.1 hgr H1.out.1.size H1.out.2.1
    have HK := compact_any hH2 hg2 ha hm (by rw [hl']; exact HL.out.1) (by rw [hl']; exact H1.out.2.2)
    rw [hl'] at HK
    replace HK := Lib.hid HK
    have H2 := Lib.hid hb2
    clear hl' ha hm hH2 hg2 hgr hb2
    go_wp2_with fail
    refine HK.out.mono ?_; rintro e w3 ⟨rfl, hr3, hgr⟩
    have hb3 := below_grown H2.out hgr H2.out.size H1.out.2.1
    obtain ⟨N, hN⟩ : ∃ N, norm l = N := ⟨_, rfl⟩
    obtain ⟨M, hK⟩ : ∃ M, N.length = M := ⟨_, rfl⟩
    rw [hN] at hr3 ⊢
    rw [hK] at hr3 ⊢
    have hN0 : N ≠ [] := by rw [← hN]; exact norm_ne HL.out.2.2
    have hM1 : 1 ≤ M := by rw [← hK]; exact Nat.pos_of_ne_zero fun e => hN0 (List.length_eq_zero_iff.1 e)
    have hMl : (M : Int) ≤ 1000000000000 := by have := norm_len l; have := HL.out.1; rw [hN, hK] at *; omega
    have hss : SS N := by rw [← hN]; exact norm_ss l
    have hz : ∀ x ∈ N, x ≠ 0 ∧ x.natAbs ≤ 1000000000 := fun x hx => HL.out.2.1 x ((norm_mem l x).1 (by rw [hN]; exact hx))
    have ht : taut l = taut N := by rw [← hN, taut_norm]
    have hside := taut_side hss (fun x hx => (hz x hx).1)
    have H3 := Lib.hid (And.intro hr3 (And.intro hb3 (And.intro hz (And.intro ht (And.intro hside (And.intro hK (And.intro hN0 hN)))))))
    clear hr3 hgr hb3 hN hK hN0 hss hz ht hside
    go_wp2_with fail
    go_loopw [5] (fun i wr => ∃ k : Nat, 1 ≤ k ∧ k ≤ M ∧ i = .int .i64 k ∧ (∀ j, j + 1 < k → N.getD (j + 1) 0 ≠ -(N.getD j 0)) ∧ Below w3.heap.size w3 wr) (fun i _ => M - (intOf i).toNat)
    case atStart => exact ⟨1, by omega, hM1, rfl, fun j hj => by omega, Below.refl _ _⟩
    case round =>
      obtain ⟨k, hk1, hk, rfl, hno, hbel⟩ := hrel
      by_cases hlt : k < M
      · obtain ⟨j, hj⟩ : ∃ j, k = j + 1 := ⟨k - 1, by omega⟩
        have c1 := (H3.out.1.below hbel).cell (ints_at N k (by rw [H3.out.2.2.2.2.2.1]; exact hlt))
        have c0 := (H3.out.1.below hbel).cell (ints_at N j (by rw [H3.out.2.2.2.2.2.1]; omega))
        simp only [Nat.zero_add] at c1 c0
        obtain ⟨x, hx⟩ : ∃ x, N.getD k 0 = x := ⟨_, rfl⟩
        obtain ⟨y, hy⟩ : ∃ y, N.getD j 0 = y := ⟨_, rfl⟩
        have hyb : IntKind.i64.wrap (-y) = -y := i64_of (by
          have := (H3.out.2.2.1 y (by rw [← hy]; simp [List.getD, List.getElem?_eq_getElem (show j < N.length by rw [H3.out.2.2.2.2.2.1]; omega)])).2
          omega)
        have hxy := Lib.hid (And.intro hx (And.intro hy (And.intro hno (And.intro hbel (And.intro hlt (And.intro hj hk1))))))
        rw [hx] at c1
        rw [hy] at c0
        have hki : (k : Int) < M := by omega
        have hji : (j : Int) < M := by omega
        have hjw : IntKind.i64.wrap ((k : Int) - 1) = (j : Int) := by rw [show (k : Int) - 1 = j by omega]; exact i64_of (by omega)
        have hkw : IntKind.i64.wrap ((k : Int) + 1) = (k : Int) + 1 := i64_of (by omega)
        clear hx hy hno hbel hk1 hk hlt hj
        by_cases he : x = -y
        · have hd : (x == -y) = true := by simp [he]
          have HE := Lib.hid he
          clear he
          go_wp2_with fail
          go_quiet (fail)
          go_wp2_with fail
          go_ret2
          have htt : taut l = true := by
            rw [H3.out.2.2.2.1]
            refine H3.out.2.2.2.2.1.2 ⟨j, by rw [H3.out.2.2.2.2.2.1]; have := hxy.out; omega, ?_⟩
            obtain ⟨e1, e2, _, _, _, e3, _⟩ := hxy.out
            rw [← e3, e1, e2, HE.out]
          exact ⟨fun _ => rfl, fun h => (by rw [htt] at h; cases h), (H3.out.2.1.trans ((hxy.out.2.2.2.1.mono H3.out.2.1.size))).trans (below_drewN _)⟩
        · have hd : (x == -y) = false := by simp [he]
          have HE := Lib.hid he
          clear he
          go_wp2_with fail
          go_quiet (fail)
          go_wp2_with fail
          go_roundw
          case rel =>
            refine ⟨k + 1, by omega, hxy.out.2.2.2.2.1, by go_num, fun i hi => ?_, hxy.out.2.2.2.1.trans (below_drewN _)⟩
            obtain ⟨e1, e2, e4, _, _, e3, _⟩ := hxy.out
            by_cases e : i = j
            · subst e; rw [← e3, e1, e2]; exact HE.out
            · exact e4 i (by omega)
          case measure => simp [intOf]; omega
      · obtain rfl : k = M := by omega
        have HQ := Lib.hid (And.intro hno hbel)
        clear hno hbel hlt hk hk1
        go_wp2_with fail
        go_ret2
        have htt : taut l = false := by
          rw [H3.out.2.2.2.1]
          cases ht : taut N with
          | false => rfl
          | true =>
            obtain ⟨i, hi, e⟩ := H3.out.2.2.2.2.1.1 ht
            exact absurd e (HQ.out.1 i (by rw [H3.out.2.2.2.2.2.1] at hi; omega))
        have hb := H3.out.2.1.trans (HQ.out.2.mono H3.out.2.1.size)
        refine ⟨fun h => (by rw [htt] at h; cases h), fun _ => ⟨_, rfl, ?_, fun p n c e b o _ e' => ?_⟩, hb⟩
        · rw [H3.out.2.2.2.2.2.2.2, H3.out.2.2.2.2.2.1]; exact H3.out.1.below HQ.out.2
        · cases e; cases e'; exact H1.out.2.1
end Go.Proofs.Ytcifiibpiooeiaa
