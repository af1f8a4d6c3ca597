import Derived.Test.YtcifiibpiooeiaaA9
namespace Go.Proofs.Ytcifiibpiooeiaa
set_option linter.unusedVariables false
open Go.RowKit

theorem RC.fresh {F F' : Nat → Prop} {w w' : World} {s : Option Addr × Nat × Nat} {l : List Int} (h : RC F w s l) (hb : Below w.heap.size w w') (hF : ∀ k, F' k → w.heap.size ≤ k) : RC F' w' s l := by
  refine ⟨h.1, fun j u hj => ?_⟩
  obtain ⟨b, o, e, hn, hc⟩ := h.2 j u hj
  have hlt : b < w.heap.size := World.block_lt_of_cell? _ _ hc
  exact ⟨b, o, e, fun h' => by have := hF b h'; omega, by rw [← hc]; exact hb.cell (p := ⟨b, o + j, none⟩) hlt⟩
/-- what Clone does -/
def CloneR (A : Nat → Prop) (w : World) (v : Nat) (cls : List (List Int)) (e : Ending) (w' : World) : Prop :=
  ∃ bd F', e = .returned (.pointer (some ⟨bd, 0, none⟩)) ∧ HasC A w' bd F' v cls ∧ (∀ k, F' k → w.heap.size ≤ k) ∧ Below w.heap.size w w'
theorem clone_end {A : Nat → Prop} {w w1 : World} {bc : Nat} {sv : Value} {sls v cls} (h : CAt w bc sv sls v cls) {v1 : Value} (hr : w1.ownsRow w.heap.size 23 1 v1 cls.length (slvs sls)) (hb : Below w.heap.size w w1) (ha : ∀ i, i < cls.length → RC A w (sls.getD i default) (cls.getD i [])) :
    CloneR A w v cls (.returned (.pointer (some ⟨w1.heap.size, 0, none⟩))) (w1.alloc (.cells #[.int .i64 v, v1] 59)) := by
  have hlt : ∀ k, v1.ownBlock = some k → w.heap.size ≤ k ∧ k < w1.heap.size := by
    intro k hk
    rcases hr.2 with ⟨rfl, _⟩ | ⟨g, cap, cur, rfl, h1, h2, _⟩
    · cases hk
    · cases hk; exact ⟨h1, (Array.getElem?_eq_some_iff.1 h2).1⟩
  have hF : ∀ k, foot w1.heap.size v1 k → w.heap.size ≤ k := by
    rintro k (rfl | hk)
    · exact hb.size
    · exact (hlt k hk).1
  have hbw : Below w.heap.size w (w1.alloc (.cells #[.int .i64 v, v1] 59)) := hb.alloc hb.size _
  have hr0 : w1.ownsRow 0 23 1 v1 cls.length (slvs sls) := by
    refine ⟨hr.1, ?_⟩
    rcases hr.2 with h0 | ⟨g, cap, cur, e, _, h2⟩
    · exact .inl h0
    · exact .inr ⟨g, cap, cur, e, Nat.zero_le _, h2⟩
  refine ⟨w1.heap.size, foot w1.heap.size v1, rfl, ⟨v1, sls, ⟨Blk.new _ [.int .i64 v, v1], hr0.alloc _, fun e => ?_, h.len, fun i hi => (h.rd i hi).fresh hbw hF⟩, rfl, fun i hi => (ha i hi).below hbw⟩, hF, hbw⟩
  have := (hlt _ e).2; omega

set_option maxHeartbeats 4000000 in
theorem cclone_any {A : Nat → Prop} {w : World} {bc : Nat} {F v cls} (h : HasC A w bc F v cls) (hw : WFC v cls) :
    Calls Try.prog 10 #[.pointer (some ⟨bc, 0, none⟩)] w (CloneR A w v cls) := by
  obtain ⟨sv, sls, h, _, hAv⟩ := h
  have HAv := Lib.hid hAv
  clear hAv
  obtain ⟨p, c, rfl⟩ := ownsRow_form h.own
  have c0 := h.c0
  have c1 := h.c1
  have hlt := h.lt bc (.inl rfl)
  have HCl : Hid (∀ w', Below w.heap.size w w' → Calls Try.prog 28 #[.slice p cls.length c] w' fun e w'' => ∃ v', e = .returned v' ∧ w''.ownsRow w'.heap.size 23 1 v' cls.length (slvs sls) ∧ Below w'.heap.size w' w'') := Lib.hid fun w' hb => clone_lists ((RO.own h.own).below hb) (slvs_one _) (by have := hw.n; omega)
  have H := Lib.hid h
  obtain ⟨N, hN⟩ : ∃ N, cls.length = N := ⟨_, rfl⟩
  have HN := Lib.hid hN
  rw [hN] at c1 HCl H
  clear h hw hN
  go_enter Try.func10, Try.ntmps10
  go_wp2_with fail
  go_region_with (go_at_call 28; refine (HCl.out _ (below_drewN 1)).mono ?_; rintro e w1 ⟨v1, rfl, hr, hb1⟩; obtain ⟨p1, c1', rfl⟩ := ownsRow_form hr; have c0' := (hb1.cell (p := ⟨bc, 0, none⟩) hlt).trans c0; have HX := Lib.hid (And.intro hr hb1); clear hr hb1)
  all_goals
    go_wp2_with fail
    go_ret
    have hr := HX.out.1
    have hC := H.out
    rw [← HN.out] at hr hC
    have hend := clone_end hC hr ((below_drewN 1).trans HX.out.2) HAv.out
    rw [HN.out] at hend
    exact hend

/-! ## a variable more -/
def VarR (A : Nat → Prop) (w : World) (bc : Nat) (F : Nat → Prop) (v : Nat) (cls : List (List Int)) (e : Ending) (w' : World) : Prop :=
  (v = 60000 → e = .returned (.tuple #[.int .i64 0, .int .i64 19]) ∧ w' = w) ∧ (v < 60000 → e = .returned (.tuple #[.int .i64 ((v + 1 : Nat) : Int), .int .i64 0]) ∧ HasC A w' bc F (v + 1) cls ∧ Upd F F w w')
theorem upd_set {F : Nat → Prop} {w : World} {b i : Nat} (x : Value) (hF : F b) : Upd F F w (w.setCell ⟨b, i, none⟩ x) := by
  refine ⟨rfl, rfl, rfl, by simp, fun k hk hn => Below.heap_setCell _ _ _ _ (fun e => hn (by rw [e]; exact hF)), fun k h => .inl h⟩
theorem rc_set {A : Nat → Prop} {w : World} {bc : Nat} {sv x : Value} {s : Option Addr × Nat × Nat} {l : List Int} (h : RC A w s l) (h2 : RC (foot bc sv) w s l) : RC A (w.setCell ⟨bc, 0, none⟩ x) s l := by
  refine ⟨h.1, fun j u hj => ?_⟩
  obtain ⟨b, o, e, hn, hc⟩ := h.2 j u hj
  obtain ⟨b', o', e', hn', hc'⟩ := h2.2 j u hj
  rw [e] at e'; cases e'
  exact ⟨b, o, e, hn, by rw [← hc]; exact World.cell?_of_block (Below.heap_setCell _ _ _ _ (fun e => hn' (.inl e)))⟩
theorem CAt.setv {w : World} {bc : Nat} {sv : Value} {sls v cls} (h : CAt w bc sv sls v cls) (v' : Nat) : CAt (w.setCell ⟨bc, 0, none⟩ (.int .i64 v')) bc sv sls v' cls := by
  have hu : Upd (foot bc sv) (foot bc sv) w (w.setCell ⟨bc, 0, none⟩ (.int .i64 v')) := upd_set _ (.inl rfl)
  refine ⟨h.blk.set 0 _, ownsRow_keep h.own fun k hk => Below.heap_setCell _ _ _ _ (fun e => h.ne (by rw [hk, e])), h.ne, h.len, fun i hi => (h.rd i hi).upd hu⟩

/-! ## the laws' and the reference's small functions -/
set_option maxHeartbeats 1000000 in
theorem abs_any (x : Int) (h : x.natAbs ≤ 1000000000000) (w : World) : Calls Try.prog 48 #[.int .i64 x] w fun e w' => e = .returned (.int .i64 (x.natAbs : Int)) ∧ w = w' := by
  go_enter Try.func48, Try.ntmps48
  by_cases hn : x < 0
  · have hw : IntKind.i64.wrap (-x) = -x := i64_of (by omega)
    have he : ((x.natAbs : Nat) : Int) = -x := by omega
    rw [he]
    clear h he
    go_wp2_with fail
    go_ret
    exact ⟨rfl, rfl⟩
  · have hn' : (0 : Int) ≤ x := by omega
    have he : ((x.natAbs : Nat) : Int) = x := by omega
    rw [he]
    clear h he hn
    go_wp2_with fail
    go_ret
    exact ⟨rfl, rfl⟩
set_option maxHeartbeats 2000000 in
/-- the laws' ints: the same numbers? -/
theorem ints_same {w : World} {va vb : Value} {a b : List Int} (ha : RO w va 1 a.length (ints a)) (hb : RO w vb 1 b.length (ints b)) (hl : a.length ≤ 1000000000000) (hl2 : b.length ≤ 1000000000000) :
    Calls Try.prog 47 #[va, vb] w fun e w' => e = .returned (.bool (decide (a = b))) ∧ Below w.heap.size w w' := by
  obtain ⟨pa, ca, rfl⟩ := ha.form
  obtain ⟨pb, cb, rfl⟩ := hb.form
  obtain ⟨n, hn⟩ : ∃ n, a.length = n := ⟨_, rfl⟩
  obtain ⟨m, hm⟩ : ∃ m, b.length = m := ⟨_, rfl⟩
  have HL := Lib.hid (And.intro hn hm)
  rw [hn] at ha hl
  rw [hm] at hb hl2
  have H := Lib.hid (And.intro ha hb)
  rw [hn, hm]
  have hni : (n : Int) ≤ 1000000000000 := by omega
  have hmi : (m : Int) ≤ 1000000000000 := by omega
  clear ha hb hl hl2 hn hm
  by_cases he : n = m
  · subst he
    go_enter Try.func47, Try.ntmps47
    go_wp2_with fail
    go_loopw [13] (fun i wr => ∃ k : Nat, k ≤ n ∧ i = .int .i64 k ∧ (∀ j, j < k → a.getD j 0 = b.getD j 0) ∧ Below w.heap.size w wr) (fun i _ => n - (intOf i).toNat)
    case atStart => exact ⟨0, Nat.zero_le _, rfl, fun j hj => absurd hj (Nat.not_lt_zero _), Below.refl _ _⟩
    case round =>
      obtain ⟨k, hk, rfl, hz, hbel⟩ := hrel
      have HZ := Lib.hid hz
      have HBel := Lib.hid hbel
      by_cases hlt : k < n
      · have hki : (k : Int) < n := by omega
        have hat := ints_at a k (by rw [HL.out.1]; exact hlt)
        have hbt := ints_at b k (by rw [HL.out.2]; exact hlt)
        obtain ⟨bl, ol, rfl⟩ := (H.out.1.below hbel).sl hat
        have f0 := (H.out.1.below hbel).cell hat
        obtain ⟨bl2, ol2, rfl⟩ := (H.out.2.below hbel).sl hbt
        have g0 := (H.out.2.below hbel).cell hbt
        obtain ⟨x, hx⟩ : ∃ p, a.getD k 0 = p := ⟨_, rfl⟩
        obtain ⟨y, hy⟩ : ∃ q, b.getD k 0 = q := ⟨_, rfl⟩
        have HXY := Lib.hid (And.intro hx (And.intro hy hlt))
        rw [hx] at f0
        rw [hy] at g0
        have hkw : IntKind.i64.wrap ((k : Int) + 1) = (k : Int) + 1 := i64_of (by omega)
        clear hz hat hbt hx hy hlt hbel
        by_cases e : x = y
        · have hd : (x != y) = false := by simp [e]
          have HE := Lib.hid e
          clear e
          go_wp2_with fail
          go_quiet (fail)
          go_wp2_with fail
          go_roundw
          case rel => exact ⟨k + 1, HXY.out.2.2, by go_num, fun j hj => by
            by_cases e : j = k
            · subst e; rw [HXY.out.1, HXY.out.2.1]; exact HE.out
            · exact HZ.out j (by omega), HBel.out.trans (below_drewN _)⟩
          case measure => simp [intOf]; omega
        · have hd : (x != y) = true := by simp [e]
          have HE := Lib.hid e
          clear e
          go_wp2_with fail
          go_quiet (fail)
          go_wp2_with fail
          go_ret
          rw [show decide (a = b) = false from decide_eq_false fun h => HE.out (by rw [← HXY.out.1, ← HXY.out.2.1, h])]
          exact ⟨rfl, HBel.out.trans (below_drewN _)⟩
      · obtain rfl : k = n := by omega
        clear hz hlt hbel
        go_wp2_with fail
        go_ret
        rw [show decide (a = b) = true from decide_eq_true (List.ext_getElem? fun j => ?_)]
        · exact ⟨rfl, HBel.out⟩
        · by_cases hj : j < k
          · have := HZ.out j hj
            rw [List.getD, List.getD, List.getElem?_eq_getElem (by rw [HL.out.1]; exact hj), List.getElem?_eq_getElem (by rw [HL.out.2]; exact hj)] at this
            rw [List.getElem?_eq_getElem (by rw [HL.out.1]; exact hj), List.getElem?_eq_getElem (by rw [HL.out.2]; exact hj)]
            simpa using this
          · rw [List.getElem?_eq_none (by rw [HL.out.1]; omega), List.getElem?_eq_none (by rw [HL.out.2]; omega)]
  · have hd : ((n : Int) != m) = true := by simp; omega
    have e : decide (a = b) = false := decide_eq_false fun e => he (by rw [← HL.out.1, ← HL.out.2, e])
    rw [e]
    clear he e
    go_enter Try.func47, Try.ntmps47
    go_wp2_with fail
    go_ret
    exact ⟨rfl, Below.refl _ _⟩
end Go.Proofs.Ytcifiibpiooeiaa
