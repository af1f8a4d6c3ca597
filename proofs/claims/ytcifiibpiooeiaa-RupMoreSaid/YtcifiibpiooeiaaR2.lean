import Derived.Test.YtcifiibpiooeiaaR1
import Derived.Test.YtcifiibpiooeiaaRP1
namespace Go.Proofs.Ytcifiibpiooeiaa
set_option linter.unusedVariables false
open Go.RowKit Go.Sort

theorem rslot_any (x : Int) (h : x.natAbs ≤ 1000000) (w : World) : Calls Try.prog 80 #[.int .i64 x] w fun e w' => e = .returned (.int .i64 (slotN x)) ∧ w = w' := by
  by_cases h0 : x < 0
  · have e : ((slotN x : Nat) : Int) = -2 * x + 1 := by unfold slotN; rw [if_pos h0]; omega
    have h1 : IntKind.i64.wrap (-2 * x) = -2 * x := i64_of (by omega)
    have h2 : IntKind.i64.wrap (-2 * x + 1) = -2 * x + 1 := i64_of (by omega)
    rw [e]
    clear e h
    go_enter Try.func80, Try.ntmps80
    go_wp2_with fail
    go_ret
    exact ⟨rfl, rfl⟩
  · have e : ((slotN x : Nat) : Int) = 2 * x := by unfold slotN; rw [if_neg h0]; omega
    have h1 : IntKind.i64.wrap (2 * x) = 2 * x := i64_of (by omega)
    have h0' : 0 ≤ x := by omega
    rw [e]
    clear e h h0
    go_enter Try.func80, Try.ntmps80
    go_wp2_with fail
    go_ret
    exact ⟨rfl, rfl⟩

theorem Ck.cell {base b : Nat} {w : World} {S : St} {V : Key → Value} (h : Ck base b w S V) {i : Nat} {u : Value} (hu : (ckCells S V)[i]? = some u) : w.cell? ⟨b, i, none⟩ = some u := h.blk.cell hu
/-- a value in memory -/
theorem Ck.va {base b : Nat} {w : World} {S : St} {V : Key → Value} (h : Ck base b w S V) {i : Nat} (hi : i < S.val.length) : ∃ g c, V .va = .slice (some ⟨g, 0, none⟩) S.val.length c ∧ w.cell? ⟨g, i, none⟩ = some (.int .i64 (S.val.getD i 0)) ∧ w.frozen? ⟨g, i, none⟩ = false ∧ base ≤ g ∧ g ≠ b := by
  obtain ⟨g, c, e, hc, hf, hb, hn⟩ := h.mem.at .va (i := i) (u := .int .i64 (S.val.getD i 0)) (ints_at _ _ hi)
  refine ⟨g, c, ?_, hc, hf, hb, hn⟩
  have : (Rof S V .va).2.length = S.val.length := ints_len _
  rw [this] at e
  exact e

theorem rval_any {base b : Nat} {w : World} {S : St} {V : Key → Value} (h : Ck base b w S V) {x : Int} {tr : List Int} (hV0 : Vals S.v S.val tr) (hx0 : x ≠ 0) (hx : x.natAbs ≤ S.v) (hv : S.v ≤ 1000000) :
    Calls Try.prog 81 #[.pointer (some ⟨b, 0, none⟩), .int .i64 x] w fun e w' => e = .returned (.int .i64 (litV S.val x)) ∧ w = w' := by
  have hl := hV0.len
  have hsm := hV0.small hx0 hx
  obtain ⟨g, c, hV, hc, _⟩ := h.va (i := x.natAbs) (by omega)
  have c4 := h.cell (i := 4) rfl
  rw [hV, hl] at c4
  obtain ⟨u, hu⟩ : ∃ u, S.val.getD x.natAbs 0 = u := ⟨_, rfl⟩
  obtain ⟨n, hn⟩ : ∃ n, S.v = n := ⟨_, rfl⟩
  rw [hn] at c4 hx hv
  have e : litV S.val x = if x < 0 then -u else u := by unfold litV; rw [hu]
  rw [hu] at hc
  rw [e] at hsm ⊢
  clear e h hl hu hn hV hV0 hx0
  by_cases h0 : x < 0
  · rw [if_pos h0]
    obtain ⟨k, hk⟩ : ∃ k, x.natAbs = k := ⟨_, rfl⟩
    have hx1 : IntKind.i64.wrap (-x) = (k : Int) := (i64_of (by omega)).trans (by omega)
    rw [hk] at hc hx
    have hkn : (k : Int) < ((n + 1 : Nat) : Int) := by omega
    clear hk
    have hk0 : (0 : Int) ≤ k := by omega
    rw [if_pos h0] at hsm
    have hu1 : IntKind.i64.wrap (-u) = -u := i64_of (by omega)
    clear hsm
    go_enter Try.func81, Try.ntmps81
    go_wp2_with fail
    go_ret
    exact ⟨rfl, rfl⟩
  · rw [if_neg h0]
    clear hsm
    obtain ⟨k, rfl⟩ : ∃ k : Nat, x = k := ⟨x.toNat, by omega⟩
    have hkn : (k : Int) < ((n + 1 : Nat) : Int) := by omega
    rw [show ((k : Int)).natAbs = k by omega] at hc hx
    have hk0 : (0 : Int) ≤ k := by omega
    clear h0
    go_enter Try.func81, Try.ntmps81
    go_wp2_with fail
    go_ret
    exact ⟨rfl, rfl⟩

/-- a call that hands back r and leaves the checker in a state -/
def CkR (base b : Nat) (w : World) (V : Key → Value) (S : St) (r : Value) (e : Ending) (w' : World) : Prop := e = .returned r ∧ ∃ V', Ck base b w' S V' ∧ Below base w w' ∧ ∀ k, k ≠ .tr → V' k = V k
/-- what assume does -/
def assumeS (S : St) (x : Int) : St × Bool := if litV S.val x = 1 then (S, true) else if litV S.val x = -1 then (S, false) else ({ S with val := layV S.val x, trail := S.trail ++ [x] }, true)
set_option maxRecDepth 100000 in
set_option maxHeartbeats 4000000 in
theorem assume_any {base b : Nat} {w : World} {S : St} {V : Key → Value} (h : Ck base b w S V) {x : Int} {tr : List Int} (hV0 : Vals S.v S.val tr) (hx0 : x ≠ 0) (hx : x.natAbs ≤ S.v) (hv : S.v ≤ 1000000) (ht : S.trail.length ≤ 1000000) :
    Calls Try.prog 57 #[.pointer (some ⟨b, 0, none⟩), .int .i64 x] w (CkR base b w V (assumeS S x).1 (.bool (assumeS S x).2)) := by
  have HVal := Lib.hid (rval_any h hV0 hx0 hx hv)
  have hsm := hV0.small hx0 hx
  have hl := hV0.len
  by_cases h1 : litV S.val x = 1
  · have ea : assumeS S x = (S, true) := by unfold assumeS; rw [if_pos h1]
    rw [ea]
    have H := Lib.hid h
    rw [h1] at HVal
    clear h hV0 hx0 hx hv ht hsm hl h1 ea
    go_enter Try.func57, Try.ntmps57
    go_wp2_with fail
    refine HVal.out.mono ?_
    rintro e w1 ⟨rfl, rfl⟩
    go_wp2_with fail
    go_ret
    exact ⟨rfl, V, H.out, Below.refl _ _, fun _ _ => rfl⟩
  · by_cases h2 : litV S.val x = -1
    · have ea : assumeS S x = (S, false) := by unfold assumeS; rw [if_neg h1, if_pos h2]
      rw [ea]
      have H := Lib.hid h
      rw [h2] at HVal
      clear h hV0 hx0 hx hv ht hsm hl h1 h2 ea
      go_enter Try.func57, Try.ntmps57
      go_wp2_with fail
      refine HVal.out.mono ?_
      rintro e w1 ⟨rfl, rfl⟩
      go_wp2_with fail
      go_ret
      exact ⟨rfl, V, H.out, Below.refl _ _, fun _ _ => rfl⟩
    · have h3 : litV S.val x = 0 := by omega
      have ea : assumeS S x = ({ S with val := layV S.val x, trail := S.trail ++ [x] }, true) := by unfold assumeS; rw [if_neg h1, if_neg h2]
      rw [ea]
      obtain ⟨k, hk⟩ : ∃ k, x.natAbs = k := ⟨_, rfl⟩
      rw [h3] at HVal
      by_cases hpos : 0 < x
      · obtain rfl : x = (k : Int) := by omega
        obtain ⟨g, c, hVa, hc, hf, hgb, hgn⟩ := h.va (i := k) (by omega)
        have c4 := h.cell (i := 4) rfl
        rw [hVa, hl] at c4
        have c5 := h.cell (i := 5) rfl
        have hck := h.setva (i := k) 1 (by omega) hVa
        have hlay : S.val.set k 1 = layV S.val (k : Int) := by unfold layV; rw [hk, if_pos hpos]
        rw [hlay] at hck
        have hbw := (upd_set (w := w) (b := g) (i := k) (F := fun j => j = g) (.int .i64 1) rfl).toBelow (B := base) (fun j e => by omega) (Nat.le_trans h.mem.hb (Nat.le_of_lt h.mem.lt))
        have d5 := hck.cell (i := 5) rfl
        have f5 := hck.blk.frz 5
        obtain ⟨pt, ct, hVt⟩ := ownsRow_form (hck.mem.own .tr)
        have htl : (Rof { S with val := layV S.val (k : Int) } V .tr).2.length = S.trail.length := ints_len _
        rw [htl] at hVt
        have hVt' : V .tr = .slice pt S.trail.length ct := hVt
        have hown := hck.mem.own .tr
        rw [htl] at hown
        have hown' : (w.setCell ⟨g, k, none⟩ (.int .i64 1)).ownsRow base 3 1 (.slice pt S.trail.length ct) S.trail.length (ints S.trail) := by rw [← hVt']; exact hown
        obtain ⟨T, hT⟩ : ∃ T, S.trail.length = T := ⟨_, rfl⟩
        obtain ⟨n, hn⟩ : ∃ n, S.v = n := ⟨_, rfl⟩
        have hkn : (k : Int) < ((n + 1 : Nat) : Int) := by omega
        rw [hn] at c4
        rw [hT] at hVt' hown' ht
        simp only [hVt'] at c5 d5
        have HX := Lib.hid (And.intro hck (And.intro hbw (And.intro hown' hVt')))
        have hT6 : T ≤ 1000000 := ht
        clear h hV0 hx hv ht hsm hl h1 h2 h3 ea hlay hck hbw hgb hgn hVt hVt' hown hown' hT hn htl hVa
        go_enter Try.func57, Try.ntmps57
        go_wp2_with fail
        refine HVal.out.mono ?_
        rintro e w1 ⟨rfl, rfl⟩
        go_upto_region 9 with fail
        clear c4 c5 hc hf
        generalize w.setCell ⟨g, k, none⟩ (.int .i64 1) = W at *
        have hbn := Below.new W (.cells #[.int .i64 (k : Int)] 3)
        have hck1 := HX.out.1.below hbn
        have hs1 := HX.out.2.2.1.alloc (.cells #[.int .i64 (k : Int)] 3)
        have hr1 : RO (W.alloc (.cells #[.int .i64 (k : Int)] 3)) (.slice (some ⟨W.heap.size, 0, none⟩) 1 1) 1 1 [.int .i64 (k : Int)] := ro_one _ _
        have hsz : base ≤ (W.alloc (.cells #[.int .i64 (k : Int)] 3)).heap.size := Nat.le_trans hck1.mem.hb (Nat.le_of_lt hck1.mem.lt)
        have HP := Lib.hid (And.intro hs1 (And.intro hr1 (And.intro hck1 (HX.out.2.1.alloc (Nat.le_trans HX.out.1.mem.hb (Nat.le_of_lt HX.out.1.mem.lt)) (.cells #[.int .i64 (k : Int)] 3)))))
        clear hbn hck1 hs1 hr1 f5
        go_wp2_with (at_builtin; refine wpList_appR rfl _ _ 23 rfl TInts base (.slice pt T ct) T (ints S.trail) rfl HP.out.1 _ 1 _ rfl HP.out.2.1 (by simp [Value.oneCell']) (by omega) (by omega) hsz ?_; intro v8 w8 happ; rw [← ints_snoc, ← HX.out.2.2.2] at happ; have hb8 := HP.out.2.2.1.appblk .tr happ; have hk8 := HP.out.2.2.1.apptr happ; have d8 := hb8.cell (i := 5) rfl; have f8 := hb8.frz 5; have hbl8 := (happ.below HP.out.2.2.2 hsz (fun j hj => (HP.out.2.2.1.mem.lts .tr j hj).1)).trans ((upd_set (w := w8) (b := b) (i := 5) (F := fun j => j = b) v8 rfl).toBelow (B := base) (fun j e => by have := HX.out.1.mem.hb; omega) (Nat.le_trans hsz happ.grown.size)); obtain ⟨p8, c8, ev8⟩ := ownsRow_form happ.own; subst ev8; have H8 := Lib.hid (And.intro hk8 hbl8); clear happ hb8 hk8 hbl8)
        go_ret
        exact ⟨rfl, _, H8.out.1, H8.out.2, fun k hk => by simp [updV, hk]⟩
      · have hxk : IntKind.i64.wrap (-x) = (k : Int) := (i64_of (by omega)).trans (by omega)
        obtain ⟨g, c, hVa, hc, hf, hgb, hgn⟩ := h.va (i := k) (by omega)
        have c4 := h.cell (i := 4) rfl
        rw [hVa, hl] at c4
        have c5 := h.cell (i := 5) rfl
        have hck := h.setva (i := k) (-1) (by omega) hVa
        have hlay : S.val.set k (-1) = layV S.val x := by unfold layV; rw [hk, if_neg hpos]
        rw [hlay] at hck
        have hbw := (upd_set (w := w) (b := g) (i := k) (F := fun j => j = g) (.int .i64 (-1)) rfl).toBelow (B := base) (fun j e => by omega) (Nat.le_trans h.mem.hb (Nat.le_of_lt h.mem.lt))
        have d5 := hck.cell (i := 5) rfl
        have f5 := hck.blk.frz 5
        obtain ⟨pt, ct, hVt⟩ := ownsRow_form (hck.mem.own .tr)
        have htl : (Rof { S with val := layV S.val x } V .tr).2.length = S.trail.length := ints_len _
        rw [htl] at hVt
        have hVt' : V .tr = .slice pt S.trail.length ct := hVt
        have hown := hck.mem.own .tr
        rw [htl] at hown
        have hown' : (w.setCell ⟨g, k, none⟩ (.int .i64 (-1))).ownsRow base 3 1 (.slice pt S.trail.length ct) S.trail.length (ints S.trail) := by rw [← hVt']; exact hown
        obtain ⟨T, hT⟩ : ∃ T, S.trail.length = T := ⟨_, rfl⟩
        obtain ⟨n, hn⟩ : ∃ n, S.v = n := ⟨_, rfl⟩
        have hkn : (k : Int) < ((n + 1 : Nat) : Int) := by omega
        rw [hn] at c4
        rw [hT] at hVt' hown' ht
        simp only [hVt'] at c5 d5
        have HX := Lib.hid (And.intro hck (And.intro hbw (And.intro hown' hVt')))
        have hT6 : T ≤ 1000000 := ht
        clear h hV0 hx hv ht hsm hl h1 h2 h3 ea hlay hck hbw hgb hgn hVt hVt' hown hown' hT hn htl hVa
        go_enter Try.func57, Try.ntmps57
        go_wp2_with fail
        refine HVal.out.mono ?_
        rintro e w1 ⟨rfl, rfl⟩
        go_upto_region 9 with fail
        clear c4 c5 hc hf
        generalize w.setCell ⟨g, k, none⟩ (.int .i64 (-1)) = W at *
        have hbn := Below.new W (.cells #[.int .i64 x] 3)
        have hck1 := HX.out.1.below hbn
        have hs1 := HX.out.2.2.1.alloc (.cells #[.int .i64 x] 3)
        have hr1 : RO (W.alloc (.cells #[.int .i64 x] 3)) (.slice (some ⟨W.heap.size, 0, none⟩) 1 1) 1 1 [.int .i64 x] := ro_one _ _
        have hsz : base ≤ (W.alloc (.cells #[.int .i64 x] 3)).heap.size := Nat.le_trans hck1.mem.hb (Nat.le_of_lt hck1.mem.lt)
        have HP := Lib.hid (And.intro hs1 (And.intro hr1 (And.intro hck1 (HX.out.2.1.alloc (Nat.le_trans HX.out.1.mem.hb (Nat.le_of_lt HX.out.1.mem.lt)) (.cells #[.int .i64 x] 3)))))
        clear hbn hck1 hs1 hr1 f5
        go_wp2_with (at_builtin; refine wpList_appR rfl _ _ 23 rfl TInts base (.slice pt T ct) T (ints S.trail) rfl HP.out.1 _ 1 _ rfl HP.out.2.1 (by simp [Value.oneCell']) (by omega) (by omega) hsz ?_; intro v8 w8 happ; rw [← ints_snoc, ← HX.out.2.2.2] at happ; have hb8 := HP.out.2.2.1.appblk .tr happ; have hk8 := HP.out.2.2.1.apptr happ; have d8 := hb8.cell (i := 5) rfl; have f8 := hb8.frz 5; have hbl8 := (happ.below HP.out.2.2.2 hsz (fun j hj => (HP.out.2.2.1.mem.lts .tr j hj).1)).trans ((upd_set (w := w8) (b := b) (i := 5) (F := fun j => j = b) v8 rfl).toBelow (B := base) (fun j e => by have := HX.out.1.mem.hb; omega) (Nat.le_trans hsz happ.grown.size)); obtain ⟨p8, c8, ev8⟩ := ownsRow_form happ.own; subst ev8; have H8 := Lib.hid (And.intro hk8 hbl8); clear happ hb8 hk8 hbl8)
        go_ret
        exact ⟨rfl, _, H8.out.1, H8.out.2, fun k hk => by simp [updV, hk]⟩
end Go.Proofs.Ytcifiibpiooeiaa
