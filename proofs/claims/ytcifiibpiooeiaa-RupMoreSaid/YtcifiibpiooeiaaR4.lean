import Derived.Test.YtcifiibpiooeiaaR3
namespace Go.Proofs.Ytcifiibpiooeiaa
set_option linter.unusedVariables false
open Go.RowKit Go.Sort

/-- the watched literal lit stands second -/
def orient (c : List Int) (lit : Int) : List Int := if c.getD 0 0 = lit then (c.set 0 (c.getD 1 0)).set 1 (c.getD 0 0) else c
def swapAt (c : List Int) (i : Nat) : List Int := (c.set 1 (c.getD i 0)).set i (c.getD 1 0)
/-- what visit does -/
def VisitP (S : St) (a : Nat) (lit : Int) (S' : St) (moved fails : Bool) : Prop :=
  (moved = true ∧ fails = false ∧ ∃ i, 2 ≤ i ∧ i < (orient (S.cl a) lit).length ∧ 0 ≤ litV S.val ((orient (S.cl a) lit).getD i 0) ∧
    S' = setwt (setcl S a (swapAt (orient (S.cl a) lit) i)) (slotN ((orient (S.cl a) lit).getD i 0)) (S.wt (slotN ((orient (S.cl a) lit).getD i 0)) ++ [(a : Int)])) ∨
  (moved = false ∧ (0 < litV S.val ((orient (S.cl a) lit).getD 0 0) ∨ ∀ i, 2 ≤ i → i < (orient (S.cl a) lit).length → litV S.val ((orient (S.cl a) lit).getD i 0) < 0) ∧
    S' = (assumeS (setcl S a (orient (S.cl a) lit)) ((orient (S.cl a) lit).getD 0 0)).1 ∧ fails = !(assumeS (setcl S a (orient (S.cl a) lit)) ((orient (S.cl a) lit).getD 0 0)).2)
/-- which slices are as they were -/
def KeepV (S S' : St) (V V' : Key → Value) : Prop := ∀ k, k ≠ .tr → (∀ s, k = .w s → S'.wt s = S.wt s) → V' k = V k
def VisitR (base b : Nat) (w : World) (S : St) (V : Key → Value) (a : Nat) (lit : Int) (e : Ending) (w' : World) : Prop :=
  ∃ S' moved fails, e = .returned (.tuple #[.bool moved, .bool fails]) ∧ VisitP S a lit S' moved fails ∧ ∃ V', Ck base b w' S' V' ∧ Below base w w' ∧ KeepV S S' V V'
theorem orient_len (c : List Int) (lit : Int) : (orient c lit).length = c.length := by unfold orient; split <;> simp
theorem orient_mem {c : List Int} (lit : Int) (h : 2 ≤ c.length) (x : Int) : x ∈ orient c lit ↔ x ∈ c := by
  unfold orient
  split
  · match c, h with
    | p :: q :: r, _ => simp [or_left_comm]
  · rfl

set_option maxRecDepth 100000 in
set_option maxHeartbeats 8000000 in
theorem visit_any {base b : Nat} {w : World} {S : St} {V : Key → Value} {a : Nat} (lit : Int) (h : Ck base b w S V) (hV0 : Vals S.v S.val S.trail) (ha : a < S.m) (h2 : 2 ≤ (S.cl a).length) (hl : ∀ x ∈ S.cl a, x ≠ 0 ∧ x.natAbs ≤ S.v)
    (hv : S.v ≤ 1000000) (hm : S.m ≤ 1000000) (hlen : (S.cl a).length ≤ 1000000) (hwt : ∀ s, (S.wt s).length ≤ 1000000) (ht : S.trail.length ≤ 1000000) :
    Calls Try.prog 82 #[.pointer (some ⟨b, 0, none⟩), .int .i64 a, .int .i64 lit] w (VisitR base b w S V a lit) := by
  obtain ⟨gc, cc, hVc, hca⟩ := h.clc ha
  obtain ⟨g, cap, hVa, hgb, hgn, hcells⟩ := h.cc (a := a) (i := 0) (by omega)
  have c1f := h.cell (i := 1) rfl
  rw [hVc] at c1f
  rw [hVa] at hca
  have hx0 := (hcells 0 (by omega)).1
  have hx1 := (hcells 1 (by omega)).1
  obtain ⟨c, hc⟩ : ∃ c, S.cl a = c := ⟨_, rfl⟩
  obtain ⟨L, hL⟩ : ∃ L, c.length = L := ⟨_, rfl⟩
  obtain ⟨M, hM⟩ : ∃ M, S.m = M := ⟨_, rfl⟩
  obtain ⟨x0, hx0e⟩ : ∃ x, c.getD 0 0 = x := ⟨_, rfl⟩
  obtain ⟨x1, hx1e⟩ : ∃ x, c.getD 1 0 = x := ⟨_, rfl⟩
  rw [hc, hL] at hVa hca h2 hlen
  rw [hc] at hx0 hx1 hl
  rw [hx0e] at hx0
  rw [hx1e] at hx1
  rw [hM] at c1f ha hm
  have HX := Lib.hid (And.intro h (And.intro hV0 (And.intro hl (And.intro hwt (And.intro hVa (And.intro hc (And.intro hL (And.intro hM (And.intro hx0e (And.intro hx1e (And.intro hgb (And.intro hv ht))))))))))))
  have hai : (a : Int) < (M : Int) := by omega
  have hMi : (M : Int) ≤ 1000000 := by omega
  have hLi : (L : Int) ≤ 1000000 := by omega
  have hL2 : (2 : Int) ≤ L := by omega
  have hL0 : 0 < L := by omega
  have hL1 : 1 < L := by omega
  have hL0i : (0 : Int) < L := by omega
  have hL1i : (1 : Int) < L := by omega
  clear h hV0 hl hwt hVa hcells hc hL hM hx0e hx1e hVc hgb hgn hv ht
  go_enter Try.func82, Try.ntmps82
  go_upto_if 21 with fail
  go_cut [8] from 10 (fun v8 wx => v8 = .slice (some ⟨g, 0, none⟩) L cap ∧ Ck base b wx (setcl S a (orient (S.cl a) lit)) V ∧ Below base w wx)
  case first =>
    by_cases he : x0 = lit
    · subst he
      have hor : orient (S.cl a) x0 = (c.set 0 x1).set 1 x0 := by unfold orient; rw [HX.out.2.2.2.2.2.1, HX.out.2.2.2.2.2.2.2.2.1, HX.out.2.2.2.2.2.2.2.2.2.1, if_pos rfl]
      have HO := Lib.hid hor
      clear hor
      simp only [beq_self_eq_true]
      go_upto_region 3 with fail
      have HTN := Lib.hid (Tr.nil w)
      refine wp_region_webC (w0 := w) [.known (.slice (some ⟨g, 0, none⟩) L cap), .rel (fun v W => v = .slice (some ⟨g, 0, none⟩) L cap) (fun _ => []), .known (.slice (some ⟨g, 0, none⟩) L cap), .known (.pointer (some ⟨g, 1, none⟩)), .known (.int .i64 x1), .rel (fun v W => v = .slice (some ⟨g, 0, none⟩) L cap) (fun _ => []), .known (.pointer (some ⟨g, 0, none⟩)), .known (.int .i64 x0)] [1, 2, 1, 1, 1, 2, 1, 1] [] 30 4 #[true, true, true, true, true, true, true, true, false, false, false, false] (by kernel_rfl) (by kernel_rfl) rfl rfl rfl (Nat.le_of_ble_eq_true rfl) ⟨Sp.Mono.known, (fun _ _ _ _ h => h), Sp.Mono.known, Sp.Mono.known, Sp.Mono.known, (fun _ _ _ _ h => h), Sp.Mono.known, Sp.Mono.known, trivial⟩ HTN.out.drew (fun _ _ _ _ _ h => h) (A := ?_) ?_ ?_ ?_
      rotate_left
      · intro u
        simp only [fillC, Sp.val, Nat.reduceBEq, cond_false, Act.put, List.setIfInBounds_toArray, List.set_cons_zero, List.set_cons_succ]
        rfl
      refine ob_yes (web_op (o := _) rfl (fun u W hT hd Q K hK => ?_)) ?_
      · (try simp only [Act.put, List.setIfInBounds_toArray, List.set_cons_zero, List.set_cons_succ] at hK)
        have ca0 : W.cell? _ = some _ := After.cell hx0 ⟨W, hT.bel⟩
        have ca1 : W.cell? _ = some _ := After.cell hx1 ⟨W, hT.bel⟩
        go_simp
        exact hK.out _ _ (Below.refl _ _) rfl (fun p hp => by cases hp) List.nodup_nil
      refine ob_pure (web_pure (o := _) rfl (fun u W hT hd => ?_)) ?_
      · have ca0 : W.cell? _ = some _ := After.cell hx0 ⟨W, hT.bel⟩
        have ca1 : W.cell? _ = some _ := After.cell hx1 ⟨W, hT.bel⟩
        exact ⟨_, Or.inl ⟨rfl, fun w => rfl⟩, rfl, rfl⟩
      refine ob_yes (web_op (o := _) rfl (fun u W hT hd Q K hK => ?_)) ?_
      · (try simp only [Act.put, List.setIfInBounds_toArray, List.set_cons_zero, List.set_cons_succ] at hK)
        have ca0 : W.cell? _ = some _ := After.cell hx0 ⟨W, hT.bel⟩
        have ca1 : W.cell? _ = some _ := After.cell hx1 ⟨W, hT.bel⟩
        go_simp
        exact hK.out _ _ (Below.refl _ _) rfl (fun p hp => by cases hp) List.nodup_nil
      refine ob_yes (web_op (o := _) rfl (fun u W hT hd Q K hK => ?_)) ?_
      · (try simp only [Act.put, List.setIfInBounds_toArray, List.set_cons_zero, List.set_cons_succ] at hK)
        have ca0 : W.cell? _ = some _ := After.cell hx0 ⟨W, hT.bel⟩
        have ca1 : W.cell? _ = some _ := After.cell hx1 ⟨W, hT.bel⟩
        go_simp
        exact hK.out _ _ (Below.refl _ _) rfl (fun p hp => by cases hp) List.nodup_nil
      refine ob_yes (web_op (o := _) rfl (fun u W hT hd Q K hK => ?_)) ?_
      · (try simp only [Act.put, List.setIfInBounds_toArray, List.set_cons_zero, List.set_cons_succ] at hK)
        have ca0 : W.cell? _ = some _ := After.cell hx0 ⟨W, hT.bel⟩
        have ca1 : W.cell? _ = some _ := After.cell hx1 ⟨W, hT.bel⟩
        go_simp
        exact hK.out _ _ (Below.refl _ _) rfl (fun p hp => by cases hp) List.nodup_nil
      refine ob_pure (web_pure (o := _) rfl (fun u W hT hd => ?_)) ?_
      · have ca0 : W.cell? _ = some _ := After.cell hx0 ⟨W, hT.bel⟩
        have ca1 : W.cell? _ = some _ := After.cell hx1 ⟨W, hT.bel⟩
        exact ⟨_, Or.inl ⟨rfl, fun w => rfl⟩, rfl, rfl⟩
      refine ob_yes (web_op (o := _) rfl (fun u W hT hd Q K hK => ?_)) ?_
      · have d5 := hd 5 (by kernel_rfl)
        generalize u 5 = x5 at *
        obtain rfl := d5
        (try simp only [Act.put, List.setIfInBounds_toArray, List.set_cons_zero, List.set_cons_succ] at hK)
        have ca0 : W.cell? _ = some _ := After.cell hx0 ⟨W, hT.bel⟩
        have ca1 : W.cell? _ = some _ := After.cell hx1 ⟨W, hT.bel⟩
        go_simp
        exact hK.out _ _ (Below.refl _ _) rfl (fun p hp => by cases hp) List.nodup_nil
      refine ob_yes (web_op (o := _) rfl (fun u W hT hd Q K hK => ?_)) ?_
      · (try simp only [Act.put, List.setIfInBounds_toArray, List.set_cons_zero, List.set_cons_succ] at hK)
        have ca0 : W.cell? _ = some _ := After.cell hx0 ⟨W, hT.bel⟩
        have ca1 : W.cell? _ = some _ := After.cell hx1 ⟨W, hT.bel⟩
        go_simp
        exact hK.out _ _ (Below.refl _ _) rfl (fun p hp => by cases hp) List.nodup_nil
      exact ob_nil
      intro u wx hT hok
      obtain ⟨h0, h1, h2, h3, h4, h5, h6, h7, _⟩ := hok
      clear h0 h2 h3 h4 h6 h7
      simp only [ownsC, Sp.own, Nat.reduceBEq, cond_false, List.append_nil] at hT
      have d1 := h1 (by kernel_rfl)
      clear h1
      generalize u 1 = x1 at *
      obtain rfl := d1
      have d5 := h5 (by kernel_rfl)
      clear h5
      generalize u 5 = x5 at *
      obtain rfl := d5
      (try dsimp only [List.nil_append, List.cons_append] at hT)
      have HTE := Lib.hid hT
      clear hT
      have hkx := HX.out.1.below HTE.out.bel
      obtain ⟨⟨u0, hu0⟩, f0⟩ := (hkx.cf (a := a) (i := 0) (by rw [HX.out.2.2.2.2.2.1, HX.out.2.2.2.2.2.2.1]; omega) HX.out.2.2.2.2.1)
      have hk1 := hkx.setc (a := a) (i := 0) x1 (by rw [HX.out.2.2.2.2.2.1, HX.out.2.2.2.2.2.2.1]; omega) HX.out.2.2.2.2.1
      obtain ⟨⟨u1, hu1⟩, f1⟩ := (hk1.cf (a := a) (i := 1) (by rw [setcl_at, List.length_set, HX.out.2.2.2.2.2.1, HX.out.2.2.2.2.2.2.1]; omega) HX.out.2.2.2.2.1)
      have hk2 := hk1.setc (a := a) (i := 1) x0 (by rw [setcl_at, List.length_set, HX.out.2.2.2.2.2.1, HX.out.2.2.2.2.2.2.1]; omega) HX.out.2.2.2.2.1
      rw [setcl_at, setcl_two, HX.out.2.2.2.2.2.1, ← HO.out] at hk2
      have hbx := ((HTE.out.bel.mono (Nat.le_trans HX.out.1.mem.hb (Nat.le_of_lt HX.out.1.mem.lt))).trans ((upd_set (w := wx) (b := g) (i := 0) (F := fun j => j = g) (.int .i64 x1) rfl).toBelow (B := base) (fun j e => by have := HX.out.2.2.2.2.2.2.2.2.2.2.1; omega) (Nat.le_trans hkx.mem.hb (Nat.le_of_lt hkx.mem.lt)))).trans ((upd_set (b := g) (i := 1) (F := fun j => j = g) (.int .i64 x0) rfl).toBelow (B := base) (fun j e => by have := HX.out.2.2.2.2.2.2.2.2.2.2.1; omega) (Nat.le_trans hk1.mem.hb (Nat.le_of_lt hk1.mem.lt)))
      have HK := Lib.hid (And.intro hk2 hbx)
      clear hkx hk1 hk2 hbx
      refine wpAny_of_held (S := fun _ => True) _ _ _ _ ?_
      refine held_take (i := 8) (v := .pointer (some ⟨g, 0, none⟩)) rfl (by kernel_rfl) (by kernel_rfl) (by kernel_rfl) (fun _ _ _ h => h) (Or.inl ⟨by rfl, ?_⟩) trivial ?_
      · intro w hSw; go_simp; (try with_reducible rfl)
      (try simp only [Act.put, List.setIfInBounds_toArray, List.set_cons_zero, List.set_cons_succ])
      refine wpAnyH_ready (rs := [9]) (by kernel_rfl) (by simp) ?_
      refine held_cons rfl (fun K hK => ?_) AllReadyH.nil
      go_simp
      refine hK.out _ _ trivial (fun _ => ?_)
      clear hK K
      (try simp only [List.setIfInBounds_toArray, List.set_cons_zero, List.set_cons_succ])
      refine held_take (i := 10) (v := .pointer (some ⟨g, 1, none⟩)) rfl (by kernel_rfl) (by kernel_rfl) (by kernel_rfl) (fun _ _ _ h => h) (Or.inl ⟨by rfl, ?_⟩) trivial ?_
      · intro w hSw; go_simp; (try with_reducible rfl)
      (try simp only [Act.put, List.setIfInBounds_toArray, List.set_cons_zero, List.set_cons_succ])
      refine wpAnyH_ready (rs := [11]) (by kernel_rfl) (by simp) ?_
      refine held_cons rfl (fun K hK => ?_) AllReadyH.nil
      go_simp
      refine hK.out _ _ trivial (fun _ => ?_)
      clear hK K
      (try simp only [List.setIfInBounds_toArray, List.set_cons_zero, List.set_cons_succ])
      refine wpAnyH_done (by kernel_rfl) ?_ _
      go_wp2_with fail
      go_meet
      exact ⟨rfl, HK.out.1, HK.out.2⟩
    · have hor : orient (S.cl a) lit = S.cl a := by unfold orient; rw [HX.out.2.2.2.2.2.1, HX.out.2.2.2.2.2.2.2.2.1, if_neg he]
      have hd : (x0 == lit) = false := by simpa using he
      have HO := Lib.hid hor
      clear hor he
      go_wp2_with fail
      go_meet
      exact ⟨rfl, by rw [HO.out, setcl_same]; exact HX.out.1, Below.refl _ _⟩
  case rest =>
    obtain ⟨rfl, hck, hbx⟩ := hcut
    obtain ⟨C, hC⟩ : ∃ C, orient (S.cl a) lit = C := ⟨_, rfl⟩
    have hCl : C.length = L := by rw [← hC, orient_len, HX.out.2.2.2.2.2.1, HX.out.2.2.2.2.2.2.1]
    have hCm : ∀ x ∈ C, x ≠ 0 ∧ x.natAbs ≤ S.v := fun x hx => HX.out.2.2.1 x (by rw [← hC, orient_mem lit (by rw [HX.out.2.2.2.2.2.1, HX.out.2.2.2.2.2.2.1]; exact h2), HX.out.2.2.2.2.2.1] at hx; exact hx)
    rw [hC] at hck
    have hz := hck.cx (a := a) (i := 0) (by rw [setcl_at, hCl]; omega) HX.out.2.2.2.2.1
    rw [setcl_at] at hz
    have hmem : ∀ i, i < L → C.getD i 0 ∈ C := fun i hi => by simp [List.getD, List.getElem?_eq_getElem (show i < C.length by omega)]
    obtain ⟨z, hze⟩ : ∃ z, C.getD 0 0 = z := ⟨_, rfl⟩
    have hzb := hCm _ (hmem 0 (by omega))
    rw [hze] at hz hzb
    have hval := fun W V' (h : Ck base b W (setcl S a C) V') x hx => rval_any h (x := x) (tr := S.trail) HX.out.2.1 (hCm x hx).1 (hCm x hx).2 HX.out.2.2.2.2.2.2.2.2.2.2.2.1
    have HZ := Lib.hid (And.intro hck (And.intro hbx (And.intro hC (And.intro hCl (And.intro hCm (And.intro hze (And.intro hzb hmem)))))))
    have HVal := Lib.hid hval
    obtain ⟨k0, hk0⟩ : ∃ k, litV S.val z = k := ⟨_, rfl⟩
    have hv0 := hval wc V hck z (by rw [← hze]; exact hmem 0 (by omega))
    have hv0' : Calls Try.prog 81 #[.pointer (some ⟨b, 0, none⟩), .int .i64 z] wc fun e w' => e = .returned (.int .i64 k0) ∧ wc = w' := by rw [← hk0]; exact hv0
    have HV0 := Lib.hid hv0'
    have HK0 := Lib.hid hk0
    clear hck hbx hC hCl hCm hze hzb hmem hval hv0 hv0' hk0
    go_wp2_with fail
    go_loopw [9] (fun iv wr => ∃ i : Nat, 2 ≤ i ∧ i ≤ L ∧ iv = .int .i64 i ∧ wr = wc ∧ (2 < i → k0 ≤ 0) ∧ ∀ j, 2 ≤ j → j < i → litV S.val (C.getD j 0) < 0) (fun iv _ => L - (intOf iv).toNat)
    case atStart => exact ⟨2, Nat.le_refl _, by omega, rfl, rfl, fun h => absurd h (by omega), fun j h1 h2 => absurd h1 (by omega)⟩
    case round =>
      obtain ⟨i, hi2, hiL, rfl, rfl, hk, hfalse⟩ := hrel
      by_cases hgo : i < L ∧ k0 ≤ 0
      · have hii : (i : Int) < L := by omega
        have hk0d : decide (k0 ≤ 0) = true := decide_eq_true hgo.2
        have hii0 : (0 : Int) ≤ i := by omega
        have hcy := HZ.out.1.cx (a := a) (i := i) (by rw [setcl_at, HZ.out.2.2.2.1]; exact hgo.1) HX.out.2.2.2.2.1
        rw [setcl_at] at hcy
        obtain ⟨y, hy⟩ : ∃ y, C.getD i 0 = y := ⟨_, rfl⟩
        have hyC : y ∈ C := by rw [← hy]; exact HZ.out.2.2.2.2.2.2.2 i hgo.1
        rw [hy] at hcy
        obtain ⟨ky, hky⟩ : ∃ k, litV S.val y = k := ⟨_, rfl⟩
        have hvy := HVal.out wr V HZ.out.1 y hyC
        have hvy' : Calls Try.prog 81 #[.pointer (some ⟨b, 0, none⟩), .int .i64 y] wr fun e w' => e = .returned (.int .i64 ky) ∧ wr = w' := by rw [← hky]; exact hvy
        have HVy := Lib.hid hvy'
        have HY := Lib.hid (And.intro hy (And.intro hyC (And.intro hky (And.intro hfalse hgo))))
        have hgo1 := hgo.1
        have hiw : IntKind.i64.wrap ((i : Int) + 1) = (i : Int) + 1 := i64_of (by omega)
        clear hy hyC hky hvy hvy' hfalse hgo hk
        by_cases hpos : 0 ≤ ky
        · have hkyd : decide ((0 : Int) ≤ ky) = true := decide_eq_true hpos
          go_wp2_with fail
          refine HV0.out.mono ?_
          rintro e w1 ⟨rfl, rfl⟩
          go_wp2_with fail
          refine HVy.out.mono ?_
          rintro e w1 ⟨rfl, rfl⟩
          go_upto_region 8 with fail
          have hc1 := HZ.out.1.cx (a := a) (i := 1) (by rw [setcl_at, HZ.out.2.2.2.1]; omega) HX.out.2.2.2.2.1
          rw [setcl_at] at hc1
          obtain ⟨y1, hy1⟩ : ∃ y, C.getD 1 0 = y := ⟨_, rfl⟩
          rw [hy1] at hc1
          have HY1 := Lib.hid hy1
          clear hy1
          have HTN := Lib.hid (Tr.nil wr)
          refine wp_region_webC (w0 := wr) [.known (.slice (some ⟨g, 0, none⟩) L cap), .rel (fun v W => v = .slice (some ⟨g, 0, none⟩) L cap) (fun _ => []), .rel (fun v W => v = .int .i64 i) (fun _ => []), .known (.slice (some ⟨g, 0, none⟩) L cap), .known (.int .i64 i), .known (.pointer (some ⟨g, i, none⟩)), .known (.int .i64 y), .rel (fun v W => v = .slice (some ⟨g, 0, none⟩) L cap) (fun _ => []), .known (.pointer (some ⟨g, 1, none⟩)), .known (.int .i64 y1)] [1, 2, 2, 1, 1, 1, 1, 2, 1, 1] [] 63 4 #[true, true, true, true, true, true, true, true, true, true, false, false, false, false] (by kernel_rfl) (by kernel_rfl) rfl rfl rfl (Nat.le_of_ble_eq_true rfl) ⟨Sp.Mono.known, (fun _ _ _ _ h => h), (fun _ _ _ _ h => h), Sp.Mono.known, Sp.Mono.known, Sp.Mono.known, Sp.Mono.known, (fun _ _ _ _ h => h), Sp.Mono.known, Sp.Mono.known, trivial⟩ HTN.out.drew (fun _ _ _ _ _ h => h) (A := ?_) ?_ ?_ ?_
          rotate_left
          · intro u
            simp only [fillC, Sp.val, Nat.reduceBEq, cond_false, Act.put, List.setIfInBounds_toArray, List.set_cons_zero, List.set_cons_succ]
            rfl
          refine ob_yes (web_op (o := _) rfl (fun u W hT hd Q K hK => ?_)) ?_
          · (try simp only [Act.put, List.setIfInBounds_toArray, List.set_cons_zero, List.set_cons_succ] at hK)
            have ca0 : W.cell? _ = some _ := After.cell hcy ⟨W, hT.bel⟩
            have ca1 : W.cell? _ = some _ := After.cell hc1 ⟨W, hT.bel⟩
            go_simp
            exact hK.out _ _ (Below.refl _ _) rfl (fun p hp => by cases hp) List.nodup_nil
          refine ob_pure (web_pure (o := _) rfl (fun u W hT hd => ?_)) ?_
          · have ca0 : W.cell? _ = some _ := After.cell hcy ⟨W, hT.bel⟩
            have ca1 : W.cell? _ = some _ := After.cell hc1 ⟨W, hT.bel⟩
            exact ⟨_, Or.inl ⟨rfl, fun w => rfl⟩, rfl, rfl⟩
          refine ob_pure (web_pure (o := _) rfl (fun u W hT hd => ?_)) ?_
          · have ca0 : W.cell? _ = some _ := After.cell hcy ⟨W, hT.bel⟩
            have ca1 : W.cell? _ = some _ := After.cell hc1 ⟨W, hT.bel⟩
            exact ⟨_, Or.inl ⟨rfl, fun w => rfl⟩, rfl, rfl⟩
          refine ob_yes (web_op (o := _) rfl (fun u W hT hd Q K hK => ?_)) ?_
          · (try simp only [Act.put, List.setIfInBounds_toArray, List.set_cons_zero, List.set_cons_succ] at hK)
            have ca0 : W.cell? _ = some _ := After.cell hcy ⟨W, hT.bel⟩
            have ca1 : W.cell? _ = some _ := After.cell hc1 ⟨W, hT.bel⟩
            go_simp
            exact hK.out _ _ (Below.refl _ _) rfl (fun p hp => by cases hp) List.nodup_nil
          refine ob_yes (web_op (o := _) rfl (fun u W hT hd Q K hK => ?_)) ?_
          · (try simp only [Act.put, List.setIfInBounds_toArray, List.set_cons_zero, List.set_cons_succ] at hK)
            have ca0 : W.cell? _ = some _ := After.cell hcy ⟨W, hT.bel⟩
            have ca1 : W.cell? _ = some _ := After.cell hc1 ⟨W, hT.bel⟩
            go_simp
            exact hK.out _ _ (Below.refl _ _) rfl (fun p hp => by cases hp) List.nodup_nil
          refine ob_yes (web_op (o := _) rfl (fun u W hT hd Q K hK => ?_)) ?_
          · (try simp only [Act.put, List.setIfInBounds_toArray, List.set_cons_zero, List.set_cons_succ] at hK)
            have ca0 : W.cell? _ = some _ := After.cell hcy ⟨W, hT.bel⟩
            have ca1 : W.cell? _ = some _ := After.cell hc1 ⟨W, hT.bel⟩
            go_simp
            exact hK.out _ _ (Below.refl _ _) rfl (fun p hp => by cases hp) List.nodup_nil
          refine ob_yes (web_op (o := _) rfl (fun u W hT hd Q K hK => ?_)) ?_
          · (try simp only [Act.put, List.setIfInBounds_toArray, List.set_cons_zero, List.set_cons_succ] at hK)
            have ca0 : W.cell? _ = some _ := After.cell hcy ⟨W, hT.bel⟩
            have ca1 : W.cell? _ = some _ := After.cell hc1 ⟨W, hT.bel⟩
            go_simp
            exact hK.out _ _ (Below.refl _ _) rfl (fun p hp => by cases hp) List.nodup_nil
          refine ob_pure (web_pure (o := _) rfl (fun u W hT hd => ?_)) ?_
          · have ca0 : W.cell? _ = some _ := After.cell hcy ⟨W, hT.bel⟩
            have ca1 : W.cell? _ = some _ := After.cell hc1 ⟨W, hT.bel⟩
            exact ⟨_, Or.inl ⟨rfl, fun w => rfl⟩, rfl, rfl⟩
          refine ob_yes (web_op (o := _) rfl (fun u W hT hd Q K hK => ?_)) ?_
          · have d7 := hd 7 (by kernel_rfl)
            generalize u 7 = x7 at *
            obtain rfl := d7
            (try simp only [Act.put, List.setIfInBounds_toArray, List.set_cons_zero, List.set_cons_succ] at hK)
            have ca0 : W.cell? _ = some _ := After.cell hcy ⟨W, hT.bel⟩
            have ca1 : W.cell? _ = some _ := After.cell hc1 ⟨W, hT.bel⟩
            go_simp
            exact hK.out _ _ (Below.refl _ _) rfl (fun p hp => by cases hp) List.nodup_nil
          refine ob_yes (web_op (o := _) rfl (fun u W hT hd Q K hK => ?_)) ?_
          · (try simp only [Act.put, List.setIfInBounds_toArray, List.set_cons_zero, List.set_cons_succ] at hK)
            have ca0 : W.cell? _ = some _ := After.cell hcy ⟨W, hT.bel⟩
            have ca1 : W.cell? _ = some _ := After.cell hc1 ⟨W, hT.bel⟩
            go_simp
            exact hK.out _ _ (Below.refl _ _) rfl (fun p hp => by cases hp) List.nodup_nil
          exact ob_nil
          intro u wx hT hok
          obtain ⟨h0, h1, h2, h3, h4, h5, h6, h7, h8, h9, _⟩ := hok
          clear h0 h3 h4 h5 h6 h8 h9
          simp only [ownsC, Sp.own, Nat.reduceBEq, cond_false, List.append_nil] at hT
          have d1 := h1 (by kernel_rfl)
          clear h1
          generalize u 1 = x1 at *
          obtain rfl := d1
          have d2 := h2 (by kernel_rfl)
          clear h2
          generalize u 2 = x2 at *
          obtain rfl := d2
          have d7 := h7 (by kernel_rfl)
          clear h7
          generalize u 7 = x7 at *
          obtain rfl := d7
          (try dsimp only [List.nil_append, List.cons_append] at hT)
          have HTE := Lib.hid hT
          clear hT
          have hkx := HZ.out.1.below HTE.out.bel
          obtain ⟨⟨u0, hu0⟩, f0⟩ := (hkx.cf (a := a) (i := 1) (by rw [setcl_at, HZ.out.2.2.2.1]; omega) HX.out.2.2.2.2.1)
          have hk1 := hkx.setc (a := a) (i := 1) y (by rw [setcl_at, HZ.out.2.2.2.1]; omega) HX.out.2.2.2.2.1
          obtain ⟨⟨u1, hu1⟩, f1⟩ := (hk1.cf (a := a) (i := i) (by rw [setcl_at, List.length_set, setcl_at, HZ.out.2.2.2.1]; exact hgo1) HX.out.2.2.2.2.1)
          have hk2 := hk1.setc (a := a) (i := i) y1 (by rw [setcl_at, List.length_set, setcl_at, HZ.out.2.2.2.1]; exact hgo1) HX.out.2.2.2.2.1
          rw [setcl_at, setcl_at, setcl_two, setcl_two] at hk2
          have hsw : (C.set 1 y).set i y1 = swapAt C i := by unfold swapAt; rw [HY.out.1, HY1.out]
          rw [hsw] at hk2
          have hbx := (HZ.out.2.1.trans (HTE.out.bel.mono HZ.out.1.base_le)).trans (((upd_set (w := wx) (b := g) (i := 1) (F := fun j => j = g) (.int .i64 y) rfl).toBelow (B := base) (fun j e => by have := HX.out.2.2.2.2.2.2.2.2.2.2.1; omega) hkx.base_le).trans ((upd_set (b := g) (i := i) (F := fun j => j = g) (.int .i64 y1) rfl).toBelow (B := base) (fun j e => by have := HX.out.2.2.2.2.2.2.2.2.2.2.1; omega) hk1.base_le))
          have HK := Lib.hid (And.intro hk2 hbx)
          clear hkx hk1 hk2 hbx hsw
          refine wpAny_of_held (S := fun _ => True) _ _ _ _ ?_
          refine held_take (i := 10) (v := .pointer (some ⟨g, 1, none⟩)) rfl (by kernel_rfl) (by kernel_rfl) (by kernel_rfl) (fun _ _ _ h => h) (Or.inl ⟨by rfl, ?_⟩) trivial ?_
          · intro w hSw; go_simp; (try with_reducible rfl)
          (try simp only [Act.put, List.setIfInBounds_toArray, List.set_cons_zero, List.set_cons_succ])
          refine wpAnyH_ready (rs := [11]) (by kernel_rfl) (by simp) ?_
          refine held_cons rfl (fun K hK => ?_) AllReadyH.nil
          go_simp
          refine hK.out _ _ trivial (fun _ => ?_)
          clear hK K
          (try simp only [List.setIfInBounds_toArray, List.set_cons_zero, List.set_cons_succ])
          refine held_take (i := 12) (v := .pointer (some ⟨g, i, none⟩)) rfl (by kernel_rfl) (by kernel_rfl) (by kernel_rfl) (fun _ _ _ h => h) (Or.inl ⟨by rfl, ?_⟩) trivial ?_
          · intro w hSw; go_simp; (try with_reducible rfl)
          (try simp only [Act.put, List.setIfInBounds_toArray, List.set_cons_zero, List.set_cons_succ])
          refine wpAnyH_ready (rs := [13]) (by kernel_rfl) (by simp) ?_
          refine held_cons rfl (fun K hK => ?_) AllReadyH.nil
          go_simp
          refine hK.out _ _ trivial (fun _ => ?_)
          clear hK K
          (try simp only [List.setIfInBounds_toArray, List.set_cons_zero, List.set_cons_succ])
          refine wpAnyH_done (by kernel_rfl) ?_ _
          go_upto_region 9 with fail
          generalize (wx.setCell ⟨g, 1, none⟩ (.int .i64 y)).setCell ⟨g, i, none⟩ (.int .i64 y1) = W0 at *
          clear hu0 f0 hu1 f1 hc1 hcy
          have hsl := slotN_lt (HZ.out.2.2.2.2.1 y HY.out.2.1).2
          have HSl := Lib.hid (fun W => rslot_any y (by have := (HZ.out.2.2.2.2.1 y HY.out.2.1).2; have := HX.out.2.2.2.2.2.2.2.2.2.2.2.1; omega) W)
          obtain ⟨s, hs⟩ : ∃ s, slotN y = s := ⟨_, rfl⟩
          rw [hs] at hsl HSl
          have hk9 := HK.out.1.drew
          have hb9 := HK.out.2.drew
          generalize hWd : W0.drew = Wd at *
          obtain ⟨gw, cw, hVw, hcw, _⟩ := hk9.wtc (s := s) hsl
          have hfw : ∀ W, Ck base b W (setcl S a (swapAt C i)) V → W.cell? ⟨b, 3, none⟩ = some (.slice (some ⟨gw, 0, none⟩) (2 * S.v + 3) cw) ∧ W.cell? ⟨g, 1, none⟩ = some (.int .i64 y) ∧ W.cell? ⟨gw, s, none⟩ = some (V (.w s)) := fun W h => by
            have h3 := h.cell (i := 3) rfl
            have hVw' : V .wt = .slice (some ⟨gw, 0, none⟩) (2 * S.v + 3) cw := hVw
            rw [hVw'] at h3
            refine ⟨h3, ?_, ?_⟩
            · have h1 := h.cx (a := a) (i := 1) (by rw [setcl_at]; simp [swapAt, HZ.out.2.2.2.1]; omega) HX.out.2.2.2.2.1
              rw [setcl_at] at h1
              have e : (swapAt C i).getD 1 0 = y := by
                unfold swapAt
                have : i ≠ 1 := by omega
                have h1 : 1 < C.length := by rw [HZ.out.2.2.2.1]; omega
                rw [HY.out.1]
                simp [List.getD, this, h1]
              rwa [e] at h1
            · obtain ⟨gw2, cw2, hVw2, hcw2, _⟩ := h.wtc (s := s) hsl
              have e2 := hVw2.symm.trans hVw
              cases e2
              exact hcw2
          obtain ⟨pw, cpw, hVs⟩ := ownsRow_form (hk9.mem.own (.w s))
          have hnl : (Rof (setcl S a (swapAt C i)) V (.w s)).2.length = (S.wt s).length := ints_len _
          rw [hnl] at hVs
          have hVs' : V (.w s) = .slice pw (S.wt s).length cpw := hVs
          obtain ⟨nw, hnw⟩ : ∃ n, (S.wt s).length = n := ⟨_, rfl⟩
          have hnw6 : nw ≤ 1000000 := by rw [← hnw]; exact HX.out.2.2.2.1 s
          obtain ⟨NW, hNW⟩ : ∃ n, 2 * S.v + 3 = n := ⟨_, rfl⟩
          rw [hnw] at hVs'
          have hsNW : (s : Int) < (NW : Int) := by omega
          have hs0 : (0 : Int) ≤ s := by omega
          have hfw' : ∀ W, Ck base b W (setcl S a (swapAt C i)) V → W.cell? ⟨b, 3, none⟩ = some (.slice (some ⟨gw, 0, none⟩) NW cw) ∧ W.cell? ⟨g, 1, none⟩ = some (.int .i64 y) ∧ W.cell? ⟨gw, s, none⟩ = some (.slice pw nw cpw) := fun W h => by rw [← hNW, ← hVs']; exact hfw W h
          have HF := Lib.hid hfw'
          have HK9 := Lib.hid (And.intro hk9 hb9)
          have HW := Lib.hid (And.intro hs (And.intro hsl (And.intro hVw (And.intro hVs' (And.intro hnw hNW)))))
          clear hfw hfw' hk9 hb9 hs hsl hVw hVs' hVs hnw hNW hcw hnl
          refine wp_region_held_drew (S := (fun W => W.cell? ⟨b, 3, none⟩ = some (.slice (some ⟨gw, 0, none⟩) NW cw) ∧ W.cell? ⟨g, 1, none⟩ = some (.int .i64 y))) (by kernel_rfl) ?_ (fun hHeld => ?_)
          · rw [hWd]; exact ⟨(HF.out _ HK9.out.1).1, (HF.out _ HK9.out.1).2.1⟩
          rw [hWd] at hHeld ⊢
          clear hWd
          refine held_take (i := 0) (v := .pointer (some ⟨b, 0, none⟩)) rfl (by kernel_rfl) (by kernel_rfl) (by kernel_rfl) (fun _ _ _ h => h) (Or.inl ⟨by rfl, ?_⟩) hHeld ?_
          · intro w hSw; obtain ⟨hS1, hS2⟩ := hSw; go_simp; (try with_reducible rfl)
          (try simp only [Act.put, List.setIfInBounds_toArray, List.set_cons_zero, List.set_cons_succ])
          refine held_take (i := 1) (v := .pointer (some ⟨b, 0, none⟩)) rfl (by kernel_rfl) (by kernel_rfl) (by kernel_rfl) (fun _ _ _ h => h) (Or.inl ⟨by rfl, ?_⟩) hHeld ?_
          · intro w hSw; obtain ⟨hS1, hS2⟩ := hSw; go_simp; (try with_reducible rfl)
          (try simp only [Act.put, List.setIfInBounds_toArray, List.set_cons_zero, List.set_cons_succ])
          refine held_take (i := 2) (v := .pointer (some ⟨b, 3, none⟩)) rfl (by kernel_rfl) (by kernel_rfl) (by kernel_rfl) (fun _ _ _ h => h) (Or.inl ⟨by rfl, ?_⟩) hHeld ?_
          · intro w hSw; obtain ⟨hS1, hS2⟩ := hSw; go_simp; (try with_reducible rfl)
          (try simp only [Act.put, List.setIfInBounds_toArray, List.set_cons_zero, List.set_cons_succ])
          refine held_take (i := 3) (v := .slice (some ⟨gw, 0, none⟩) NW cw) rfl (by kernel_rfl) (by kernel_rfl) (by kernel_rfl) (fun _ _ _ h => h) (Or.inl ⟨by rfl, ?_⟩) hHeld ?_
          · intro w hSw; obtain ⟨hS1, hS2⟩ := hSw; go_simp; (try with_reducible rfl)
          (try simp only [Act.put, List.setIfInBounds_toArray, List.set_cons_zero, List.set_cons_succ])
          refine held_take (i := 4) (v := .slice (some ⟨g, 0, none⟩) L cap) rfl (by kernel_rfl) (by kernel_rfl) (by kernel_rfl) (fun _ _ _ h => h) (Or.inl ⟨by rfl, ?_⟩) hHeld ?_
          · intro w hSw; obtain ⟨hS1, hS2⟩ := hSw; go_simp; (try with_reducible rfl)
          (try simp only [Act.put, List.setIfInBounds_toArray, List.set_cons_zero, List.set_cons_succ])
          refine held_take (i := 5) (v := .pointer (some ⟨g, 1, none⟩)) rfl (by kernel_rfl) (by kernel_rfl) (by kernel_rfl) (fun _ _ _ h => h) (Or.inl ⟨by rfl, ?_⟩) hHeld ?_
          · intro w hSw; obtain ⟨hS1, hS2⟩ := hSw; go_simp; (try with_reducible rfl)
          (try simp only [Act.put, List.setIfInBounds_toArray, List.set_cons_zero, List.set_cons_succ])
          refine held_take (i := 6) (v := .int .i64 y) rfl (by kernel_rfl) (by kernel_rfl) (by kernel_rfl) (fun _ _ _ h => h) (Or.inl ⟨by rfl, ?_⟩) hHeld ?_
          · intro w hSw; obtain ⟨hS1, hS2⟩ := hSw; go_simp; (try with_reducible rfl)
          (try simp only [Act.put, List.setIfInBounds_toArray, List.set_cons_zero, List.set_cons_succ])
          refine held_take (i := 8) (v := .pointer (some ⟨b, 0, none⟩)) rfl (by kernel_rfl) (by kernel_rfl) (by kernel_rfl) (fun _ _ _ h => h) (Or.inl ⟨by rfl, ?_⟩) hHeld ?_
          · intro w hSw; obtain ⟨hS1, hS2⟩ := hSw; go_simp; (try with_reducible rfl)
          (try simp only [Act.put, List.setIfInBounds_toArray, List.set_cons_zero, List.set_cons_succ])
          refine held_take (i := 9) (v := .pointer (some ⟨b, 0, none⟩)) rfl (by kernel_rfl) (by kernel_rfl) (by kernel_rfl) (fun _ _ _ h => h) (Or.inl ⟨by rfl, ?_⟩) hHeld ?_
          · intro w hSw; obtain ⟨hS1, hS2⟩ := hSw; go_simp; (try with_reducible rfl)
          (try simp only [Act.put, List.setIfInBounds_toArray, List.set_cons_zero, List.set_cons_succ])
          refine held_take (i := 10) (v := .pointer (some ⟨b, 3, none⟩)) rfl (by kernel_rfl) (by kernel_rfl) (by kernel_rfl) (fun _ _ _ h => h) (Or.inl ⟨by rfl, ?_⟩) hHeld ?_
          · intro w hSw; obtain ⟨hS1, hS2⟩ := hSw; go_simp; (try with_reducible rfl)
          (try simp only [Act.put, List.setIfInBounds_toArray, List.set_cons_zero, List.set_cons_succ])
          refine held_take (i := 11) (v := .slice (some ⟨gw, 0, none⟩) NW cw) rfl (by kernel_rfl) (by kernel_rfl) (by kernel_rfl) (fun _ _ _ h => h) (Or.inl ⟨by rfl, ?_⟩) hHeld ?_
          · intro w hSw; obtain ⟨hS1, hS2⟩ := hSw; go_simp; (try with_reducible rfl)
          (try simp only [Act.put, List.setIfInBounds_toArray, List.set_cons_zero, List.set_cons_succ])
          refine held_take (i := 12) (v := .slice (some ⟨g, 0, none⟩) L cap) rfl (by kernel_rfl) (by kernel_rfl) (by kernel_rfl) (fun _ _ _ h => h) (Or.inl ⟨by rfl, ?_⟩) hHeld ?_
          · intro w hSw; obtain ⟨hS1, hS2⟩ := hSw; go_simp; (try with_reducible rfl)
          (try simp only [Act.put, List.setIfInBounds_toArray, List.set_cons_zero, List.set_cons_succ])
          refine held_take (i := 13) (v := .pointer (some ⟨g, 1, none⟩)) rfl (by kernel_rfl) (by kernel_rfl) (by kernel_rfl) (fun _ _ _ h => h) (Or.inl ⟨by rfl, ?_⟩) hHeld ?_
          · intro w hSw; obtain ⟨hS1, hS2⟩ := hSw; go_simp; (try with_reducible rfl)
          (try simp only [Act.put, List.setIfInBounds_toArray, List.set_cons_zero, List.set_cons_succ])
          refine held_take (i := 14) (v := .int .i64 y) rfl (by kernel_rfl) (by kernel_rfl) (by kernel_rfl) (fun _ _ _ h => h) (Or.inl ⟨by rfl, ?_⟩) hHeld ?_
          · intro w hSw; obtain ⟨hS1, hS2⟩ := hSw; go_simp; (try with_reducible rfl)
          (try simp only [Act.put, List.setIfInBounds_toArray, List.set_cons_zero, List.set_cons_succ])
          refine held_take (i := 18) (v := .int .i64 a) rfl (by kernel_rfl) (by kernel_rfl) (by kernel_rfl) (fun _ _ _ h => h) (Or.inl ⟨by rfl, ?_⟩) hHeld ?_
          · intro w hSw; obtain ⟨hS1, hS2⟩ := hSw; go_simp; (try with_reducible rfl)
          (try simp only [Act.put, List.setIfInBounds_toArray, List.set_cons_zero, List.set_cons_succ])
          refine wpAnyH_ready (rs := [7, 19]) (by kernel_rfl) (by simp) ?_
          refine (held_cons rfl (fun K hK => ?_) (held_cons rfl (fun K hK => ?_) AllReadyH.nil))
          · go_simp
            refine (HSl.out _).mono ?_; rintro e w2 ⟨rfl, hw2⟩
            subst hw2
            (try go_simp)
            refine hK.out _ _ hHeld (fun _ => ?_)
            clear hK K
            (try simp only [Act.put, List.setIfInBounds_toArray, List.set_cons_zero, List.set_cons_succ])
            refine wpAnyH_ready (rs := [15, 19]) (by kernel_rfl) (by simp) ?_
            refine (held_cons rfl (fun K hK => ?_) (held_cons rfl (fun K hK => ?_) AllReadyH.nil))
            · go_simp
              refine (HSl.out _).mono ?_; rintro e w2 ⟨rfl, hw2⟩
              subst hw2
              (try go_simp)
              refine hK.out _ _ hHeld (fun _ => ?_)
              clear hK K
              (try simp only [Act.put, List.setIfInBounds_toArray, List.set_cons_zero, List.set_cons_succ])
              refine held_take (i := 16) (v := .pointer (some ⟨gw, s, none⟩)) rfl (by kernel_rfl) (by kernel_rfl) (by kernel_rfl) (fun _ _ _ h => h) (Or.inl ⟨by rfl, ?_⟩) hHeld ?_
              · intro w hSw; obtain ⟨hS1, hS2⟩ := hSw; go_simp; (try with_reducible rfl)
              (try simp only [Act.put, List.setIfInBounds_toArray, List.set_cons_zero, List.set_cons_succ])
              refine wpAnyH_ready (rs := [17, 19]) (by kernel_rfl) (by simp) ?_
              refine (held_cons rfl (fun K hK => ?_) (held_cons rfl (fun K hK => ?_) AllReadyH.nil))
              · go_simp
                have hgs := (HF.out _ HK9.out.1).2.2
                go_simp
                refine hK.out _ _ hHeld (fun _ => ?_)
                clear hgs
                clear hK K
                (try simp only [Act.put, List.setIfInBounds_toArray, List.set_cons_zero, List.set_cons_succ])
                refine wpAnyH_ready (rs := [19]) (by kernel_rfl) (by simp) ?_
                refine (held_cons rfl (fun K hK => ?_) AllReadyH.nil)
                · go_simp
                  have hbnA := Below.new Wd (.cells #[.int .i64 a] 3)
                  have hboxA := Blk.new (w := Wd) 3 [.int .i64 a]
                  have HK9a := Lib.hid (And.intro (HK9.out.1.below hbnA) (And.intro (HK9.out.2.trans (hbnA.mono HK9.out.1.base_le)) hboxA))
                  have hHeldA : (fun W => W.cell? ⟨b, 3, none⟩ = some (.slice (some ⟨gw, 0, none⟩) NW cw) ∧ W.cell? ⟨g, 1, none⟩ = some (.int .i64 y)) (Wd.alloc (.cells #[.int .i64 a] 3)) := ⟨(HF.out _ HK9a.out.1).1, (HF.out _ HK9a.out.1).2.1⟩
                  refine hK.out _ _ hHeldA (fun _ => ?_)
                  clear hbnA hboxA hHeld
                  have hHeld := hHeldA
                  clear hHeldA
                  clear hK K
                  (try simp only [Act.put, List.setIfInBounds_toArray, List.set_cons_zero, List.set_cons_succ])
                  generalize hWa : Wd.alloc (.cells #[.int .i64 a] 3) = Wa at *
                  have hbox := HK9a.out.2.2
                  have hown := HK9a.out.1.mem.own (.w s)
                  have hnl : (Rof (setcl S a (swapAt C i)) V (.w s)).2.length = nw := (ints_len _).trans HW.out.2.2.2.2.1
                  rw [hnl] at hown
                  have hown2 : Wa.ownsRow base 3 1 (.slice pw nw cpw) nw (ints (S.wt s)) := by rw [← HW.out.2.2.2.1]; exact hown
                  refine wpAnyH_ready (rs := [20]) (by kernel_rfl) (by simp) ?_
                  refine held_cons rfl (fun K hK => step_app rfl _ _ 23 rfl TInts base (.slice pw nw cpw) nw _ rfl hown2 Wd.heap.size 1 1 [.int .i64 a] rfl _ hbox rfl rfl (by simp [Value.oneCell']) Nat.one_pos (by omega) (by omega) HK9a.out.1.base_le ?_) AllReadyH.nil
                  intro g3 cap3 w3 happ
                  rw [← HW.out.2.2.2.1, show ints (S.wt s) ++ [.int .i64 a] = ints (S.wt s ++ [(a : Int)]) by simp [ints]] at happ
                  obtain ⟨gw2, cw2, hVw2, hcs3, hfs3, hgwb, hck3⟩ := HK9a.out.1.appw (s := s) HW.out.2.1 happ
                  have e2 := hVw2.symm.trans HW.out.2.2.1
                  cases e2
                  have hb3 := ((happ.below HK9a.out.2.1 HK9a.out.1.base_le (fun j hj => (HK9a.out.1.mem.lts (.w s) j hj).1)))
                  have hb4 := hb3.trans ((upd_set (w := w3) (b := gw) (i := s) (F := fun j => j = gw) (.slice (some ⟨g3, 0, none⟩) (nw + 1) cap3) rfl).toBelow (B := base) (fun j e => by omega) (Nat.le_trans HK9a.out.1.base_le happ.grown.size))
                  have hHeld3 : (fun W => W.cell? ⟨b, 3, none⟩ = some (.slice (some ⟨gw, 0, none⟩) NW cw) ∧ W.cell? ⟨g, 1, none⟩ = some (.int .i64 y)) w3 := by
                    have hne : ∀ j, j < Wa.heap.size → (V (.w s)).ownBlock ≠ some j → w3.heap[j]? = Wa.heap[j]? := fun j h1 h2 => happ.grown.block j h1 (Ne.symm h2)
                    refine ⟨?_, ?_⟩
                    · exact (World.cell?_of_block (a := ⟨b, 3, none⟩) (hne b HK9a.out.1.mem.lt (HK9a.out.1.mem.nb (.w s)))).trans hHeld.1
                    · exact (World.cell?_of_block (a := ⟨g, 1, none⟩) (hne g (World.block_lt_of_cell? _ _ hHeld.2) (fun e => HK9a.out.1.mem.ne (.w s) (.c a) (by simp) g e (by show (V (.c a)).ownBlock = _; rw [HX.out.2.2.2.2.1]; rfl)))).trans hHeld.2
                  refine hK.out _ _ hHeld3 (fun _ => ?_)
                  clear hK K hHeld
                  have hHeld := hHeld3
                  clear hHeld3
                  (try simp only [Act.put, List.setIfInBounds_toArray, List.set_cons_zero, List.set_cons_succ])
                  refine held_take (i := 21) (v := .pointer (some ⟨gw, s, none⟩)) rfl (by kernel_rfl) (by kernel_rfl) (by kernel_rfl) (fun _ _ _ h => h) (Or.inl ⟨by rfl, ?_⟩) hHeld ?_
                  · intro w hSw; obtain ⟨hS1, hS2⟩ := hSw; go_simp; (try with_reducible rfl)
                  (try simp only [Act.put, List.setIfInBounds_toArray, List.set_cons_zero, List.set_cons_succ])
                  refine wpAnyH_ready (rs := [22]) (by kernel_rfl) (by simp) ?_
                  refine held_cons rfl (fun K hK => ?_) AllReadyH.nil
                  go_simp
                  refine hK.out _ _ ?_ (fun _ => ?_)
                  · have hgb : gw ≠ b := fun e => HK9a.out.1.mem.nb .wt (by show (V .wt).ownBlock = _; rw [HW.out.2.2.1, e]; rfl)
                    have hgg : gw ≠ g := fun e => HK9a.out.1.mem.ne .wt (.c a) (by simp) gw (by show (V .wt).ownBlock = _; rw [HW.out.2.2.1]; rfl) (by show (V (.c a)).ownBlock = _; rw [HX.out.2.2.2.2.1, e]; rfl)
                    exact ⟨(World.cell?_setCell_other _ _ _ _ (by simp [])).trans hHeld.1, (World.cell?_setCell_other _ _ _ _ (by simp [])).trans hHeld.2⟩
                  clear hK K
                  (try simp only [Act.put, List.setIfInBounds_toArray, List.set_cons_zero, List.set_cons_succ])
                  refine wpAnyH_done (by kernel_rfl) ?_ _
                  have HEnd := Lib.hid (And.intro hck3 hb4)
                  clear hck3 hb4 hcs3 hfs3 hb3 happ hown hown2 hbox hHeld
                  go_wp2_with fail
                  go_ret2
                  refine ⟨_, true, false, rfl, Or.inl ⟨rfl, rfl, i, hi2, ?_, ?_, ?_⟩, _, HEnd.out.1, HEnd.out.2, fun k hk hw => ?_⟩
                  · rw [HZ.out.2.2.1, HZ.out.2.2.2.1]; exact hgo1
                  · rw [HZ.out.2.2.1, HY.out.1, HY.out.2.2.1]; exact hpos
                  · rw [HZ.out.2.2.1, HY.out.1, HW.out.1]
                  · have hne : k ≠ .w s := fun e => by have := hw s e; simp [setwt] at this
                    simp [updV, hne]
              · go_simp
                have hbnA := Below.new Wd (.cells #[.int .i64 a] 3)
                have hboxA := Blk.new (w := Wd) 3 [.int .i64 a]
                have HK9a := Lib.hid (And.intro (HK9.out.1.below hbnA) (And.intro (HK9.out.2.trans (hbnA.mono HK9.out.1.base_le)) hboxA))
                have hHeldA : (fun W => W.cell? ⟨b, 3, none⟩ = some (.slice (some ⟨gw, 0, none⟩) NW cw) ∧ W.cell? ⟨g, 1, none⟩ = some (.int .i64 y)) (Wd.alloc (.cells #[.int .i64 a] 3)) := ⟨(HF.out _ HK9a.out.1).1, (HF.out _ HK9a.out.1).2.1⟩
                refine hK.out _ _ hHeldA (fun _ => ?_)
                clear hbnA hboxA hHeld
                have hHeld := hHeldA
                clear hHeldA
                clear hK K
                (try simp only [Act.put, List.setIfInBounds_toArray, List.set_cons_zero, List.set_cons_succ])
                refine wpAnyH_ready (rs := [17]) (by kernel_rfl) (by simp) ?_
                refine (held_cons rfl (fun K hK => ?_) AllReadyH.nil)
                · go_simp
                  have hgs := (HF.out _ HK9a.out.1).2.2
                  go_simp
                  refine hK.out _ _ hHeld (fun _ => ?_)
                  clear hgs
                  clear hK K
                  (try simp only [Act.put, List.setIfInBounds_toArray, List.set_cons_zero, List.set_cons_succ])
                  generalize hWa : Wd.alloc (.cells #[.int .i64 a] 3) = Wa at *
                  have hbox := HK9a.out.2.2
                  have hown := HK9a.out.1.mem.own (.w s)
                  have hnl : (Rof (setcl S a (swapAt C i)) V (.w s)).2.length = nw := (ints_len _).trans HW.out.2.2.2.2.1
                  rw [hnl] at hown
                  have hown2 : Wa.ownsRow base 3 1 (.slice pw nw cpw) nw (ints (S.wt s)) := by rw [← HW.out.2.2.2.1]; exact hown
                  refine wpAnyH_ready (rs := [20]) (by kernel_rfl) (by simp) ?_
                  refine held_cons rfl (fun K hK => step_app rfl _ _ 23 rfl TInts base (.slice pw nw cpw) nw _ rfl hown2 Wd.heap.size 1 1 [.int .i64 a] rfl _ hbox rfl rfl (by simp [Value.oneCell']) Nat.one_pos (by omega) (by omega) HK9a.out.1.base_le ?_) AllReadyH.nil
                  intro g3 cap3 w3 happ
                  rw [← HW.out.2.2.2.1, show ints (S.wt s) ++ [.int .i64 a] = ints (S.wt s ++ [(a : Int)]) by simp [ints]] at happ
                  obtain ⟨gw2, cw2, hVw2, hcs3, hfs3, hgwb, hck3⟩ := HK9a.out.1.appw (s := s) HW.out.2.1 happ
                  have e2 := hVw2.symm.trans HW.out.2.2.1
                  cases e2
                  have hb3 := ((happ.below HK9a.out.2.1 HK9a.out.1.base_le (fun j hj => (HK9a.out.1.mem.lts (.w s) j hj).1)))
                  have hb4 := hb3.trans ((upd_set (w := w3) (b := gw) (i := s) (F := fun j => j = gw) (.slice (some ⟨g3, 0, none⟩) (nw + 1) cap3) rfl).toBelow (B := base) (fun j e => by omega) (Nat.le_trans HK9a.out.1.base_le happ.grown.size))
                  have hHeld3 : (fun W => W.cell? ⟨b, 3, none⟩ = some (.slice (some ⟨gw, 0, none⟩) NW cw) ∧ W.cell? ⟨g, 1, none⟩ = some (.int .i64 y)) w3 := by
                    have hne : ∀ j, j < Wa.heap.size → (V (.w s)).ownBlock ≠ some j → w3.heap[j]? = Wa.heap[j]? := fun j h1 h2 => happ.grown.block j h1 (Ne.symm h2)
                    refine ⟨?_, ?_⟩
                    · exact (World.cell?_of_block (a := ⟨b, 3, none⟩) (hne b HK9a.out.1.mem.lt (HK9a.out.1.mem.nb (.w s)))).trans hHeld.1
                    · exact (World.cell?_of_block (a := ⟨g, 1, none⟩) (hne g (World.block_lt_of_cell? _ _ hHeld.2) (fun e => HK9a.out.1.mem.ne (.w s) (.c a) (by simp) g e (by show (V (.c a)).ownBlock = _; rw [HX.out.2.2.2.2.1]; rfl)))).trans hHeld.2
                  refine hK.out _ _ hHeld3 (fun _ => ?_)
                  clear hK K hHeld
                  have hHeld := hHeld3
                  clear hHeld3
                  (try simp only [Act.put, List.setIfInBounds_toArray, List.set_cons_zero, List.set_cons_succ])
                  refine held_take (i := 21) (v := .pointer (some ⟨gw, s, none⟩)) rfl (by kernel_rfl) (by kernel_rfl) (by kernel_rfl) (fun _ _ _ h => h) (Or.inl ⟨by rfl, ?_⟩) hHeld ?_
                  · intro w hSw; obtain ⟨hS1, hS2⟩ := hSw; go_simp; (try with_reducible rfl)
                  (try simp only [Act.put, List.setIfInBounds_toArray, List.set_cons_zero, List.set_cons_succ])
                  refine wpAnyH_ready (rs := [22]) (by kernel_rfl) (by simp) ?_
                  refine held_cons rfl (fun K hK => ?_) AllReadyH.nil
                  go_simp
                  refine hK.out _ _ ?_ (fun _ => ?_)
                  · have hgb : gw ≠ b := fun e => HK9a.out.1.mem.nb .wt (by show (V .wt).ownBlock = _; rw [HW.out.2.2.1, e]; rfl)
                    have hgg : gw ≠ g := fun e => HK9a.out.1.mem.ne .wt (.c a) (by simp) gw (by show (V .wt).ownBlock = _; rw [HW.out.2.2.1]; rfl) (by show (V (.c a)).ownBlock = _; rw [HX.out.2.2.2.2.1, e]; rfl)
                    exact ⟨(World.cell?_setCell_other _ _ _ _ (by simp [])).trans hHeld.1, (World.cell?_setCell_other _ _ _ _ (by simp [])).trans hHeld.2⟩
                  clear hK K
                  (try simp only [Act.put, List.setIfInBounds_toArray, List.set_cons_zero, List.set_cons_succ])
                  refine wpAnyH_done (by kernel_rfl) ?_ _
                  have HEnd := Lib.hid (And.intro hck3 hb4)
                  clear hck3 hb4 hcs3 hfs3 hb3 happ hown hown2 hbox hHeld
                  go_wp2_with fail
                  go_ret2
                  refine ⟨_, true, false, rfl, Or.inl ⟨rfl, rfl, i, hi2, ?_, ?_, ?_⟩, _, HEnd.out.1, HEnd.out.2, fun k hk hw => ?_⟩
                  · rw [HZ.out.2.2.1, HZ.out.2.2.2.1]; exact hgo1
                  · rw [HZ.out.2.2.1, HY.out.1, HY.out.2.2.1]; exact hpos
                  · rw [HZ.out.2.2.1, HY.out.1, HW.out.1]
                  · have hne : k ≠ .w s := fun e => by have := hw s e; simp [setwt] at this
                    simp [updV, hne]
            · go_simp
              have hbnA := Below.new Wd (.cells #[.int .i64 a] 3)
              have hboxA := Blk.new (w := Wd) 3 [.int .i64 a]
              have HK9a := Lib.hid (And.intro (HK9.out.1.below hbnA) (And.intro (HK9.out.2.trans (hbnA.mono HK9.out.1.base_le)) hboxA))
              have hHeldA : (fun W => W.cell? ⟨b, 3, none⟩ = some (.slice (some ⟨gw, 0, none⟩) NW cw) ∧ W.cell? ⟨g, 1, none⟩ = some (.int .i64 y)) (Wd.alloc (.cells #[.int .i64 a] 3)) := ⟨(HF.out _ HK9a.out.1).1, (HF.out _ HK9a.out.1).2.1⟩
              refine hK.out _ _ hHeldA (fun _ => ?_)
              clear hbnA hboxA hHeld
              have hHeld := hHeldA
              clear hHeldA
              clear hK K
              (try simp only [Act.put, List.setIfInBounds_toArray, List.set_cons_zero, List.set_cons_succ])
              refine wpAnyH_ready (rs := [15]) (by kernel_rfl) (by simp) ?_
              refine (held_cons rfl (fun K hK => ?_) AllReadyH.nil)
              · go_simp
                refine (HSl.out _).mono ?_; rintro e w2 ⟨rfl, hw2⟩
                subst hw2
                (try go_simp)
                refine hK.out _ _ hHeld (fun _ => ?_)
                clear hK K
                (try simp only [Act.put, List.setIfInBounds_toArray, List.set_cons_zero, List.set_cons_succ])
                refine held_take (i := 16) (v := .pointer (some ⟨gw, s, none⟩)) rfl (by kernel_rfl) (by kernel_rfl) (by kernel_rfl) (fun _ _ _ h => h) (Or.inl ⟨by rfl, ?_⟩) hHeld ?_
                · intro w hSw; obtain ⟨hS1, hS2⟩ := hSw; go_simp; (try with_reducible rfl)
                (try simp only [Act.put, List.setIfInBounds_toArray, List.set_cons_zero, List.set_cons_succ])
                refine wpAnyH_ready (rs := [17]) (by kernel_rfl) (by simp) ?_
                refine (held_cons rfl (fun K hK => ?_) AllReadyH.nil)
                · go_simp
                  have hgs := (HF.out _ HK9a.out.1).2.2
                  go_simp
                  refine hK.out _ _ hHeld (fun _ => ?_)
                  clear hgs
                  clear hK K
                  (try simp only [Act.put, List.setIfInBounds_toArray, List.set_cons_zero, List.set_cons_succ])
                  generalize hWa : Wd.alloc (.cells #[.int .i64 a] 3) = Wa at *
                  have hbox := HK9a.out.2.2
                  have hown := HK9a.out.1.mem.own (.w s)
                  have hnl : (Rof (setcl S a (swapAt C i)) V (.w s)).2.length = nw := (ints_len _).trans HW.out.2.2.2.2.1
                  rw [hnl] at hown
                  have hown2 : Wa.ownsRow base 3 1 (.slice pw nw cpw) nw (ints (S.wt s)) := by rw [← HW.out.2.2.2.1]; exact hown
                  refine wpAnyH_ready (rs := [20]) (by kernel_rfl) (by simp) ?_
                  refine held_cons rfl (fun K hK => step_app rfl _ _ 23 rfl TInts base (.slice pw nw cpw) nw _ rfl hown2 Wd.heap.size 1 1 [.int .i64 a] rfl _ hbox rfl rfl (by simp [Value.oneCell']) Nat.one_pos (by omega) (by omega) HK9a.out.1.base_le ?_) AllReadyH.nil
                  intro g3 cap3 w3 happ
                  rw [← HW.out.2.2.2.1, show ints (S.wt s) ++ [.int .i64 a] = ints (S.wt s ++ [(a : Int)]) by simp [ints]] at happ
                  obtain ⟨gw2, cw2, hVw2, hcs3, hfs3, hgwb, hck3⟩ := HK9a.out.1.appw (s := s) HW.out.2.1 happ
                  have e2 := hVw2.symm.trans HW.out.2.2.1
                  cases e2
                  have hb3 := ((happ.below HK9a.out.2.1 HK9a.out.1.base_le (fun j hj => (HK9a.out.1.mem.lts (.w s) j hj).1)))
                  have hb4 := hb3.trans ((upd_set (w := w3) (b := gw) (i := s) (F := fun j => j = gw) (.slice (some ⟨g3, 0, none⟩) (nw + 1) cap3) rfl).toBelow (B := base) (fun j e => by omega) (Nat.le_trans HK9a.out.1.base_le happ.grown.size))
                  have hHeld3 : (fun W => W.cell? ⟨b, 3, none⟩ = some (.slice (some ⟨gw, 0, none⟩) NW cw) ∧ W.cell? ⟨g, 1, none⟩ = some (.int .i64 y)) w3 := by
                    have hne : ∀ j, j < Wa.heap.size → (V (.w s)).ownBlock ≠ some j → w3.heap[j]? = Wa.heap[j]? := fun j h1 h2 => happ.grown.block j h1 (Ne.symm h2)
                    refine ⟨?_, ?_⟩
                    · exact (World.cell?_of_block (a := ⟨b, 3, none⟩) (hne b HK9a.out.1.mem.lt (HK9a.out.1.mem.nb (.w s)))).trans hHeld.1
                    · exact (World.cell?_of_block (a := ⟨g, 1, none⟩) (hne g (World.block_lt_of_cell? _ _ hHeld.2) (fun e => HK9a.out.1.mem.ne (.w s) (.c a) (by simp) g e (by show (V (.c a)).ownBlock = _; rw [HX.out.2.2.2.2.1]; rfl)))).trans hHeld.2
                  refine hK.out _ _ hHeld3 (fun _ => ?_)
                  clear hK K hHeld
                  have hHeld := hHeld3
                  clear hHeld3
                  (try simp only [Act.put, List.setIfInBounds_toArray, List.set_cons_zero, List.set_cons_succ])
                  refine held_take (i := 21) (v := .pointer (some ⟨gw, s, none⟩)) rfl (by kernel_rfl) (by kernel_rfl) (by kernel_rfl) (fun _ _ _ h => h) (Or.inl ⟨by rfl, ?_⟩) hHeld ?_
                  · intro w hSw; obtain ⟨hS1, hS2⟩ := hSw; go_simp; (try with_reducible rfl)
                  (try simp only [Act.put, List.setIfInBounds_toArray, List.set_cons_zero, List.set_cons_succ])
                  refine wpAnyH_ready (rs := [22]) (by kernel_rfl) (by simp) ?_
                  refine held_cons rfl (fun K hK => ?_) AllReadyH.nil
                  go_simp
                  refine hK.out _ _ ?_ (fun _ => ?_)
                  · have hgb : gw ≠ b := fun e => HK9a.out.1.mem.nb .wt (by show (V .wt).ownBlock = _; rw [HW.out.2.2.1, e]; rfl)
                    have hgg : gw ≠ g := fun e => HK9a.out.1.mem.ne .wt (.c a) (by simp) gw (by show (V .wt).ownBlock = _; rw [HW.out.2.2.1]; rfl) (by show (V (.c a)).ownBlock = _; rw [HX.out.2.2.2.2.1, e]; rfl)
                    exact ⟨(World.cell?_setCell_other _ _ _ _ (by simp [])).trans hHeld.1, (World.cell?_setCell_other _ _ _ _ (by simp [])).trans hHeld.2⟩
                  clear hK K
                  (try simp only [Act.put, List.setIfInBounds_toArray, List.set_cons_zero, List.set_cons_succ])
                  refine wpAnyH_done (by kernel_rfl) ?_ _
                  have HEnd := Lib.hid (And.intro hck3 hb4)
                  clear hck3 hb4 hcs3 hfs3 hb3 happ hown hown2 hbox hHeld
                  go_wp2_with fail
                  go_ret2
                  refine ⟨_, true, false, rfl, Or.inl ⟨rfl, rfl, i, hi2, ?_, ?_, ?_⟩, _, HEnd.out.1, HEnd.out.2, fun k hk hw => ?_⟩
                  · rw [HZ.out.2.2.1, HZ.out.2.2.2.1]; exact hgo1
                  · rw [HZ.out.2.2.1, HY.out.1, HY.out.2.2.1]; exact hpos
                  · rw [HZ.out.2.2.1, HY.out.1, HW.out.1]
                  · have hne : k ≠ .w s := fun e => by have := hw s e; simp [setwt] at this
                    simp [updV, hne]
          · go_simp
            have hbnA := Below.new Wd (.cells #[.int .i64 a] 3)
            have hboxA := Blk.new (w := Wd) 3 [.int .i64 a]
            have HK9a := Lib.hid (And.intro (HK9.out.1.below hbnA) (And.intro (HK9.out.2.trans (hbnA.mono HK9.out.1.base_le)) hboxA))
            have hHeldA : (fun W => W.cell? ⟨b, 3, none⟩ = some (.slice (some ⟨gw, 0, none⟩) NW cw) ∧ W.cell? ⟨g, 1, none⟩ = some (.int .i64 y)) (Wd.alloc (.cells #[.int .i64 a] 3)) := ⟨(HF.out _ HK9a.out.1).1, (HF.out _ HK9a.out.1).2.1⟩
            refine hK.out _ _ hHeldA (fun _ => ?_)
            clear hbnA hboxA hHeld
            have hHeld := hHeldA
            clear hHeldA
            clear hK K
            (try simp only [Act.put, List.setIfInBounds_toArray, List.set_cons_zero, List.set_cons_succ])
            refine wpAnyH_ready (rs := [7]) (by kernel_rfl) (by simp) ?_
            refine (held_cons rfl (fun K hK => ?_) AllReadyH.nil)
            · go_simp
              refine (HSl.out _).mono ?_; rintro e w2 ⟨rfl, hw2⟩
              subst hw2
              (try go_simp)
              refine hK.out _ _ hHeld (fun _ => ?_)
              clear hK K
              (try simp only [Act.put, List.setIfInBounds_toArray, List.set_cons_zero, List.set_cons_succ])
              refine wpAnyH_ready (rs := [15]) (by kernel_rfl) (by simp) ?_
              refine (held_cons rfl (fun K hK => ?_) AllReadyH.nil)
              · go_simp
                refine (HSl.out _).mono ?_; rintro e w2 ⟨rfl, hw2⟩
                subst hw2
                (try go_simp)
                refine hK.out _ _ hHeld (fun _ => ?_)
                clear hK K
                (try simp only [Act.put, List.setIfInBounds_toArray, List.set_cons_zero, List.set_cons_succ])
                refine held_take (i := 16) (v := .pointer (some ⟨gw, s, none⟩)) rfl (by kernel_rfl) (by kernel_rfl) (by kernel_rfl) (fun _ _ _ h => h) (Or.inl ⟨by rfl, ?_⟩) hHeld ?_
                · intro w hSw; obtain ⟨hS1, hS2⟩ := hSw; go_simp; (try with_reducible rfl)
                (try simp only [Act.put, List.setIfInBounds_toArray, List.set_cons_zero, List.set_cons_succ])
                refine wpAnyH_ready (rs := [17]) (by kernel_rfl) (by simp) ?_
                refine (held_cons rfl (fun K hK => ?_) AllReadyH.nil)
                · go_simp
                  have hgs := (HF.out _ HK9a.out.1).2.2
                  go_simp
                  refine hK.out _ _ hHeld (fun _ => ?_)
                  clear hgs
                  clear hK K
                  (try simp only [Act.put, List.setIfInBounds_toArray, List.set_cons_zero, List.set_cons_succ])
                  generalize hWa : Wd.alloc (.cells #[.int .i64 a] 3) = Wa at *
                  have hbox := HK9a.out.2.2
                  have hown := HK9a.out.1.mem.own (.w s)
                  have hnl : (Rof (setcl S a (swapAt C i)) V (.w s)).2.length = nw := (ints_len _).trans HW.out.2.2.2.2.1
                  rw [hnl] at hown
                  have hown2 : Wa.ownsRow base 3 1 (.slice pw nw cpw) nw (ints (S.wt s)) := by rw [← HW.out.2.2.2.1]; exact hown
                  refine wpAnyH_ready (rs := [20]) (by kernel_rfl) (by simp) ?_
                  refine held_cons rfl (fun K hK => step_app rfl _ _ 23 rfl TInts base (.slice pw nw cpw) nw _ rfl hown2 Wd.heap.size 1 1 [.int .i64 a] rfl _ hbox rfl rfl (by simp [Value.oneCell']) Nat.one_pos (by omega) (by omega) HK9a.out.1.base_le ?_) AllReadyH.nil
                  intro g3 cap3 w3 happ
                  rw [← HW.out.2.2.2.1, show ints (S.wt s) ++ [.int .i64 a] = ints (S.wt s ++ [(a : Int)]) by simp [ints]] at happ
                  obtain ⟨gw2, cw2, hVw2, hcs3, hfs3, hgwb, hck3⟩ := HK9a.out.1.appw (s := s) HW.out.2.1 happ
                  have e2 := hVw2.symm.trans HW.out.2.2.1
                  cases e2
                  have hb3 := ((happ.below HK9a.out.2.1 HK9a.out.1.base_le (fun j hj => (HK9a.out.1.mem.lts (.w s) j hj).1)))
                  have hb4 := hb3.trans ((upd_set (w := w3) (b := gw) (i := s) (F := fun j => j = gw) (.slice (some ⟨g3, 0, none⟩) (nw + 1) cap3) rfl).toBelow (B := base) (fun j e => by omega) (Nat.le_trans HK9a.out.1.base_le happ.grown.size))
                  have hHeld3 : (fun W => W.cell? ⟨b, 3, none⟩ = some (.slice (some ⟨gw, 0, none⟩) NW cw) ∧ W.cell? ⟨g, 1, none⟩ = some (.int .i64 y)) w3 := by
                    have hne : ∀ j, j < Wa.heap.size → (V (.w s)).ownBlock ≠ some j → w3.heap[j]? = Wa.heap[j]? := fun j h1 h2 => happ.grown.block j h1 (Ne.symm h2)
                    refine ⟨?_, ?_⟩
                    · exact (World.cell?_of_block (a := ⟨b, 3, none⟩) (hne b HK9a.out.1.mem.lt (HK9a.out.1.mem.nb (.w s)))).trans hHeld.1
                    · exact (World.cell?_of_block (a := ⟨g, 1, none⟩) (hne g (World.block_lt_of_cell? _ _ hHeld.2) (fun e => HK9a.out.1.mem.ne (.w s) (.c a) (by simp) g e (by show (V (.c a)).ownBlock = _; rw [HX.out.2.2.2.2.1]; rfl)))).trans hHeld.2
                  refine hK.out _ _ hHeld3 (fun _ => ?_)
                  clear hK K hHeld
                  have hHeld := hHeld3
                  clear hHeld3
                  (try simp only [Act.put, List.setIfInBounds_toArray, List.set_cons_zero, List.set_cons_succ])
                  refine held_take (i := 21) (v := .pointer (some ⟨gw, s, none⟩)) rfl (by kernel_rfl) (by kernel_rfl) (by kernel_rfl) (fun _ _ _ h => h) (Or.inl ⟨by rfl, ?_⟩) hHeld ?_
                  · intro w hSw; obtain ⟨hS1, hS2⟩ := hSw; go_simp; (try with_reducible rfl)
                  (try simp only [Act.put, List.setIfInBounds_toArray, List.set_cons_zero, List.set_cons_succ])
                  refine wpAnyH_ready (rs := [22]) (by kernel_rfl) (by simp) ?_
                  refine held_cons rfl (fun K hK => ?_) AllReadyH.nil
                  go_simp
                  refine hK.out _ _ ?_ (fun _ => ?_)
                  · have hgb : gw ≠ b := fun e => HK9a.out.1.mem.nb .wt (by show (V .wt).ownBlock = _; rw [HW.out.2.2.1, e]; rfl)
                    have hgg : gw ≠ g := fun e => HK9a.out.1.mem.ne .wt (.c a) (by simp) gw (by show (V .wt).ownBlock = _; rw [HW.out.2.2.1]; rfl) (by show (V (.c a)).ownBlock = _; rw [HX.out.2.2.2.2.1, e]; rfl)
                    exact ⟨(World.cell?_setCell_other _ _ _ _ (by simp [])).trans hHeld.1, (World.cell?_setCell_other _ _ _ _ (by simp [])).trans hHeld.2⟩
                  clear hK K
                  (try simp only [Act.put, List.setIfInBounds_toArray, List.set_cons_zero, List.set_cons_succ])
                  refine wpAnyH_done (by kernel_rfl) ?_ _
                  have HEnd := Lib.hid (And.intro hck3 hb4)
                  clear hck3 hb4 hcs3 hfs3 hb3 happ hown hown2 hbox hHeld
                  go_wp2_with fail
                  go_ret2
                  refine ⟨_, true, false, rfl, Or.inl ⟨rfl, rfl, i, hi2, ?_, ?_, ?_⟩, _, HEnd.out.1, HEnd.out.2, fun k hk hw => ?_⟩
                  · rw [HZ.out.2.2.1, HZ.out.2.2.2.1]; exact hgo1
                  · rw [HZ.out.2.2.1, HY.out.1, HY.out.2.2.1]; exact hpos
                  · rw [HZ.out.2.2.1, HY.out.1, HW.out.1]
                  · have hne : k ≠ .w s := fun e => by have := hw s e; simp [setwt] at this
                    simp [updV, hne]
        · have hkyd : decide ((0 : Int) ≤ ky) = false := decide_eq_false hpos
          go_wp2_with fail
          refine HV0.out.mono ?_
          rintro e w1 ⟨rfl, rfl⟩
          go_wp2_with fail
          refine HVy.out.mono ?_
          rintro e w1 ⟨rfl, rfl⟩
          have HPos := Lib.hid hpos
          clear hpos
          go_wp2_with fail
          go_roundw
          case rel =>
            refine ⟨i + 1, by omega, by omega, by go_num, by trivial, fun _ => HY.out.2.2.2.2.2, fun j h1 h2 => ?_⟩
            rcases Nat.lt_or_ge j i with h | h
            · exact HY.out.2.2.2.1 j h1 h
            · obtain rfl : j = i := by omega
              rw [HY.out.1, HY.out.2.2.1]
              have := HPos.out
              omega
          case measure => simp [intOf]; omega
      · by_cases hlt : i < L
        · have hk0p : ¬ k0 ≤ 0 := fun h => hgo ⟨hlt, h⟩
          have hk0d : decide (k0 ≤ 0) = false := decide_eq_false hk0p
          have hii : (i : Int) < L := by omega
          have HE : Hid (0 < k0 ∨ ∀ i, 2 ≤ i → i < L → litV S.val (C.getD i 0) < 0) := Lib.hid (Or.inl (by omega))
          clear hgo hk0p hfalse hk
          go_wp2_with fail
          refine HV0.out.mono ?_
          rintro e w1 ⟨rfl, rfl⟩
          go_wp2_with fail
          have ha := assume_any HZ.out.1 (x := z) (tr := S.trail) HX.out.2.1 HZ.out.2.2.2.2.2.2.1.1 HZ.out.2.2.2.2.2.2.1.2 HX.out.2.2.2.2.2.2.2.2.2.2.2.1 HX.out.2.2.2.2.2.2.2.2.2.2.2.2
          have HA := Lib.hid ha
          clear ha
          refine HA.out.mono ?_
          rintro e w2 ⟨rfl, V2, hk2, hb2, hv2⟩
          obtain ⟨q, hq⟩ : ∃ q, (assumeS (setcl S a C) z).2 = q := ⟨_, rfl⟩
          have HQ := Lib.hid (And.intro hq (And.intro hk2 (And.intro (HZ.out.2.1.trans hb2) hv2)))
          rw [hq]
          clear hq hk2 hb2 hv2
          go_wp2_with fail
          go_ret2
          refine ⟨_, false, !q, rfl, Or.inr ⟨rfl, ?_, ?_, ?_⟩, V2, HQ.out.2.1, HQ.out.2.2.1, fun k hk _ => HQ.out.2.2.2 k hk⟩
          · rw [HZ.out.2.2.1, HZ.out.2.2.2.1, HZ.out.2.2.2.2.2.1, HK0.out]
            exact HE.out
          · rw [HZ.out.2.2.1, HZ.out.2.2.2.2.2.1]
          · rw [HZ.out.2.2.1, HZ.out.2.2.2.2.2.1, HQ.out.1]
        · obtain rfl : i = L := by omega
          have HE : Hid (0 < k0 ∨ ∀ j, 2 ≤ j → j < i → litV S.val (C.getD j 0) < 0) := Lib.hid (Or.inr hfalse)
          clear hgo hlt hfalse hk
          go_wp2_with fail
          have ha := assume_any HZ.out.1 (x := z) (tr := S.trail) HX.out.2.1 HZ.out.2.2.2.2.2.2.1.1 HZ.out.2.2.2.2.2.2.1.2 HX.out.2.2.2.2.2.2.2.2.2.2.2.1 HX.out.2.2.2.2.2.2.2.2.2.2.2.2
          have HA := Lib.hid ha
          clear ha
          refine HA.out.mono ?_
          rintro e w2 ⟨rfl, V2, hk2, hb2, hv2⟩
          obtain ⟨q, hq⟩ : ∃ q, (assumeS (setcl S a C) z).2 = q := ⟨_, rfl⟩
          have HQ := Lib.hid (And.intro hq (And.intro hk2 (And.intro (HZ.out.2.1.trans hb2) hv2)))
          rw [hq]
          clear hq hk2 hb2 hv2
          go_wp2_with fail
          go_ret2
          refine ⟨_, false, !q, rfl, Or.inr ⟨rfl, ?_, ?_, ?_⟩, V2, HQ.out.2.1, HQ.out.2.2.1, fun k hk _ => HQ.out.2.2.2 k hk⟩
          · rw [HZ.out.2.2.1, HZ.out.2.2.2.1, HZ.out.2.2.2.2.2.1, HK0.out]
            exact HE.out
          · rw [HZ.out.2.2.1, HZ.out.2.2.2.2.2.1]
          · rw [HZ.out.2.2.1, HZ.out.2.2.2.2.2.1, HQ.out.1]
end Go.Proofs.Ytcifiibpiooeiaa
