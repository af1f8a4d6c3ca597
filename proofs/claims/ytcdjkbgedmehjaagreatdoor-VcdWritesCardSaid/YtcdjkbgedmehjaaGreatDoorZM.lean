/- Texts of this claim, one behind another: W5. They state lemmas; each names its own conditions. -/
import Derived.Test.YtcdjkbgedmehjaaGreatDoorZL
namespace Go.Proofs.YtcdjkbgedmehjaaGreatDoor
set_option linter.unusedVariables false
open Go.RowKit Go.Sort

/-! # few -/
theorem take_snoc' {α : Type} (l : List α) (i : Nat) (x : α) (h : l[i]? = some x) : l.take (i + 1) = l.take i ++ [x] := by
  have hi : i < l.length := (List.getElem?_eq_some_iff.1 h).1
  rw [List.take_succ_eq_append_getElem hi]
  rw [List.getElem?_eq_getElem hi] at h
  cases h; rfl
theorem take_stop {α : Type} (l : List α) (i k : Nat) (hi : i ≤ l.length) (hk : i ≤ k) (h : ¬ (i < l.length ∧ i < k)) : l.take i = l.take k := by
  by_cases h1 : i < l.length
  · have : i = k := by omega
    rw [this]
  · rw [List.take_of_length_le (by omega), List.take_of_length_le (by omega)]
theorem LG.ref2 {BT : Nat} {W1 w w' : World} {top vv tv : Value} {tp : Bs} {vs : List (Bs × Int)} {n : Nat} {rs : List RowV} {cur : RowV} {els : List EL} {rows : List (List (List Bool))} (h : LG fkt fks 25 top BT W1 w (vv, n, icells vs) tv rs cur els) (hn : vs.length = n) (hold : ∀ g, BT ≤ g → w'.heap[g]? = w.heap[g]?) (ht : top = .string (bstr tp)) (hr : RowsR w' rs rows) : RefR w' (.agg #[top, vv, tv]) ⟨tp, vs, rows⟩ := by
  subst ht; subst hn
  exact ⟨⟨vv, tv, rs, rfl, RO.own (ownsRow_keep h.varsO fun g hg => hold g (h.m.mem.lts .vars g hg).1), RO.own (ownsRow_keep h.valsO fun g hg => hold g (h.m.mem.lts .vals g hg).1), hr.len, fun i r row a c => ⟨RO.own (ownsRow_keep (h.rowO a) fun g hg => hold g (own_lt (h.rowO a) g hg).1), hr.at_ i r row a c⟩⟩⟩
set_option maxRecDepth 100000 in
set_option maxHeartbeats 16000000 in
theorem few_any {w0 w : World} {tv : Value} {T : Trf} (h : RefR w0 tv T) (hb0 : Below w0.heap.size w0 w) : Calls Tryz.prog 5 #[tv] w fun e w' => ∃ tv', e = .returned tv' ∧ (∀ w'', Below w0.heap.size w0 w'' → (∀ g, w.heap.size + 2 ≤ g → w''.heap[g]? = w'.heap[g]?) → RefR w'' tv' (fewT T)) ∧ Below w.heap.size w w' := by
  obtain ⟨vv, rv, rs, rfl, hvv, hrv, hrl, hrow⟩ := h.ex
  obtain ⟨pv, cv, rfl⟩ := hvv.form
  obtain ⟨pr, cr, rfl⟩ := hrv.form
  replace hvv := hvv.below hb0
  replace hrv := hrv.below hb0
  replace hrow : ∀ (i : Nat) (r : RowV) (row : List (List Bool)), rs[i]? = some r → T.rows[i]? = some row → RO w r.1 1 r.2.1 r.2.2 ∧ RowR w0 r row := fun i r row a c => ⟨(hrow i r row a c).1.below hb0, (hrow i r row a c).2⟩
  clear hb0
  have hw1 := Below.new w (.cells #[.string (bstr T.top), .slice pv T.vars.length cv, .slice pr rs.length cr] 25)
  have hk1 := Blk.new (w := w) 25 [.string (bstr T.top), .slice pv T.vars.length cv, .slice pr rs.length cr]
  obtain ⟨wa, hwa⟩ : ∃ wa, w.alloc (.cells #[.string (bstr T.top), .slice pv T.vars.length cv, .slice pr rs.length cr] 25) = wa := ⟨_, rfl⟩
  have hsa : wa.heap.size = w.heap.size + 1 := by rw [← hwa, World.size_alloc]
  have hw2 := Below.new wa (.cells #[.string ⟨#[]⟩, .slice none 0 0, .slice none 0 0] 25)
  have hk2 := Blk.new (w := wa) 25 [.string ⟨#[]⟩, .slice none 0 0, .slice none 0 0]
  obtain ⟨wb, hwb⟩ : ∃ wb, wa.alloc (.cells #[.string ⟨#[]⟩, .slice none 0 0, .slice none 0 0] 25) = wb := ⟨_, rfl⟩
  have hsb : wb.heap.size = w.heap.size + 1 + 1 := by rw [← hwb, World.size_alloc, hsa]
  have hw3 := Below.new wb (.cells #[.string (bstr T.top), .slice none 0 0, .slice none 0 0] 25)
  have hk3 := Blk.new (w := wb) 25 [.string (bstr T.top), .slice none 0 0, .slice none 0 0]
  have HZ := Lib.hid (LG.zero (kt := fkt) (ks := fks) hk3 hw3)
  rw [hwa] at hw1 hk1
  rw [hwb] at hw2 hk2
  have HS : Hid (∀ wx, Below wb.heap.size wb wx → Below w.heap.size w wx ∧ Blk wx w.heap.size 25 [.string (bstr T.top), .slice pv T.vars.length cv, .slice pr rs.length cr] ∧ Blk wx (w.heap.size + 1) 25 [.string ⟨#[]⟩, .slice none 0 0, .slice none 0 0]) := Lib.hid fun wx hb => by
    have hbb := hw2.trans (hb.mono hw2.size)
    refine ⟨hw1.trans (hbb.mono hw1.size), hk1.next hbb, ?_⟩
    rw [← hsa]; exact hk2.next hb
  have HT := Lib.hid (And.intro hvv (And.intro hrv (And.intro hrl hrow)))
  have HSB := Lib.hid hsb
  have HWA := Lib.hid hwa
  have HWB := Lib.hid hwb
  clear h hvv hrv hrl hrow hw1 hk1 hw2 hk2 hw3 hk3 hsa hsb hwa hwb
  generalize hn : T.vars.length = n at *
  generalize hm : rs.length = m at *
  generalize hX : bstr T.top = X at *
  go_enter Tryz.func5, Tryz.ntmps5
  go_upto_region 3 with fail
  rw [HWA.out, HWB.out]
  rw [HSB.out] at HZ HS
  generalize wb.alloc (.cells #[.string X, .slice none 0 0, .slice none 0 0] 25) = wc at *
  generalize hBT : w.heap.size + 1 + 1 = BT at *
  have hS1 : w.heap.size + 1 < BT := by omega
  generalize hSS : w.heap.size + 1 = S1 at *
  have hS0 : w.heap.size < BT := by omega
  obtain ⟨S, hS⟩ : ∃ S, w.heap.size = S := ⟨_, rfl⟩
  rw [hS] at hS0 HS ⊢
  go_loopw [4] (fun iv wr => ∃ (i : Nat) (vv : Value), i ≤ n ∧ i ≤ 12 ∧ iv = .int .i64 i ∧ LG fkt fks 25 (.string X) BT wb wr (vv, i, icells (T.vars.take i)) (.slice none 0 0) [] nilR []) (fun iv _ => 12 - (intOf iv).toNat)
  case atStart => exact ⟨0, _, Nat.zero_le _, Nat.zero_le _, rfl, HZ.out⟩
  case round =>
    obtain ⟨i, ov, hi, hi12, rfl, hlg⟩ := hrel
    obtain ⟨pq, cq, e⟩ := ownsRow_form hlg.varsO
    simp only at e
    subst e
    have HL := Lib.hid hlg
    clear hlg
    obtain ⟨hbw, hkS, hkR⟩ := HS.out wr HL.out.bel
    have q0 := HL.out.blk.cell (i := 1) rfl
    have q1 := hkS.cell (i := 1) rfl
    have HB := Lib.hid (And.intro hbw (And.intro hkS hkR))
    clear hbw hkS hkR
    by_cases hin : i < n
    · by_cases hik : i < 12
      · have hvi : T.vars[i]? = some T.vars[i] := List.getElem?_eq_getElem (by omega)
        have hro := HT.out.1.below (by rw [hS]; exact HB.out.1)
        obtain ⟨vb, vo, rfl⟩ := hro.sl (icells_at _ _ _ hvi).1
        have q2 := hro.cell (icells_at _ _ _ hvi).1
        have q3 := hro.cell (icells_at _ _ _ hvi).2
        rw [← Nat.add_assoc] at q3
        have HV := Lib.hid (take_snoc' T.vars i _ hvi)
        obtain ⟨y, hy⟩ : ∃ y, T.vars[i] = y := ⟨_, rfl⟩
        rw [hy] at HV q2 q3
        clear hro hvi hy
        obtain ⟨A, hA⟩ : ∃ A, bstr y.1 = A := ⟨_, rfl⟩
        obtain ⟨D, hD⟩ : ∃ D, y.2 = D := ⟨_, rfl⟩
        rw [hA] at q2
        rw [hD] at q3
        have hii : (i : Int) < n := by omega
        have hik' : (i : Int) < 12 := by omega
        have hi0 : (0 : Int) ≤ i := by omega
        have hiw : IntKind.i64.wrap ((i : Int) + 1) = (i : Int) + 1 := i64_of (by omega)
        have HX := Lib.hid (And.intro hin (And.intro hik (And.intro hA hD)))
        clear hin hik hi hi12 hA hD
        go_upto_region 5 with fail
        have HTN := Lib.hid (Tr.nil wr)
        refine wp_region_webC (w0 := wr) [.known (.pointer (some ⟨BT, 1, none⟩)), .known (.slice pq i cq), .known (.pointer (some ⟨S, 1, none⟩)), .known (.slice (some ⟨vb, vo, none⟩) n cv), .rel (fun v W => v = .int .i64 i) (fun _ => []), .known (.pointer (some ⟨vb, vo + i * 2, none⟩)), .known (.agg #[.string A, .int .i64 D]), .rel (fun v W => ∃ L, v = .slice (some ⟨L, 0, none⟩) 1 1 ∧ Blk W L 53 [.string A, .int .i64 D]) (fun _ => [])] [1, 1, 1, 1, 2, 1, 1, 1] [] 31 3 #[true, true, true, true, true, true, true, true, false, false, false] (by kernel_rfl) (by kernel_rfl) rfl rfl rfl (Nat.le_of_ble_eq_true rfl) ⟨Sp.Mono.known, Sp.Mono.known, Sp.Mono.known, Sp.Mono.known, (fun _ _ _ _ h => h), Sp.Mono.known, Sp.Mono.known, (by rintro u w w1 hb ⟨L, rfl, hk⟩; exact ⟨L, rfl, hk.next hb⟩), trivial⟩ HTN.out.drew (fun _ _ _ _ _ h => h) (A := ?_) ?_ ?_ ?_
        rotate_left
        · intro u
          simp only [fillC, Sp.val, Nat.reduceBEq, cond_false, Act.put, List.setIfInBounds_toArray, List.set_cons_zero, List.set_cons_succ]
          rfl
        refine ob_yes (web_op (o := _) rfl (fun u W hT hd Q K hK => ?_)) ?_
        · (try simp only [Act.put, List.setIfInBounds_toArray, List.set_cons_zero, List.set_cons_succ] at hK)
          have ca0 : W.cell? _ = some _ := After.cell q0 ⟨W, hT.bel⟩
          have ca1 : W.cell? _ = some _ := After.cell q1 ⟨W, hT.bel⟩
          have ca2 : W.cell? _ = some _ := After.cell q2 ⟨W, hT.bel⟩
          have ca3 : W.cell? _ = some _ := After.cell q3 ⟨W, hT.bel⟩
          go_simp
          exact hK.out _ _ (Below.refl _ _) rfl (fun p hp => by cases hp) List.nodup_nil
        refine ob_yes (web_op (o := _) rfl (fun u W hT hd Q K hK => ?_)) ?_
        · (try simp only [Act.put, List.setIfInBounds_toArray, List.set_cons_zero, List.set_cons_succ] at hK)
          have ca0 : W.cell? _ = some _ := After.cell q0 ⟨W, hT.bel⟩
          have ca1 : W.cell? _ = some _ := After.cell q1 ⟨W, hT.bel⟩
          have ca2 : W.cell? _ = some _ := After.cell q2 ⟨W, hT.bel⟩
          have ca3 : W.cell? _ = some _ := After.cell q3 ⟨W, hT.bel⟩
          go_simp
          exact hK.out _ _ (Below.refl _ _) rfl (fun p hp => by cases hp) List.nodup_nil
        refine ob_yes (web_op (o := _) rfl (fun u W hT hd Q K hK => ?_)) ?_
        · (try simp only [Act.put, List.setIfInBounds_toArray, List.set_cons_zero, List.set_cons_succ] at hK)
          have ca0 : W.cell? _ = some _ := After.cell q0 ⟨W, hT.bel⟩
          have ca1 : W.cell? _ = some _ := After.cell q1 ⟨W, hT.bel⟩
          have ca2 : W.cell? _ = some _ := After.cell q2 ⟨W, hT.bel⟩
          have ca3 : W.cell? _ = some _ := After.cell q3 ⟨W, hT.bel⟩
          go_simp
          exact hK.out _ _ (Below.refl _ _) rfl (fun p hp => by cases hp) List.nodup_nil
        refine ob_yes (web_op (o := _) rfl (fun u W hT hd Q K hK => ?_)) ?_
        · (try simp only [Act.put, List.setIfInBounds_toArray, List.set_cons_zero, List.set_cons_succ] at hK)
          have ca0 : W.cell? _ = some _ := After.cell q0 ⟨W, hT.bel⟩
          have ca1 : W.cell? _ = some _ := After.cell q1 ⟨W, hT.bel⟩
          have ca2 : W.cell? _ = some _ := After.cell q2 ⟨W, hT.bel⟩
          have ca3 : W.cell? _ = some _ := After.cell q3 ⟨W, hT.bel⟩
          go_simp
          exact hK.out _ _ (Below.refl _ _) rfl (fun p hp => by cases hp) List.nodup_nil
        refine ob_pure (web_pure (o := _) rfl (fun u W hT hd => ?_)) ?_
        · have ca0 : W.cell? _ = some _ := After.cell q0 ⟨W, hT.bel⟩
          have ca1 : W.cell? _ = some _ := After.cell q1 ⟨W, hT.bel⟩
          have ca2 : W.cell? _ = some _ := After.cell q2 ⟨W, hT.bel⟩
          have ca3 : W.cell? _ = some _ := After.cell q3 ⟨W, hT.bel⟩
          exact ⟨_, Or.inl ⟨rfl, fun w => rfl⟩, rfl, rfl⟩
        refine ob_yes (web_op (o := _) rfl (fun u W hT hd Q K hK => ?_)) ?_
        · have d4 := hd 4 (by kernel_rfl)
          generalize u 4 = x4 at *
          obtain rfl := d4
          (try simp only [Act.put, List.setIfInBounds_toArray, List.set_cons_zero, List.set_cons_succ] at hK)
          have ca0 : W.cell? _ = some _ := After.cell q0 ⟨W, hT.bel⟩
          have ca1 : W.cell? _ = some _ := After.cell q1 ⟨W, hT.bel⟩
          have ca2 : W.cell? _ = some _ := After.cell q2 ⟨W, hT.bel⟩
          have ca3 : W.cell? _ = some _ := After.cell q3 ⟨W, hT.bel⟩
          go_simp
          exact hK.out _ _ (Below.refl _ _) rfl (fun p hp => by cases hp) List.nodup_nil
        refine ob_yes (web_op (o := _) rfl (fun u W hT hd Q K hK => ?_)) ?_
        · (try simp only [Act.put, List.setIfInBounds_toArray, List.set_cons_zero, List.set_cons_succ] at hK)
          have ca0 : W.cell? _ = some _ := After.cell q0 ⟨W, hT.bel⟩
          have ca1 : W.cell? _ = some _ := After.cell q1 ⟨W, hT.bel⟩
          have ca2 : W.cell? _ = some _ := After.cell q2 ⟨W, hT.bel⟩
          have ca3 : W.cell? _ = some _ := After.cell q3 ⟨W, hT.bel⟩
          go_simp
          exact hK.out _ _ (Below.refl _ _) rfl (fun p hp => by cases hp) List.nodup_nil
        refine ob_yes (web_op (o := _) rfl (fun u W hT hd Q K hK => ?_)) ?_
        · (try simp only [Act.put, List.setIfInBounds_toArray, List.set_cons_zero, List.set_cons_succ] at hK)
          have ca0 : W.cell? _ = some _ := After.cell q0 ⟨W, hT.bel⟩
          have ca1 : W.cell? _ = some _ := After.cell q1 ⟨W, hT.bel⟩
          have ca2 : W.cell? _ = some _ := After.cell q2 ⟨W, hT.bel⟩
          have ca3 : W.cell? _ = some _ := After.cell q3 ⟨W, hT.bel⟩
          go_simp
          exact hK.out _ _ (Below.new _ _) ⟨_, rfl, Blk.new _ _⟩ (fun p hp => by cases hp) List.nodup_nil
        exact ob_nil
        intro u wx hT hok
        obtain ⟨h0, h1, h2, h3, h4, h5, h6, h7, _⟩ := hok
        clear h0 h1 h2 h3 h4 h5 h6
        simp only [ownsC, Sp.own, Nat.reduceBEq, cond_false, List.append_nil] at hT
        have d7 := h7 (by kernel_rfl)
        clear h7
        generalize u 7 = x7 at *
        obtain ⟨L, rfl, hk7⟩ := d7
        (try dsimp only [List.nil_append, List.cons_append] at hT)
        have HTE := Lib.hid hT
        clear hT
        refine wpAny_of_held (S := fun _ => True) _ _ _ _ ?_
        have hls := HL.out.below HTE.out.bel
        have hov := hls.varsO
        have c1 := hls.blk.cell (i := 1) rfl
        have f1 := hls.blk.frz 1
        have HA := Lib.hid (And.intro hov (And.intro (RO.own (hk7.own (n := 1) (size := 2) rfl (by decide) 0 (Nat.zero_le _))) (And.intro hls.ge hls)))
        clear hov hls hk7 q0 q1 q2 q3
        refine wpAnyH_ready (rs := [8]) (by kernel_rfl) (by simp) ?_
        refine held_cons rfl (fun K hK => step_appR rfl _ _ 22 rfl FVars BT (.slice pq i cq) i _ rfl HA.out.1 _ 1 _ rfl HA.out.2.1 (by simp [Value.oneCell']) (by omega) (by omega) HA.out.2.2.1 ?_) AllReadyH.nil
        intro v4 w4 happ
        obtain ⟨p6, c6', ev4⟩ := ownsRow_form happ.own
        subst ev4
        have e6 := HA.out.2.2.2.keepB .vars happ
        have c1' := (World.cell?_of_block (a := ⟨BT, 1, none⟩) e6).trans c1
        have f1' := (World.frozen?_of_block (a := ⟨BT, 1, none⟩) e6).trans f1
        have HP := Lib.hid happ
        clear happ e6 c1 f1
        refine hK.out _ _ trivial (fun _ => ?_)
        clear hK K
        (try simp only [Act.put, List.setIfInBounds_toArray, List.set_cons_zero, List.set_cons_succ])
        refine held_take (i := 9) (v := .pointer (some ⟨BT, 1, none⟩)) rfl (by kernel_rfl) (by kernel_rfl) (by kernel_rfl) (fun _ _ _ h => h) (Or.inl ⟨by rfl, ?_⟩) trivial ?_
        · intro w hSw; go_simp; (try with_reducible rfl)
        (try simp only [Act.put, List.setIfInBounds_toArray, List.set_cons_zero, List.set_cons_succ])
        refine wpAnyH_ready (rs := [10]) (by kernel_rfl) (by simp) ?_
        refine held_cons rfl (fun K hK => ?_) AllReadyH.nil
        go_simp
        refine hK.out _ _ trivial (fun _ => ?_)
        clear hK K
        (try simp only [List.setIfInBounds_toArray, List.set_cons_zero, List.set_cons_succ])
        refine wpAnyH_done (by kernel_rfl) ?_ _
        have hq : AppR BT 53 2 wx (.slice pq i cq) (i + 1) (icells (T.vars.take (i + 1))) (.slice p6 (i + 1) c6') w4 := by
          have := HP.out
          rw [HV.out, ← icells_snoc, HX.out.2.2.1, HX.out.2.2.2]
          exact this
        have hls5 := HA.out.2.2.2.appV hq
        have H5 := Lib.hid hls5
        clear hq hls5 c1' f1' HP HA HTE HTN
        generalize w4.setCell ⟨BT, 1, none⟩ (.slice p6 (i + 1) c6') = w5 at *
        go_wp2_with fail
        go_roundw
        case rel => exact ⟨i + 1, _, HX.out.1, HX.out.2.1, by go_num, H5.out⟩
        case measure => have := HX.out.2.1; simp [intOf]; omega
      · have hii : (i : Int) < n := by omega
        have hik' : ¬ (i : Int) < 12 := by omega
        have hst := take_stop T.vars i 12 (by omega) hi12 (by omega)
        have hln : (T.vars.take 12).length = i := by rw [← hst, List.length_take]; omega
        have hL := HL.out
        rw [hst] at hL
        have HL2 := Lib.hid hL
        have HLn := Lib.hid hln
        clear hst hL HL hln q0
        go_wp2_with fail
        go_loopw [5, 6, 7, 8] (fun kv _ _ _ wr => ∃ (k : Nat) (tvv : Value) (rs' : List RowV), k ≤ m ∧ k ≤ 12 ∧ kv = .int .i64 k ∧ LG fkt fks 25 (.string X) BT wb wr (.slice pq i cq, i, icells (T.vars.take 12)) tvv rs' nilR [] ∧ RowsR w0 rs' ((T.rows.take k).map fewRow)) (fun kv _ _ _ _ => 12 - (intOf kv).toNat)
        case atStart => exact ⟨0, _, [], Nat.zero_le _, Nat.zero_le _, rfl, HL2.out, RowsR.nil w0⟩
        case round =>
          obtain ⟨k, tvv, rs', hk, hk12, rfl, hlg, hrr⟩ := hrel
          have hrl : rs'.length = k := by have := hrr.len; rw [this]; have := HT.out.2.2.1; simp; omega
          obtain ⟨pt, ct, e⟩ := ownsRow_form hlg.valsO
          rw [hrl] at e
          subst e
          obtain ⟨hbw, hkS, hkR⟩ := HS.out _ hlg.bel
          have q1 := hkS.cell (i := 2) rfl
          have HB2 := Lib.hid (And.intro hbw (And.intro hkS hkR))
          have HR := Lib.hid (And.intro hlg (And.intro hrr hrl))
          clear hbw hkS hkR hlg hrr hrl
          by_cases hkm : k < m
          · have hkk : (k : Int) < m := by omega
            by_cases hkl : k < 12
            · have hkl' : (k : Int) < 12 := by omega
              obtain ⟨r, hr⟩ : ∃ r, rs[k]? = some r := ⟨_, List.getElem?_eq_getElem (by omega)⟩
              obtain ⟨row, hrow⟩ : ∃ row, T.rows[k]? = some row := ⟨_, List.getElem?_eq_getElem (by have := HT.out.2.2.1; omega)⟩
              obtain ⟨hrr1, hrr2⟩ := HT.out.2.2.2 k r row hr hrow
              have hrv := HT.out.2.1.below (by rw [hS]; exact HB2.out.1)
              obtain ⟨rb, ro, rfl⟩ := hrv.sl (show (rs.map (·.1))[k]? = some r.1 by rw [List.getElem?_map, hr]; rfl)
              have q2 := hrv.cell (show (rs.map (·.1))[k]? = some r.1 by rw [List.getElem?_map, hr]; rfl)
              obtain ⟨r1, rn, rc⟩ := r
              have hrn : rn = row.length := hrr2.n
              subst hrn
              obtain ⟨p1, c1, e⟩ := hrr1.form
              (try simp only at e)
              subst e
              have HV := Lib.hid (take_snoc' T.rows k _ hrow)
              have HE := Lib.hid (And.intro hrr1 (And.intro hrr2 (And.intro hrow hr)))
              have hk0 : (0 : Int) ≤ k := by omega
              have hkw : IntKind.i64.wrap ((k : Int) + 1) = (k : Int) + 1 := i64_of (by omega)
              have HX := Lib.hid (And.intro hkm hkl)
              clear hr hrow hrr1 hrr2 hrv hkm hkl hk hk12
              (try simp only at q2)
              generalize hN : row.length = N at *
              clear q2
              go_wp2_with fail
              go_loopw [6, 7, 8] (fun lv jv _ wr => ∃ (j : Nat) (cur : RowV), j ≤ N ∧ j ≤ 14 ∧ jv = .int .i64 j ∧ lv = cur.1 ∧ LG fkt fks 25 (.string X) BT wb wr (.slice pq i cq, i, icells (T.vars.take 12)) (.slice pt k ct) rs' cur [] ∧ RowR w0 cur ((row.take j).map fun l => l.take 128)) (fun _ jv _ _ => 14 - (intOf jv).toNat)
              case atStart => exact ⟨0, nilR, Nat.zero_le _, Nat.zero_le _, rfl, rfl, HR.out.1, RowR.nil w0⟩
              case round =>
                obtain ⟨j, cur, hj, hj14, rfl, rfl, hlg, hcr⟩ := hrel
                obtain ⟨cv1, cn, cc⟩ := cur
                have hcn : cn = j := by have h0 := hcr.n; have h1 : cn = ((row.take j).map fun l => l.take 128).length := h0; rw [List.length_map, List.length_take] at h1; omega
                subst hcn
                obtain ⟨pc, ccap, e⟩ := ownsRow_form hlg.curO
                (try simp only at e)
                subst e
                obtain ⟨hbw, hkS, hkR⟩ := HS.out _ hlg.bel
                have q1 := hkS.cell (i := 2) rfl
                have hrv := HT.out.2.1.below (by rw [hS]; exact hbw)
                have q2 := hrv.cell (j := k) (show (rs.map (·.1))[k]? = some (.slice p1 N c1) by rw [List.getElem?_map, HE.out.2.2.2]; rfl)
                have HC := Lib.hid (And.intro hlg (And.intro hcr hbw))
                clear hkS hkR hrv hlg hcr hbw
                by_cases hjN : cn < N
                · have hjj : (cn : Int) < N := by omega
                  by_cases hj4 : cn < 14
                  · have hj4' : (cn : Int) < 14 := by omega
                    obtain ⟨b, hb⟩ : ∃ b, rc[cn]? = some b := ⟨_, List.getElem?_eq_getElem (by have h0 : rc.length = row.length := HE.out.2.1.len; omega)⟩
                    obtain ⟨l, hl⟩ : ∃ l, row[cn]? = some l := ⟨_, List.getElem?_eq_getElem (by omega)⟩
                    have hbl := HE.out.2.1.at_ cn b l hb hl
                    obtain ⟨pb, cb, rfl, hcb⟩ := hbl.cap
                    have hrr1 := HE.out.1.below (by rw [hS]; exact HC.out.2.2)
                    (try simp only at hrr1)
                    obtain ⟨r1b, r1o, rfl⟩ := hrr1.sl hb
                    have q3 := hrr1.cell hb
                    have HV2 := Lib.hid (take_snoc' row cn _ hl)
                    have HBL := Lib.hid hbl
                    have hj0 : (0 : Int) ≤ cn := by omega
                    have hjw : IntKind.i64.wrap ((cn : Int) + 1) = (cn : Int) + 1 := i64_of (by omega)
                    clear hb hl hbl hrr1
                    by_cases h128 : 128 < l.length
                    · have h128' : (128 : Int) < l.length := by omega
                      have hcb1 : (128 : Int) ≤ cb := by omega
                      have hcb2 : 128 ≤ cb := by omega
                      obtain ⟨bb, bo, rfl⟩ := HBL.out.ro.sl (j := 0) (u := .bool (l.getD 0 false)) (by rw [bools_getElem?, List.getD_eq_getElem?_getD, List.getElem?_eq_getElem (by omega)]; rfl)
                      have hbv := HBL.out.cut (k := 128) (by omega)
                      have hbx := Below.new wr (.cells #[.slice (some ⟨bb, bo, none⟩) 128 cb] 55)
                      have hkx := Blk.new (w := wr) 55 [.slice (some ⟨bb, bo, none⟩) 128 cb]
                      have hls := HC.out.1.below hbx
                      have HA := Lib.hid (And.intro hls.curO (And.intro (RO.own (hkx.own (n := 1) (size := 1) rfl (by decide) 0 (Nat.zero_le _))) (And.intro hls.ge (And.intro hls hbv))))
                      have HX2 := Lib.hid (And.intro hjN hj4)
                      clear hbx hkx hls hbv hjN hj4 hj hj14
                      go_wp2_with (at_builtin; refine wpList_appR rfl _ _ 54 rfl FRow BT (.slice pc cn ccap) cn _ rfl HA.out.1 _ 1 _ rfl HA.out.2.1 (by simp [Value.oneCell']) (by omega) (by omega) HA.out.2.2.1 ?_; intro v8 w8 happ; obtain ⟨p8, c8, ev8⟩ := ownsRow_form happ.own; subst ev8; have HP := Lib.hid happ; clear happ)
                      have hls8 := HA.out.2.2.2.1.appC HP.out
                      have hcr8 : RowR w0 (.slice p8 (cn + 1) c8, cn + 1, cc ++ [.slice (some ⟨bb, bo, none⟩) 128 cb]) ((row.take (cn + 1)).map fun l => l.take 128) := by
                        rw [HV2.out, List.map_append]
                        exact HC.out.2.1.snoc HA.out.2.2.2.2
                      have H8 := Lib.hid (And.intro hls8 hcr8)
                      clear hls8 hcr8 HP
                      go_roundw
                      case rel => exact ⟨cn + 1, (.slice p8 (cn + 1) c8, cn + 1, cc ++ [.slice (some ⟨bb, bo, none⟩) 128 cb]), HX2.out.1, HX2.out.2, by go_num, rfl, H8.out.1, H8.out.2⟩
                      case measure => have := HX2.out.2; simp [intOf]; omega
                    · have h128' : ¬ (128 : Int) < l.length := by omega
                      have hbv : RB w0 (.slice pb l.length cb) (l.take 128) := by rw [List.take_of_length_le (by omega)]; exact HBL.out
                      have hbx := Below.new wr (.cells #[.slice pb l.length cb] 55)
                      have hkx := Blk.new (w := wr) 55 [.slice pb l.length cb]
                      have hls := HC.out.1.below hbx
                      have HA := Lib.hid (And.intro hls.curO (And.intro (RO.own (hkx.own (n := 1) (size := 1) rfl (by decide) 0 (Nat.zero_le _))) (And.intro hls.ge (And.intro hls hbv))))
                      have HX2 := Lib.hid (And.intro hjN hj4)
                      clear hbx hkx hls hbv hjN hj4 hj hj14
                      go_wp2_with (at_builtin; refine wpList_appR rfl _ _ 54 rfl FRow BT (.slice pc cn ccap) cn _ rfl HA.out.1 _ 1 _ rfl HA.out.2.1 (by simp [Value.oneCell']) (by omega) (by omega) HA.out.2.2.1 ?_; intro v8 w8 happ; obtain ⟨p8, c8, ev8⟩ := ownsRow_form happ.own; subst ev8; have HP := Lib.hid happ; clear happ)
                      have hls8 := HA.out.2.2.2.1.appC HP.out
                      have hcr8 : RowR w0 (.slice p8 (cn + 1) c8, cn + 1, cc ++ [.slice pb l.length cb]) ((row.take (cn + 1)).map fun l => l.take 128) := by
                        rw [HV2.out, List.map_append]
                        exact HC.out.2.1.snoc HA.out.2.2.2.2
                      have H8 := Lib.hid (And.intro hls8 hcr8)
                      clear hls8 hcr8 HP
                      go_roundw
                      case rel => exact ⟨cn + 1, (.slice p8 (cn + 1) c8, cn + 1, cc ++ [.slice pb l.length cb]), HX2.out.1, HX2.out.2, by go_num, rfl, H8.out.1, H8.out.2⟩
                      case measure => have := HX2.out.2; simp [intOf]; omega
                  · have hj4' : ¬ (cn : Int) < 14 := by omega
                    have hst := take_stop row cn 14 (by omega) hj14 (by omega)
                    have hrw : RowR w0 (.slice pc cn ccap, cn, cc) (fewRow row) := by
                      have := HC.out.2.1
                      rw [hst] at this
                      exact this
                    have hrs := HR.out.2.1.snoc hrw
                    have e1 : (T.rows.take k).map fewRow ++ [fewRow row] = (T.rows.take (k + 1)).map fewRow := by rw [HV.out, List.map_append]; rfl
                    rw [e1] at hrs
                    have c2 := HC.out.1.blk.cell (i := 2) rfl
                    have f2 := HC.out.1.blk.frz 2
                    have hbx := Below.new wr (.cells #[.slice pc cn ccap] 54)
                    have hkx := Blk.new (w := wr) 54 [.slice pc cn ccap]
                    have hls := HC.out.1.below hbx
                    have hvo := hls.valsO
                    rw [HR.out.2.2] at hvo
                    have HA := Lib.hid (And.intro hvo (And.intro (RO.own (hkx.own (n := 1) (size := 1) rfl (by decide) 0 (Nat.zero_le _))) (And.intro hls.ge (And.intro hls (And.intro (hbx.block BT HC.out.1.blk.lt) hrs)))))
                    clear hbx hkx hls hvo hrs hrw hst e1
                    go_upto_region 8 with (at_builtin; refine wpList_appR rfl _ _ 23 rfl FRows BT (.slice pt k ct) k _ rfl HA.out.1 _ 1 _ rfl HA.out.2.1 (by simp [Value.oneCell']) (by omega) (by omega) HA.out.2.2.1 ?_; intro v4 w4 happ; obtain ⟨p6, c6', ev4⟩ := ownsRow_form happ.own; subst ev4; have e6 := (HA.out.2.2.2.1.keepB .vals happ).trans HA.out.2.2.2.2.1; have c2' := (World.cell?_of_block (a := ⟨BT, 2, none⟩) e6).trans c2; have f2' := (World.frozen?_of_block (a := ⟨BT, 2, none⟩) e6).trans f2; have HP := Lib.hid happ; clear happ e6)
                    have hq : AppR BT 54 1 (wr.alloc (.cells #[.slice pc cn ccap] 54)) (.slice pt k ct) (rs'.length + 1) (rs'.map (·.1) ++ [.slice pc cn ccap]) (.slice p6 (k + 1) c6') w4 := by
                      rw [HR.out.2.2]
                      exact HP.out
                    have hls5 := HA.out.2.2.2.1.push hq
                    have H5 := Lib.hid hls5
                    clear hq hls5 c2 f2 c2' f2' HP
                    generalize w4.setCell ⟨BT, 2, none⟩ (.slice p6 (k + 1) c6') = w5 at *
                    go_wp2_with fail
                    go_roundw
                    case rel => exact ⟨k + 1, _, _, HX.out.1, HX.out.2, by go_num, H5.out, HA.out.2.2.2.2.2⟩
                    case measure => have := HX.out.2; simp [intOf]; omega
                · have hjj : ¬ (cn : Int) < N := by omega
                  have hst := take_stop row cn 14 (by omega) hj14 (by omega)
                  have hrw : RowR w0 (.slice pc cn ccap, cn, cc) (fewRow row) := by
                    have := HC.out.2.1
                    rw [hst] at this
                    exact this
                  have hrs := HR.out.2.1.snoc hrw
                  have e1 : (T.rows.take k).map fewRow ++ [fewRow row] = (T.rows.take (k + 1)).map fewRow := by rw [HV.out, List.map_append]; rfl
                  rw [e1] at hrs
                  have c2 := HC.out.1.blk.cell (i := 2) rfl
                  have f2 := HC.out.1.blk.frz 2
                  have hbx := Below.new wr (.cells #[.slice pc cn ccap] 54)
                  have hkx := Blk.new (w := wr) 54 [.slice pc cn ccap]
                  have hls := HC.out.1.below hbx
                  have hvo := hls.valsO
                  rw [HR.out.2.2] at hvo
                  have HA := Lib.hid (And.intro hvo (And.intro (RO.own (hkx.own (n := 1) (size := 1) rfl (by decide) 0 (Nat.zero_le _))) (And.intro hls.ge (And.intro hls (And.intro (hbx.block BT HC.out.1.blk.lt) hrs)))))
                  clear hbx hkx hls hvo hrs hrw hst e1
                  go_upto_region 8 with (at_builtin; refine wpList_appR rfl _ _ 23 rfl FRows BT (.slice pt k ct) k _ rfl HA.out.1 _ 1 _ rfl HA.out.2.1 (by simp [Value.oneCell']) (by omega) (by omega) HA.out.2.2.1 ?_; intro v4 w4 happ; obtain ⟨p6, c6', ev4⟩ := ownsRow_form happ.own; subst ev4; have e6 := (HA.out.2.2.2.1.keepB .vals happ).trans HA.out.2.2.2.2.1; have c2' := (World.cell?_of_block (a := ⟨BT, 2, none⟩) e6).trans c2; have f2' := (World.frozen?_of_block (a := ⟨BT, 2, none⟩) e6).trans f2; have HP := Lib.hid happ; clear happ e6)
                  have hq : AppR BT 54 1 (wr.alloc (.cells #[.slice pc cn ccap] 54)) (.slice pt k ct) (rs'.length + 1) (rs'.map (·.1) ++ [.slice pc cn ccap]) (.slice p6 (k + 1) c6') w4 := by
                    rw [HR.out.2.2]
                    exact HP.out
                  have hls5 := HA.out.2.2.2.1.push hq
                  have H5 := Lib.hid hls5
                  clear hq hls5 c2 f2 c2' f2' HP
                  generalize w4.setCell ⟨BT, 2, none⟩ (.slice p6 (k + 1) c6') = w5 at *
                  go_wp2_with fail
                  go_roundw
                  case rel => exact ⟨k + 1, _, _, HX.out.1, HX.out.2, by go_num, H5.out, HA.out.2.2.2.2.2⟩
                  case measure => have := HX.out.2; simp [intOf]; omega
            · have hkl' : ¬ (k : Int) < 12 := by omega
              have hst2 := take_stop T.rows k 12 (by have := HT.out.2.2.1; omega) hk12 (by have := HT.out.2.2.1; omega)
              have c0 := HR.out.1.blk.cell (i := 0) rfl
              have c1 := HR.out.1.blk.cell (i := 1) rfl
              have c2 := HR.out.1.blk.cell (i := 2) rfl
              have f0 := HB2.out.2.2.frz 0
              have f1 := HB2.out.2.2.frz 1
              have f2 := HB2.out.2.2.frz 2
              have r0 := HB2.out.2.2.cell (i := 0) rfl
              have r1 := HB2.out.2.2.cell (i := 1) rfl
              have r2 := HB2.out.2.2.cell (i := 2) rfl
              have HST := Lib.hid hst2
              clear hst2
              go_wp2_with fail
              have HBel := Lib.hid (((HB2.out.1.setCell (show S ≤ (⟨S1, 0, none⟩ : Addr).block from by show S ≤ S1; omega) (.string X)).setCell (show S ≤ (⟨S1, 1, none⟩ : Addr).block from by show S ≤ S1; omega) (.slice pq i cq)).setCell (show S ≤ (⟨S1, 2, none⟩ : Addr).block from by show S ≤ S1; omega) (.slice pt k ct))
              have hold : ∀ g, BT ≤ g → (((wr.setCell ⟨S1, 0, none⟩ (.string X)).setCell ⟨S1, 1, none⟩ (.slice pq i cq)).setCell ⟨S1, 2, none⟩ (.slice pt k ct)).heap[g]? = wr.heap[g]? := fun g hg => by
                have hne : g ≠ S1 := by omega
                rw [Below.heap_setCell _ _ _ _ hne, Below.heap_setCell _ _ _ _ hne, Below.heap_setCell _ _ _ _ hne]
              have hrs := HR.out.2.1
              rw [HST.out] at hrs
              have HF := Lib.hid (fun (w'' : World) (hb'' : Below w0.heap.size w0 w'') (hg : ∀ g, BT ≤ g → w''.heap[g]? = (((wr.setCell ⟨S1, 0, none⟩ (.string X)).setCell ⟨S1, 1, none⟩ (.slice pq i cq)).setCell ⟨S1, 2, none⟩ (.slice pt k ct)).heap[g]?) => HR.out.1.ref2 HLn.out (fun g hg' => (hg g hg').trans (hold g hg')) (by rw [hX]) (hrs.below hb''))
              clear hold hrs
              have hkF := ((HB2.out.2.2.set 0 (.string X)).set 1 (.slice pq i cq)).set 2 (.slice pt k ct)
              have e0 := hkF.cell (i := 0) rfl
              have e1 := hkF.cell (i := 1) rfl
              have e2 := hkF.cell (i := 2) rfl
              generalize ((wr.setCell ⟨S1, 0, none⟩ (.string X)).setCell ⟨S1, 1, none⟩ (.slice pq i cq)).setCell ⟨S1, 2, none⟩ (.slice pt k ct) = wF at *
              clear hkF
              (try simp only [Exit.inBlock, Exit.then])
              exact bodyPost_ret (v := .agg #[.string X, .slice pq i cq, .slice pt k ct]) (by simp [results, Tryz.results5, go_sem, e0, e1, e2]) rfl ⟨_, rfl, fun w'' a b => HF.out w'' a (fun g hg => b g (by omega)), HBel.out⟩
          · have hkk : ¬ (k : Int) < m := by omega
            have hst2 := take_stop T.rows k 12 (by have := HT.out.2.2.1; omega) hk12 (by have := HT.out.2.2.1; omega)
            have c0 := HR.out.1.blk.cell (i := 0) rfl
            have c1 := HR.out.1.blk.cell (i := 1) rfl
            have c2 := HR.out.1.blk.cell (i := 2) rfl
            have f0 := HB2.out.2.2.frz 0
            have f1 := HB2.out.2.2.frz 1
            have f2 := HB2.out.2.2.frz 2
            have r0 := HB2.out.2.2.cell (i := 0) rfl
            have r1 := HB2.out.2.2.cell (i := 1) rfl
            have r2 := HB2.out.2.2.cell (i := 2) rfl
            have HST := Lib.hid hst2
            clear hst2
            go_wp2_with fail
            have HBel := Lib.hid (((HB2.out.1.setCell (show S ≤ (⟨S1, 0, none⟩ : Addr).block from by show S ≤ S1; omega) (.string X)).setCell (show S ≤ (⟨S1, 1, none⟩ : Addr).block from by show S ≤ S1; omega) (.slice pq i cq)).setCell (show S ≤ (⟨S1, 2, none⟩ : Addr).block from by show S ≤ S1; omega) (.slice pt k ct))
            have hold : ∀ g, BT ≤ g → (((wr.setCell ⟨S1, 0, none⟩ (.string X)).setCell ⟨S1, 1, none⟩ (.slice pq i cq)).setCell ⟨S1, 2, none⟩ (.slice pt k ct)).heap[g]? = wr.heap[g]? := fun g hg => by
              have hne : g ≠ S1 := by omega
              rw [Below.heap_setCell _ _ _ _ hne, Below.heap_setCell _ _ _ _ hne, Below.heap_setCell _ _ _ _ hne]
            have hrs := HR.out.2.1
            rw [HST.out] at hrs
            have HF := Lib.hid (fun (w'' : World) (hb'' : Below w0.heap.size w0 w'') (hg : ∀ g, BT ≤ g → w''.heap[g]? = (((wr.setCell ⟨S1, 0, none⟩ (.string X)).setCell ⟨S1, 1, none⟩ (.slice pq i cq)).setCell ⟨S1, 2, none⟩ (.slice pt k ct)).heap[g]?) => HR.out.1.ref2 HLn.out (fun g hg' => (hg g hg').trans (hold g hg')) (by rw [hX]) (hrs.below hb''))
            clear hold hrs
            have hkF := ((HB2.out.2.2.set 0 (.string X)).set 1 (.slice pq i cq)).set 2 (.slice pt k ct)
            have e0 := hkF.cell (i := 0) rfl
            have e1 := hkF.cell (i := 1) rfl
            have e2 := hkF.cell (i := 2) rfl
            generalize ((wr.setCell ⟨S1, 0, none⟩ (.string X)).setCell ⟨S1, 1, none⟩ (.slice pq i cq)).setCell ⟨S1, 2, none⟩ (.slice pt k ct) = wF at *
            clear hkF
            (try simp only [Exit.inBlock, Exit.then])
            exact bodyPost_ret (v := .agg #[.string X, .slice pq i cq, .slice pt k ct]) (by simp [results, Tryz.results5, go_sem, e0, e1, e2]) rfl ⟨_, rfl, fun w'' a b => HF.out w'' a (fun g hg => b g (by omega)), HBel.out⟩
    · have hii : ¬ (i : Int) < n := by omega
      have hst := take_stop T.vars i 12 (by omega) hi12 (by omega)
      have hln : (T.vars.take 12).length = i := by rw [← hst, List.length_take]; omega
      have hL := HL.out
      rw [hst] at hL
      have HL2 := Lib.hid hL
      have HLn := Lib.hid hln
      clear hst hL HL hln q0
      go_wp2_with fail
      go_loopw [5, 6, 7, 8] (fun kv _ _ _ wr => ∃ (k : Nat) (tvv : Value) (rs' : List RowV), k ≤ m ∧ k ≤ 12 ∧ kv = .int .i64 k ∧ LG fkt fks 25 (.string X) BT wb wr (.slice pq i cq, i, icells (T.vars.take 12)) tvv rs' nilR [] ∧ RowsR w0 rs' ((T.rows.take k).map fewRow)) (fun kv _ _ _ _ => 12 - (intOf kv).toNat)
      case atStart => exact ⟨0, _, [], Nat.zero_le _, Nat.zero_le _, rfl, HL2.out, RowsR.nil w0⟩
      case round =>
        obtain ⟨k, tvv, rs', hk, hk12, rfl, hlg, hrr⟩ := hrel
        have hrl : rs'.length = k := by have := hrr.len; rw [this]; have := HT.out.2.2.1; simp; omega
        obtain ⟨pt, ct, e⟩ := ownsRow_form hlg.valsO
        rw [hrl] at e
        subst e
        obtain ⟨hbw, hkS, hkR⟩ := HS.out _ hlg.bel
        have q1 := hkS.cell (i := 2) rfl
        have HB2 := Lib.hid (And.intro hbw (And.intro hkS hkR))
        have HR := Lib.hid (And.intro hlg (And.intro hrr hrl))
        clear hbw hkS hkR hlg hrr hrl
        by_cases hkm : k < m
        · have hkk : (k : Int) < m := by omega
          by_cases hkl : k < 12
          · have hkl' : (k : Int) < 12 := by omega
            obtain ⟨r, hr⟩ : ∃ r, rs[k]? = some r := ⟨_, List.getElem?_eq_getElem (by omega)⟩
            obtain ⟨row, hrow⟩ : ∃ row, T.rows[k]? = some row := ⟨_, List.getElem?_eq_getElem (by have := HT.out.2.2.1; omega)⟩
            obtain ⟨hrr1, hrr2⟩ := HT.out.2.2.2 k r row hr hrow
            have hrv := HT.out.2.1.below (by rw [hS]; exact HB2.out.1)
            obtain ⟨rb, ro, rfl⟩ := hrv.sl (show (rs.map (·.1))[k]? = some r.1 by rw [List.getElem?_map, hr]; rfl)
            have q2 := hrv.cell (show (rs.map (·.1))[k]? = some r.1 by rw [List.getElem?_map, hr]; rfl)
            obtain ⟨r1, rn, rc⟩ := r
            have hrn : rn = row.length := hrr2.n
            subst hrn
            obtain ⟨p1, c1, e⟩ := hrr1.form
            (try simp only at e)
            subst e
            have HV := Lib.hid (take_snoc' T.rows k _ hrow)
            have HE := Lib.hid (And.intro hrr1 (And.intro hrr2 (And.intro hrow hr)))
            have hk0 : (0 : Int) ≤ k := by omega
            have hkw : IntKind.i64.wrap ((k : Int) + 1) = (k : Int) + 1 := i64_of (by omega)
            have HX := Lib.hid (And.intro hkm hkl)
            clear hr hrow hrr1 hrr2 hrv hkm hkl hk hk12
            (try simp only at q2)
            generalize hN : row.length = N at *
            clear q2
            go_wp2_with fail
            go_loopw [6, 7, 8] (fun lv jv _ wr => ∃ (j : Nat) (cur : RowV), j ≤ N ∧ j ≤ 14 ∧ jv = .int .i64 j ∧ lv = cur.1 ∧ LG fkt fks 25 (.string X) BT wb wr (.slice pq i cq, i, icells (T.vars.take 12)) (.slice pt k ct) rs' cur [] ∧ RowR w0 cur ((row.take j).map fun l => l.take 128)) (fun _ jv _ _ => 14 - (intOf jv).toNat)
            case atStart => exact ⟨0, nilR, Nat.zero_le _, Nat.zero_le _, rfl, rfl, HR.out.1, RowR.nil w0⟩
            case round =>
              obtain ⟨j, cur, hj, hj14, rfl, rfl, hlg, hcr⟩ := hrel
              obtain ⟨cv1, cn, cc⟩ := cur
              have hcn : cn = j := by have h0 := hcr.n; have h1 : cn = ((row.take j).map fun l => l.take 128).length := h0; rw [List.length_map, List.length_take] at h1; omega
              subst hcn
              obtain ⟨pc, ccap, e⟩ := ownsRow_form hlg.curO
              (try simp only at e)
              subst e
              obtain ⟨hbw, hkS, hkR⟩ := HS.out _ hlg.bel
              have q1 := hkS.cell (i := 2) rfl
              have hrv := HT.out.2.1.below (by rw [hS]; exact hbw)
              have q2 := hrv.cell (j := k) (show (rs.map (·.1))[k]? = some (.slice p1 N c1) by rw [List.getElem?_map, HE.out.2.2.2]; rfl)
              have HC := Lib.hid (And.intro hlg (And.intro hcr hbw))
              clear hkS hkR hrv hlg hcr hbw
              by_cases hjN : cn < N
              · have hjj : (cn : Int) < N := by omega
                by_cases hj4 : cn < 14
                · have hj4' : (cn : Int) < 14 := by omega
                  obtain ⟨b, hb⟩ : ∃ b, rc[cn]? = some b := ⟨_, List.getElem?_eq_getElem (by have h0 : rc.length = row.length := HE.out.2.1.len; omega)⟩
                  obtain ⟨l, hl⟩ : ∃ l, row[cn]? = some l := ⟨_, List.getElem?_eq_getElem (by omega)⟩
                  have hbl := HE.out.2.1.at_ cn b l hb hl
                  obtain ⟨pb, cb, rfl, hcb⟩ := hbl.cap
                  have hrr1 := HE.out.1.below (by rw [hS]; exact HC.out.2.2)
                  (try simp only at hrr1)
                  obtain ⟨r1b, r1o, rfl⟩ := hrr1.sl hb
                  have q3 := hrr1.cell hb
                  have HV2 := Lib.hid (take_snoc' row cn _ hl)
                  have HBL := Lib.hid hbl
                  have hj0 : (0 : Int) ≤ cn := by omega
                  have hjw : IntKind.i64.wrap ((cn : Int) + 1) = (cn : Int) + 1 := i64_of (by omega)
                  clear hb hl hbl hrr1
                  by_cases h128 : 128 < l.length
                  · have h128' : (128 : Int) < l.length := by omega
                    have hcb1 : (128 : Int) ≤ cb := by omega
                    have hcb2 : 128 ≤ cb := by omega
                    obtain ⟨bb, bo, rfl⟩ := HBL.out.ro.sl (j := 0) (u := .bool (l.getD 0 false)) (by rw [bools_getElem?, List.getD_eq_getElem?_getD, List.getElem?_eq_getElem (by omega)]; rfl)
                    have hbv := HBL.out.cut (k := 128) (by omega)
                    have hbx := Below.new wr (.cells #[.slice (some ⟨bb, bo, none⟩) 128 cb] 55)
                    have hkx := Blk.new (w := wr) 55 [.slice (some ⟨bb, bo, none⟩) 128 cb]
                    have hls := HC.out.1.below hbx
                    have HA := Lib.hid (And.intro hls.curO (And.intro (RO.own (hkx.own (n := 1) (size := 1) rfl (by decide) 0 (Nat.zero_le _))) (And.intro hls.ge (And.intro hls hbv))))
                    have HX2 := Lib.hid (And.intro hjN hj4)
                    clear hbx hkx hls hbv hjN hj4 hj hj14
                    go_wp2_with (at_builtin; refine wpList_appR rfl _ _ 54 rfl FRow BT (.slice pc cn ccap) cn _ rfl HA.out.1 _ 1 _ rfl HA.out.2.1 (by simp [Value.oneCell']) (by omega) (by omega) HA.out.2.2.1 ?_; intro v8 w8 happ; obtain ⟨p8, c8, ev8⟩ := ownsRow_form happ.own; subst ev8; have HP := Lib.hid happ; clear happ)
                    have hls8 := HA.out.2.2.2.1.appC HP.out
                    have hcr8 : RowR w0 (.slice p8 (cn + 1) c8, cn + 1, cc ++ [.slice (some ⟨bb, bo, none⟩) 128 cb]) ((row.take (cn + 1)).map fun l => l.take 128) := by
                      rw [HV2.out, List.map_append]
                      exact HC.out.2.1.snoc HA.out.2.2.2.2
                    have H8 := Lib.hid (And.intro hls8 hcr8)
                    clear hls8 hcr8 HP
                    go_roundw
                    case rel => exact ⟨cn + 1, (.slice p8 (cn + 1) c8, cn + 1, cc ++ [.slice (some ⟨bb, bo, none⟩) 128 cb]), HX2.out.1, HX2.out.2, by go_num, rfl, H8.out.1, H8.out.2⟩
                    case measure => have := HX2.out.2; simp [intOf]; omega
                  · have h128' : ¬ (128 : Int) < l.length := by omega
                    have hbv : RB w0 (.slice pb l.length cb) (l.take 128) := by rw [List.take_of_length_le (by omega)]; exact HBL.out
                    have hbx := Below.new wr (.cells #[.slice pb l.length cb] 55)
                    have hkx := Blk.new (w := wr) 55 [.slice pb l.length cb]
                    have hls := HC.out.1.below hbx
                    have HA := Lib.hid (And.intro hls.curO (And.intro (RO.own (hkx.own (n := 1) (size := 1) rfl (by decide) 0 (Nat.zero_le _))) (And.intro hls.ge (And.intro hls hbv))))
                    have HX2 := Lib.hid (And.intro hjN hj4)
                    clear hbx hkx hls hbv hjN hj4 hj hj14
                    go_wp2_with (at_builtin; refine wpList_appR rfl _ _ 54 rfl FRow BT (.slice pc cn ccap) cn _ rfl HA.out.1 _ 1 _ rfl HA.out.2.1 (by simp [Value.oneCell']) (by omega) (by omega) HA.out.2.2.1 ?_; intro v8 w8 happ; obtain ⟨p8, c8, ev8⟩ := ownsRow_form happ.own; subst ev8; have HP := Lib.hid happ; clear happ)
                    have hls8 := HA.out.2.2.2.1.appC HP.out
                    have hcr8 : RowR w0 (.slice p8 (cn + 1) c8, cn + 1, cc ++ [.slice pb l.length cb]) ((row.take (cn + 1)).map fun l => l.take 128) := by
                      rw [HV2.out, List.map_append]
                      exact HC.out.2.1.snoc HA.out.2.2.2.2
                    have H8 := Lib.hid (And.intro hls8 hcr8)
                    clear hls8 hcr8 HP
                    go_roundw
                    case rel => exact ⟨cn + 1, (.slice p8 (cn + 1) c8, cn + 1, cc ++ [.slice pb l.length cb]), HX2.out.1, HX2.out.2, by go_num, rfl, H8.out.1, H8.out.2⟩
                    case measure => have := HX2.out.2; simp [intOf]; omega
                · have hj4' : ¬ (cn : Int) < 14 := by omega
                  have hst := take_stop row cn 14 (by omega) hj14 (by omega)
                  have hrw : RowR w0 (.slice pc cn ccap, cn, cc) (fewRow row) := by
                    have := HC.out.2.1
                    rw [hst] at this
                    exact this
                  have hrs := HR.out.2.1.snoc hrw
                  have e1 : (T.rows.take k).map fewRow ++ [fewRow row] = (T.rows.take (k + 1)).map fewRow := by rw [HV.out, List.map_append]; rfl
                  rw [e1] at hrs
                  have c2 := HC.out.1.blk.cell (i := 2) rfl
                  have f2 := HC.out.1.blk.frz 2
                  have hbx := Below.new wr (.cells #[.slice pc cn ccap] 54)
                  have hkx := Blk.new (w := wr) 54 [.slice pc cn ccap]
                  have hls := HC.out.1.below hbx
                  have hvo := hls.valsO
                  rw [HR.out.2.2] at hvo
                  have HA := Lib.hid (And.intro hvo (And.intro (RO.own (hkx.own (n := 1) (size := 1) rfl (by decide) 0 (Nat.zero_le _))) (And.intro hls.ge (And.intro hls (And.intro (hbx.block BT HC.out.1.blk.lt) hrs)))))
                  clear hbx hkx hls hvo hrs hrw hst e1
                  go_upto_region 8 with (at_builtin; refine wpList_appR rfl _ _ 23 rfl FRows BT (.slice pt k ct) k _ rfl HA.out.1 _ 1 _ rfl HA.out.2.1 (by simp [Value.oneCell']) (by omega) (by omega) HA.out.2.2.1 ?_; intro v4 w4 happ; obtain ⟨p6, c6', ev4⟩ := ownsRow_form happ.own; subst ev4; have e6 := (HA.out.2.2.2.1.keepB .vals happ).trans HA.out.2.2.2.2.1; have c2' := (World.cell?_of_block (a := ⟨BT, 2, none⟩) e6).trans c2; have f2' := (World.frozen?_of_block (a := ⟨BT, 2, none⟩) e6).trans f2; have HP := Lib.hid happ; clear happ e6)
                  have hq : AppR BT 54 1 (wr.alloc (.cells #[.slice pc cn ccap] 54)) (.slice pt k ct) (rs'.length + 1) (rs'.map (·.1) ++ [.slice pc cn ccap]) (.slice p6 (k + 1) c6') w4 := by
                    rw [HR.out.2.2]
                    exact HP.out
                  have hls5 := HA.out.2.2.2.1.push hq
                  have H5 := Lib.hid hls5
                  clear hq hls5 c2 f2 c2' f2' HP
                  generalize w4.setCell ⟨BT, 2, none⟩ (.slice p6 (k + 1) c6') = w5 at *
                  go_wp2_with fail
                  go_roundw
                  case rel => exact ⟨k + 1, _, _, HX.out.1, HX.out.2, by go_num, H5.out, HA.out.2.2.2.2.2⟩
                  case measure => have := HX.out.2; simp [intOf]; omega
              · have hjj : ¬ (cn : Int) < N := by omega
                have hst := take_stop row cn 14 (by omega) hj14 (by omega)
                have hrw : RowR w0 (.slice pc cn ccap, cn, cc) (fewRow row) := by
                  have := HC.out.2.1
                  rw [hst] at this
                  exact this
                have hrs := HR.out.2.1.snoc hrw
                have e1 : (T.rows.take k).map fewRow ++ [fewRow row] = (T.rows.take (k + 1)).map fewRow := by rw [HV.out, List.map_append]; rfl
                rw [e1] at hrs
                have c2 := HC.out.1.blk.cell (i := 2) rfl
                have f2 := HC.out.1.blk.frz 2
                have hbx := Below.new wr (.cells #[.slice pc cn ccap] 54)
                have hkx := Blk.new (w := wr) 54 [.slice pc cn ccap]
                have hls := HC.out.1.below hbx
                have hvo := hls.valsO
                rw [HR.out.2.2] at hvo
                have HA := Lib.hid (And.intro hvo (And.intro (RO.own (hkx.own (n := 1) (size := 1) rfl (by decide) 0 (Nat.zero_le _))) (And.intro hls.ge (And.intro hls (And.intro (hbx.block BT HC.out.1.blk.lt) hrs)))))
                clear hbx hkx hls hvo hrs hrw hst e1
                go_upto_region 8 with (at_builtin; refine wpList_appR rfl _ _ 23 rfl FRows BT (.slice pt k ct) k _ rfl HA.out.1 _ 1 _ rfl HA.out.2.1 (by simp [Value.oneCell']) (by omega) (by omega) HA.out.2.2.1 ?_; intro v4 w4 happ; obtain ⟨p6, c6', ev4⟩ := ownsRow_form happ.own; subst ev4; have e6 := (HA.out.2.2.2.1.keepB .vals happ).trans HA.out.2.2.2.2.1; have c2' := (World.cell?_of_block (a := ⟨BT, 2, none⟩) e6).trans c2; have f2' := (World.frozen?_of_block (a := ⟨BT, 2, none⟩) e6).trans f2; have HP := Lib.hid happ; clear happ e6)
                have hq : AppR BT 54 1 (wr.alloc (.cells #[.slice pc cn ccap] 54)) (.slice pt k ct) (rs'.length + 1) (rs'.map (·.1) ++ [.slice pc cn ccap]) (.slice p6 (k + 1) c6') w4 := by
                  rw [HR.out.2.2]
                  exact HP.out
                have hls5 := HA.out.2.2.2.1.push hq
                have H5 := Lib.hid hls5
                clear hq hls5 c2 f2 c2' f2' HP
                generalize w4.setCell ⟨BT, 2, none⟩ (.slice p6 (k + 1) c6') = w5 at *
                go_wp2_with fail
                go_roundw
                case rel => exact ⟨k + 1, _, _, HX.out.1, HX.out.2, by go_num, H5.out, HA.out.2.2.2.2.2⟩
                case measure => have := HX.out.2; simp [intOf]; omega
          · have hkl' : ¬ (k : Int) < 12 := by omega
            have hst2 := take_stop T.rows k 12 (by have := HT.out.2.2.1; omega) hk12 (by have := HT.out.2.2.1; omega)
            have c0 := HR.out.1.blk.cell (i := 0) rfl
            have c1 := HR.out.1.blk.cell (i := 1) rfl
            have c2 := HR.out.1.blk.cell (i := 2) rfl
            have f0 := HB2.out.2.2.frz 0
            have f1 := HB2.out.2.2.frz 1
            have f2 := HB2.out.2.2.frz 2
            have r0 := HB2.out.2.2.cell (i := 0) rfl
            have r1 := HB2.out.2.2.cell (i := 1) rfl
            have r2 := HB2.out.2.2.cell (i := 2) rfl
            have HST := Lib.hid hst2
            clear hst2
            go_wp2_with fail
            have HBel := Lib.hid (((HB2.out.1.setCell (show S ≤ (⟨S1, 0, none⟩ : Addr).block from by show S ≤ S1; omega) (.string X)).setCell (show S ≤ (⟨S1, 1, none⟩ : Addr).block from by show S ≤ S1; omega) (.slice pq i cq)).setCell (show S ≤ (⟨S1, 2, none⟩ : Addr).block from by show S ≤ S1; omega) (.slice pt k ct))
            have hold : ∀ g, BT ≤ g → (((wr.setCell ⟨S1, 0, none⟩ (.string X)).setCell ⟨S1, 1, none⟩ (.slice pq i cq)).setCell ⟨S1, 2, none⟩ (.slice pt k ct)).heap[g]? = wr.heap[g]? := fun g hg => by
              have hne : g ≠ S1 := by omega
              rw [Below.heap_setCell _ _ _ _ hne, Below.heap_setCell _ _ _ _ hne, Below.heap_setCell _ _ _ _ hne]
            have hrs := HR.out.2.1
            rw [HST.out] at hrs
            have HF := Lib.hid (fun (w'' : World) (hb'' : Below w0.heap.size w0 w'') (hg : ∀ g, BT ≤ g → w''.heap[g]? = (((wr.setCell ⟨S1, 0, none⟩ (.string X)).setCell ⟨S1, 1, none⟩ (.slice pq i cq)).setCell ⟨S1, 2, none⟩ (.slice pt k ct)).heap[g]?) => HR.out.1.ref2 HLn.out (fun g hg' => (hg g hg').trans (hold g hg')) (by rw [hX]) (hrs.below hb''))
            clear hold hrs
            have hkF := ((HB2.out.2.2.set 0 (.string X)).set 1 (.slice pq i cq)).set 2 (.slice pt k ct)
            have e0 := hkF.cell (i := 0) rfl
            have e1 := hkF.cell (i := 1) rfl
            have e2 := hkF.cell (i := 2) rfl
            generalize ((wr.setCell ⟨S1, 0, none⟩ (.string X)).setCell ⟨S1, 1, none⟩ (.slice pq i cq)).setCell ⟨S1, 2, none⟩ (.slice pt k ct) = wF at *
            clear hkF
            (try simp only [Exit.inBlock, Exit.then])
            exact bodyPost_ret (v := .agg #[.string X, .slice pq i cq, .slice pt k ct]) (by simp [results, Tryz.results5, go_sem, e0, e1, e2]) rfl ⟨_, rfl, fun w'' a b => HF.out w'' a (fun g hg => b g (by omega)), HBel.out⟩
        · have hkk : ¬ (k : Int) < m := by omega
          have hst2 := take_stop T.rows k 12 (by have := HT.out.2.2.1; omega) hk12 (by have := HT.out.2.2.1; omega)
          have c0 := HR.out.1.blk.cell (i := 0) rfl
          have c1 := HR.out.1.blk.cell (i := 1) rfl
          have c2 := HR.out.1.blk.cell (i := 2) rfl
          have f0 := HB2.out.2.2.frz 0
          have f1 := HB2.out.2.2.frz 1
          have f2 := HB2.out.2.2.frz 2
          have r0 := HB2.out.2.2.cell (i := 0) rfl
          have r1 := HB2.out.2.2.cell (i := 1) rfl
          have r2 := HB2.out.2.2.cell (i := 2) rfl
          have HST := Lib.hid hst2
          clear hst2
          go_wp2_with fail
          have HBel := Lib.hid (((HB2.out.1.setCell (show S ≤ (⟨S1, 0, none⟩ : Addr).block from by show S ≤ S1; omega) (.string X)).setCell (show S ≤ (⟨S1, 1, none⟩ : Addr).block from by show S ≤ S1; omega) (.slice pq i cq)).setCell (show S ≤ (⟨S1, 2, none⟩ : Addr).block from by show S ≤ S1; omega) (.slice pt k ct))
          have hold : ∀ g, BT ≤ g → (((wr.setCell ⟨S1, 0, none⟩ (.string X)).setCell ⟨S1, 1, none⟩ (.slice pq i cq)).setCell ⟨S1, 2, none⟩ (.slice pt k ct)).heap[g]? = wr.heap[g]? := fun g hg => by
            have hne : g ≠ S1 := by omega
            rw [Below.heap_setCell _ _ _ _ hne, Below.heap_setCell _ _ _ _ hne, Below.heap_setCell _ _ _ _ hne]
          have hrs := HR.out.2.1
          rw [HST.out] at hrs
          have HF := Lib.hid (fun (w'' : World) (hb'' : Below w0.heap.size w0 w'') (hg : ∀ g, BT ≤ g → w''.heap[g]? = (((wr.setCell ⟨S1, 0, none⟩ (.string X)).setCell ⟨S1, 1, none⟩ (.slice pq i cq)).setCell ⟨S1, 2, none⟩ (.slice pt k ct)).heap[g]?) => HR.out.1.ref2 HLn.out (fun g hg' => (hg g hg').trans (hold g hg')) (by rw [hX]) (hrs.below hb''))
          clear hold hrs
          have hkF := ((HB2.out.2.2.set 0 (.string X)).set 1 (.slice pq i cq)).set 2 (.slice pt k ct)
          have e0 := hkF.cell (i := 0) rfl
          have e1 := hkF.cell (i := 1) rfl
          have e2 := hkF.cell (i := 2) rfl
          generalize ((wr.setCell ⟨S1, 0, none⟩ (.string X)).setCell ⟨S1, 1, none⟩ (.slice pq i cq)).setCell ⟨S1, 2, none⟩ (.slice pt k ct) = wF at *
          clear hkF
          (try simp only [Exit.inBlock, Exit.then])
          exact bodyPost_ret (v := .agg #[.string X, .slice pq i cq, .slice pt k ct]) (by simp [results, Tryz.results5, go_sem, e0, e1, e2]) rfl ⟨_, rfl, fun w'' a b => HF.out w'' a (fun g hg => b g (by omega)), HBel.out⟩
end Go.Proofs.YtcdjkbgedmehjaaGreatDoor
