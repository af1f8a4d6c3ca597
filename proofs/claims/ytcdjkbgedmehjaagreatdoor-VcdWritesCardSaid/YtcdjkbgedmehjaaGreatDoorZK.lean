/- Texts of this claim, one behind another: V23, V24. They state lemmas; each names its own conditions. -/
import Derived.Test.YtcdjkbgedmehjaaGreatDoorZJ
namespace Go.Proofs.YtcdjkbgedmehjaaGreatDoor
set_option linter.unusedVariables false
open Go.RowKit Go.Sort

theorem lg2 (a b : Bs) : lineG [a, b] = lineW [a, b] := lineG_eq _ (by simp)
theorem lw_sp (a b : Bs) (r : List Bs) (h : r ≠ []) : lineW ((a ++ 32 :: b) :: r) = lineW (a :: b :: r) := by
  cases r with
  | nil => exact absurd rfl h
  | cons v r => simp [lineW]
theorem lg_1 : lineG [[36, 116, 105, 109, 101, 115, 99, 97, 108, 101, 32, 49, 32, 110, 115], [36, 101, 110, 100]] = lineW l1 := by decide
theorem lg_2 (T : Trc) : lineG [[36, 115, 99, 111, 112, 101, 32, 109, 111, 100, 117, 108, 101], T.top, [36, 101, 110, 100]] = lineW (l2 T) := by
  rw [lineG_eq _ (by simp), show ([36, 115, 99, 111, 112, 101, 32, 109, 111, 100, 117, 108, 101] : Bs) = kScope ++ 32 :: kModule from rfl, lw_sp _ _ _ (by simp)]; rfl
theorem lg_3 : lineG [[36, 117, 112, 115, 99, 111, 112, 101], [36, 101, 110, 100]] = lineW l3 := by decide
theorem lg_4 : lineG [[36, 101, 110, 100, 100, 101, 102, 105, 110, 105, 116, 105, 111, 110, 115], [36, 101, 110, 100]] = lineW l4 := by decide
theorem lg_v (i : Nat) (v : Bs × Nat) : lineG [[36, 118, 97, 114, 32, 119, 105, 114, 101], Lib.itoa (v.2 : Int), idL i, v.1, [36, 101, 110, 100]] = lineW (varLine i v) := by
  rw [lineG_eq _ (by simp), show ([36, 118, 97, 114, 32, 119, 105, 114, 101] : Bs) = kVar ++ 32 :: kWire from rfl, lw_sp _ _ _ (by simp)]; rfl
theorem lg_n (n : Nat) : lineG [35 :: Lib.itoa (n : Int)] = lineW [35 :: Lib.itoa (n : Int)] := lineG_eq _ (by simp)
theorem lg_c (i : Nat) (v : Nat × Nat) : lineG [98 :: bitL v.1 v.2, idL i] = lineW (chOne i v) := lineG_eq _ (by simp)
/-- the builder under way: it holds these lines -/
def WB (BB : Nat) (W0 : World) (ls : List (List Bs)) (w : World) : Prop := IsB BB (linesW ls) w ∧ BB ≤ w.heap.size ∧ Below BB W0 w
theorem WB.step {BB : Nat} {W0 w w1 w2 : World} {ls ls' : List (List Bs)} (h : WB BB W0 ls w) (h1 : Below w.heap.size w w1) (hi : IsB BB (linesW ls') w2) (h2 : Below BB w1 w2) : WB BB W0 ls' w2 :=
  ⟨hi, Nat.le_trans (Nat.le_trans h.2.1 h1.size) h2.size, h.2.2.trans ((h1.mono h.2.1).trans h2)⟩
theorem WB.below {BB : Nat} {W0 w w1 : World} {ls : List (List Bs)} (h : WB BB W0 ls w) (h1 : Below w.heap.size w w1) : WB BB W0 ls w1 :=
  ⟨h.1.below h1, Nat.le_trans h.2.1 h1.size, h.2.2.trans (h1.mono h.2.1)⟩
theorem WB.line {BB : Nat} {T : Trc} {W0 w w1 : World} {g n : Nat} {ls : List (List Bs)} {ws wsG : List Bs} (h : WB BB W0 ls w) (h1 : Below w.heap.size w w1) (hB : Blk w1 g 9 (strCells wsG)) (hn : wsG.length = n) (hl : n ≤ 1000) (hG : lineG wsG = lineW ws) (hp : PreT T (ls ++ [ws])) (ht : (trcText T).length ≤ 1000000) :
    Calls Tryz.prog 17 #[.slice (some ⟨g, 0, none⟩) n n, .pointer (some ⟨BB, 0, none⟩)] w1 fun e w' => e = .returned (.tuple #[]) ∧ WB BB W0 (ls ++ [ws]) w' :=
  (line_step (h.1.below h1) hB hn hl hG hp ht (Nat.le_trans h.2.1 h1.size)).mono fun e w' ⟨he, hi, hb⟩ => ⟨he, h.step h1 hi hb⟩
set_option maxRecDepth 100000 in
set_option maxHeartbeats 16000000 in
theorem write_good {w : World} {tv : Value} {T : Trc} (h : TrR w tv T) (hT : TOk T) (hc : checkN T = 0) (ht : (trcText T).length ≤ 1000000) (htab : Tab w) :
    Calls Tryz.prog 8 #[tv] w fun e w' => e = .returned (.tuple #[.string (bstr (trcText T)), .int .i64 0]) ∧ Below w.heap.size w w' := by
  obtain ⟨vv, rv, rvs, ess, rfl, hvv, hrv, hel, hrows, hrow⟩ := h.ex
  obtain ⟨pv, cv, rfl⟩ := hvv.form
  obtain ⟨pr, cr, rfl⟩ := hrv.form
  have hb := Below.new w (.cells #[.string (bstr T.top), .slice pv T.vars.length cv, .slice pr rvs.length cr] 31)
  have hk := Blk.new (w := w) 31 [.string (bstr T.top), .slice pv T.vars.length cv, .slice pr rvs.length cr]
  have hrl : T.rows.length = rvs.length := by rw [hrows, List.length_map, hel]
  have hn := hT.nv
  have hm := hT.nr
  have HC := Lib.hid (check_any (h.below hb) (by omega) (by omega) (fun r hr => by
    obtain ⟨i, hi, rfl⟩ := List.mem_iff_getElem.1 hr
    have := (hT.row i _ (List.getElem?_eq_getElem hi)).1
    omega))
  rw [hc] at HC
  have HR := Lib.hid (And.intro hvv (And.intro hrv (And.intro hel (And.intro hrows (And.intro hrow hrl)))))
  have HH := Lib.hid (And.intro ht (And.intro hT htab))
  have HBk := Lib.hid (And.intro hb hk)
  obtain ⟨n, hnn⟩ : ∃ n, T.vars.length = n := ⟨_, rfl⟩
  obtain ⟨m, hmm⟩ : ∃ m, rvs.length = m := ⟨_, rfl⟩
  rw [hnn] at HC HBk ⊢
  rw [hmm] at HC HBk ⊢
  have HNM := Lib.hid (And.intro hnn hmm)
  have hni : (n : Int) ≤ 300 := by omega
  have hmi : (m : Int) ≤ 200 := by omega
  clear h hvv hrv hel hrows hrow hb hk hrl hn hm hc ht hT htab hnn hmm
  go_enter Tryz.func8, Tryz.ntmps8
  go_wp2_with fail
  refine HC.out.mono ?_; rintro e w1 ⟨rfl, hb1⟩
  generalize w.alloc (.cells #[.string (bstr T.top), .slice pv n cv, .slice pr m cr] 31) = W at *
  have HB1 := Lib.hid (And.intro (HBk.out.1.trans (hb1.mono HBk.out.1.size)) (HBk.out.2.next hb1))
  clear hb1 HC HBk
  go_upto_region 6 with fail
  have hi0 : IsB w1.heap.size (linesW []) (w1.alloc (.cells #[.pointer none, .slice none 0 0] 61)) := Lib.fresh_isBuilder _ _ w1
  have hbb := Below.new w1 (.cells #[.pointer none, .slice none 0 0] 61)
  have H0 : Hid (WB w1.heap.size w1 [] (w1.alloc (.cells #[.pointer none, .slice none 0 0] 61))) := Lib.hid ⟨hi0, hbb.size, hbb⟩
  clear hi0 hbb
  generalize w1.alloc (.cells #[.pointer none, .slice none 0 0] 61) = w2 at *
  have HBB := Lib.hid (show w.heap.size < w1.heap.size from (HB1.out.2.lt))
  have HBx : Hid (∀ wx, Below w1.heap.size w1 wx → wx.cell? ⟨w.heap.size, 0, none⟩ = some (.string (bstr T.top)) ∧ wx.cell? ⟨w.heap.size, 1, none⟩ = some (.slice pv n cv) ∧ wx.cell? ⟨w.heap.size, 2, none⟩ = some (.slice pr m cr)) := Lib.hid fun wx hb' => by
    have hk' := HB1.out.2.next hb'
    exact ⟨hk'.cell (i := 0) rfl, hk'.cell (i := 1) rfl, hk'.cell (i := 2) rfl⟩
  have HTab : Hid (∀ wx, Below w1.heap.size w1 wx → Tab wx) := Lib.hid fun wx hb' => tab_below (tab_below HH.out.2.2 HB1.out.1) hb'
  have HRo : Hid (∀ wx, Below w1.heap.size w1 wx → Below w.heap.size w wx) := Lib.hid fun wx hb' => HB1.out.1.trans (hb'.mono HB1.out.1.size)
  obtain ⟨BB, hBB⟩ : ∃ BB, w1.heap.size = BB := ⟨_, rfl⟩
  rw [hBB] at H0 HBx HTab HRo HBB ⊢
  clear hBB
  have HLn := Lib.hid (H0.out.line (T := T) (ws := l1) (wsG := [[36, 116, 105, 109, 101, 115, 99, 97, 108, 101, 32, 49, 32, 110, 115], [36, 101, 110, 100]]) (n := 2) (Below.new w2 (.cells #[.string (bstr [36, 116, 105, 109, 101, 115, 99, 97, 108, 101, 32, 49, 32, 110, 115]), .string (bstr [36, 101, 110, 100])] 9)) (Blk.new (w := w2) 9 (strCells [[36, 116, 105, 109, 101, 115, 99, 97, 108, 101, 32, 49, 32, 110, 115], [36, 101, 110, 100]])) rfl (by decide) lg_1 (pre_1 T) HH.out.1)
  go_wp2_with fail
  refine HLn.out.mono ?_; rintro e w3 ⟨rfl, hi⟩
  have H3 := Lib.hid hi
  clear hi HLn H0
  have c0 := (HBx.out w3 H3.out.2.2).1
  have HLn := Lib.hid (H3.out.line (T := T) (ws := (l2 T)) (wsG := [[36, 115, 99, 111, 112, 101, 32, 109, 111, 100, 117, 108, 101], T.top, [36, 101, 110, 100]]) (n := 3) (Below.new w3 (.cells #[.string (bstr [36, 115, 99, 111, 112, 101, 32, 109, 111, 100, 117, 108, 101]), .string (bstr T.top), .string (bstr [36, 101, 110, 100])] 9)) (Blk.new (w := w3) 9 (strCells [[36, 115, 99, 111, 112, 101, 32, 109, 111, 100, 117, 108, 101], T.top, [36, 101, 110, 100]])) rfl (by decide) (lg_2 T) (pre_2 T) HH.out.1)
  go_wp2_with fail
  refine HLn.out.mono ?_; rintro e w4 ⟨rfl, hi⟩
  have H4 := Lib.hid hi
  clear hi HLn H3
  clear c0
  have c1 := (HBx.out w4 H4.out.2.2).2.1
  go_wp2_with fail
  clear c1
  go_loopw [30] (fun iv wr => ∃ i : Nat, i ≤ n ∧ iv = .int .i64 i ∧ WB BB w1 ([l1, l2 T] ++ varLines 0 (T.vars.take i)) wr) (fun iv _ => n - (intOf iv).toNat)
  case atStart => exact ⟨0, Nat.zero_le _, rfl, H4.out⟩
  case round =>
    obtain ⟨i, hi, rfl, hwb⟩ := hrel
    have HL := Lib.hid hwb
    clear hwb
    by_cases hlt : i < n
    · obtain ⟨x, hx⟩ : ∃ x, T.vars[i]? = some x := ⟨_, List.getElem?_eq_getElem (by rw [HNM.out.1]; exact hlt)⟩
      have hro := HR.out.1.below (HRo.out wr HL.out.2.2)
      obtain ⟨vb, vo, rfl⟩ := hro.sl (tokCells_at _ _ _ hx).1
      have k0 := hro.cell (tokCells_at _ _ _ hx).1
      have k1 := hro.cell (tokCells_at _ _ _ hx).2
      rw [← Nat.add_assoc] at k1
      have hwx := (HH.out.2.1.nms i x hx).2
      have hbx := Below.new wr (.cells #[.string (bstr x.1), .int .i64 x.2] 51)
      have hkx := Blk.new (w := wr) 51 [.string (bstr x.1), .int .i64 x.2]
      have hwb5 := HL.out.below hbx
      have q0 := hkx.cell (i := 0) rfl
      have q1 := hkx.cell (i := 1) rfl
      have hpre : PreT T (([l1, l2 T] ++ varLines 0 (T.vars.take i)) ++ [varLine i x]) := by
        have e : [l1, l2 T] ++ varLines 0 (T.vars.take i) ++ [varLine i x] = [l1, l2 T] ++ varLines 0 (T.vars.take (i + 1)) := by
          rw [List.take_add_one, hx]
          have hl : (T.vars.take i).length = i := by rw [List.length_take]; have := HNM.out.1; omega
          have := varLines_snoc (T.vars.take i) 0 x
          rw [hl, Nat.zero_add] at this
          simp only [Option.toList_some, this, List.append_assoc]
        rw [e]; exact pre_v T (i + 1)
      have hsn : ([l1, l2 T] ++ varLines 0 (T.vars.take i)) ++ [varLine i x] = [l1, l2 T] ++ varLines 0 (T.vars.take (i + 1)) := by
          rw [List.take_add_one, hx]
          have hl : (T.vars.take i).length = i := by rw [List.length_take]; have := HNM.out.1; omega
          have := varLines_snoc (T.vars.take i) 0 x
          rw [hl, Nat.zero_add] at this
          simp only [Option.toList_some, this, List.append_assoc]
      have HX := Lib.hid (And.intro hlt (And.intro hwb5 (And.intro hpre (And.intro hsn (And.intro hwx (show i < 8836 by omega))))))
      have hii : (i : Int) < n := by omega
      have hi0 : (0 : Int) ≤ i := by omega
      have hiw : IntKind.i64.wrap ((i : Int) + 1) = (i : Int) + 1 := i64_of (by omega)
      clear hro hx hwx hbx hkx hwb5 hpre hsn hlt hi
      go_upto_region 11 with fail
      clear k0 k1
      generalize wr.alloc (.cells #[.string (bstr x.1), .int .i64 x.2] 51) = W5 at *
      obtain ⟨g5, hg5⟩ : ∃ g, wr.heap.size = g := ⟨_, rfl⟩
      rw [hg5] at q0 q1 ⊢
      clear hg5
      have HTN := Lib.hid (Tr.nil W5)
      refine wp_region_webC (w0 := W5) [.rel (fun v W => v = .func (Fn.func 17) #[] #[.pointer (some ⟨BB, 0, none⟩)]) (fun _ => []), .known (.pointer (some ⟨g5, 1, none⟩)), .known (.int .i64 x.2), .known (.string (bstr (Lib.itoa (x.2 : Int)))), .rel (fun v W => v = .int .i64 i) (fun _ => []), .known (.string (bstr (idL i))), .known (.pointer (some ⟨g5, 0, none⟩)), .known (.string (bstr x.1)), .rel (fun v W => ∃ L, v = .slice (some ⟨L, 0, none⟩) 5 5 ∧ Blk W L 9 [.string (bstr [36, 118, 97, 114, 32, 119, 105, 114, 101]), .string (bstr (Lib.itoa (x.2 : Int))), .string (bstr (idL i)), .string (bstr x.1), .string (bstr [36, 101, 110, 100])]) (fun _ => [])] [2, 1, 1, 1, 2, 1, 1, 1, 1] [] 44 1 #[true, true, true, true, true, true, true, true, true, false] (by kernel_rfl) (by kernel_rfl) rfl rfl rfl (Nat.le_of_ble_eq_true rfl) ⟨(fun _ _ _ _ h => h), Sp.Mono.known, Sp.Mono.known, Sp.Mono.known, (fun _ _ _ _ h => h), Sp.Mono.known, Sp.Mono.known, Sp.Mono.known, (by rintro u w w1 hb ⟨L, rfl, hk⟩; exact ⟨L, rfl, hk.next hb⟩), trivial⟩ HTN.out.drew (fun _ _ _ _ _ h => h) (A := ?_) ?_ ?_ ?_
      rotate_left
      · intro u
        simp only [fillC, Sp.val, Nat.reduceBEq, cond_false, Act.put, List.setIfInBounds_toArray, List.set_cons_zero, List.set_cons_succ]
        rfl
      refine ob_pure (web_pure (o := _) rfl (fun u W hT hd => ?_)) ?_
      · have ca0 : W.cell? _ = some _ := After.cell q0 ⟨W, hT.bel⟩
        have ca1 : W.cell? _ = some _ := After.cell q1 ⟨W, hT.bel⟩
        exact ⟨_, Or.inl ⟨rfl, fun w => rfl⟩, rfl, rfl⟩
      refine ob_yes (web_op (o := _) rfl (fun u W hT hd Q K hK => ?_)) ?_
      · (try simp only [Act.put, List.setIfInBounds_toArray, List.set_cons_zero, List.set_cons_succ] at hK)
        have ca0 : W.cell? _ = some _ := After.cell q0 ⟨W, hT.bel⟩
        have ca1 : W.cell? _ = some _ := After.cell q1 ⟨W, hT.bel⟩
        go_simp
        exact hK.out _ _ (Below.refl _ _) rfl (fun p hp => by cases hp) List.nodup_nil
      refine ob_yes (web_op (o := _) rfl (fun u W hT hd Q K hK => ?_)) ?_
      · (try simp only [Act.put, List.setIfInBounds_toArray, List.set_cons_zero, List.set_cons_succ] at hK)
        have ca0 : W.cell? _ = some _ := After.cell q0 ⟨W, hT.bel⟩
        have ca1 : W.cell? _ = some _ := After.cell q1 ⟨W, hT.bel⟩
        go_simp
        exact hK.out _ _ (Below.refl _ _) rfl (fun p hp => by cases hp) List.nodup_nil
      refine ob_yes (web_op (o := _) rfl (fun u W hT hd Q K hK => ?_)) ?_
      · (try simp only [Act.put, List.setIfInBounds_toArray, List.set_cons_zero, List.set_cons_succ] at hK)
        have ca0 : W.cell? _ = some _ := After.cell q0 ⟨W, hT.bel⟩
        have ca1 : W.cell? _ = some _ := After.cell q1 ⟨W, hT.bel⟩
        go_simp
        refine (itoa_any x.2 (by have := HX.out.2.2.2.2.1; omega) (HTab.out _ (HX.out.2.1.below hT.bel).2.2)).mono ?_; rintro e W2 ⟨rfl, hb2⟩
        (try go_simp)
        exact hK.out _ _ hb2 rfl (fun p hp => by cases hp) List.nodup_nil
      refine ob_pure (web_pure (o := _) rfl (fun u W hT hd => ?_)) ?_
      · have ca0 : W.cell? _ = some _ := After.cell q0 ⟨W, hT.bel⟩
        have ca1 : W.cell? _ = some _ := After.cell q1 ⟨W, hT.bel⟩
        exact ⟨_, Or.inl ⟨rfl, fun w => rfl⟩, rfl, rfl⟩
      refine ob_yes (web_op (o := _) rfl (fun u W hT hd Q K hK => ?_)) ?_
      · have d4 := hd 4 (by kernel_rfl)
        generalize u 4 = x4 at *
        obtain rfl := d4
        (try simp only [Act.put, List.setIfInBounds_toArray, List.set_cons_zero, List.set_cons_succ] at hK)
        have ca0 : W.cell? _ = some _ := After.cell q0 ⟨W, hT.bel⟩
        have ca1 : W.cell? _ = some _ := After.cell q1 ⟨W, hT.bel⟩
        go_simp
        refine (id_any i HX.out.2.2.2.2.2 _).mono ?_; rintro e W2 ⟨rfl, hb2⟩
        (try go_simp)
        exact hK.out _ _ hb2 rfl (fun p hp => by cases hp) List.nodup_nil
      refine ob_yes (web_op (o := _) rfl (fun u W hT hd Q K hK => ?_)) ?_
      · (try simp only [Act.put, List.setIfInBounds_toArray, List.set_cons_zero, List.set_cons_succ] at hK)
        have ca0 : W.cell? _ = some _ := After.cell q0 ⟨W, hT.bel⟩
        have ca1 : W.cell? _ = some _ := After.cell q1 ⟨W, hT.bel⟩
        go_simp
        exact hK.out _ _ (Below.refl _ _) rfl (fun p hp => by cases hp) List.nodup_nil
      refine ob_yes (web_op (o := _) rfl (fun u W hT hd Q K hK => ?_)) ?_
      · (try simp only [Act.put, List.setIfInBounds_toArray, List.set_cons_zero, List.set_cons_succ] at hK)
        have ca0 : W.cell? _ = some _ := After.cell q0 ⟨W, hT.bel⟩
        have ca1 : W.cell? _ = some _ := After.cell q1 ⟨W, hT.bel⟩
        go_simp
        exact hK.out _ _ (Below.refl _ _) rfl (fun p hp => by cases hp) List.nodup_nil
      refine ob_yes (web_op (o := _) rfl (fun u W hT hd Q K hK => ?_)) ?_
      · (try simp only [Act.put, List.setIfInBounds_toArray, List.set_cons_zero, List.set_cons_succ] at hK)
        have ca0 : W.cell? _ = some _ := After.cell q0 ⟨W, hT.bel⟩
        have ca1 : W.cell? _ = some _ := After.cell q1 ⟨W, hT.bel⟩
        go_simp
        exact hK.out _ _ (Below.new _ _) ⟨_, rfl, Blk.new _ _⟩ (fun p hp => by cases hp) List.nodup_nil
      exact ob_nil
      intro u wx hT hok
      obtain ⟨h0, h1, h2, h3, h4, h5, h6, h7, h8, _⟩ := hok
      clear h1 h2 h3 h5 h6 h7
      simp only [ownsC, Sp.own, Nat.reduceBEq, cond_false, List.append_nil] at hT
      have d0 := h0 (by kernel_rfl)
      clear h0
      generalize u 0 = x0 at *
      obtain rfl := d0
      have d4 := h4 (by kernel_rfl)
      clear h4
      generalize u 4 = x4 at *
      obtain rfl := d4
      have d8 := h8 (by kernel_rfl)
      clear h8
      generalize u 8 = x8 at *
      obtain ⟨L, rfl, hk8⟩ := d8
      (try dsimp only [List.nil_append, List.cons_append] at hT)
      have HTE := Lib.hid hT
      clear hT
      refine wpAny_of_held (S := fun _ => True) _ _ _ _ ?_
      have HLn := Lib.hid (HX.out.2.1.line (T := T) (ws := varLine i x) (wsG := [[36, 118, 97, 114, 32, 119, 105, 114, 101], Lib.itoa (x.2 : Int), idL i, x.1, [36, 101, 110, 100]]) (n := 5) HTE.out.bel hk8 rfl (by decide) (lg_v i x) HX.out.2.2.1 HH.out.1)
      clear hk8 q0 q1
      refine wpAnyH_ready (rs := [9]) (by kernel_rfl) (by simp) ?_
      refine held_cons rfl (fun K hK => ?_) AllReadyH.nil
      go_simp
      refine HLn.out.mono ?_; rintro e w7 ⟨rfl, hi⟩
      have H7 := Lib.hid hi
      clear hi HLn
      (try go_simp)
      refine hK.out _ _ trivial (fun _ => ?_)
      clear hK K
      (try simp only [List.setIfInBounds_toArray, List.set_cons_zero, List.set_cons_succ])
      refine wpAnyH_done (by kernel_rfl) ?_ _
      go_wp2_with fail
      go_roundw
      case rel => exact ⟨i + 1, HX.out.1, by go_num, by rw [← HX.out.2.2.2.1]; exact H7.out⟩
      case measure => have := HX.out.1; simp [intOf]; omega
    · obtain rfl : i = n := by omega
      clear hlt hi
      have hfin := HL.out
      rw [← HNM.out.1, List.take_length] at hfin
      have H5 := Lib.hid hfin
      clear hfin
      have HLn := Lib.hid (H5.out.line (T := T) (ws := l3) (wsG := [[36, 117, 112, 115, 99, 111, 112, 101], [36, 101, 110, 100]]) (n := 2) (Below.new wr (.cells #[.string (bstr [36, 117, 112, 115, 99, 111, 112, 101]), .string (bstr [36, 101, 110, 100])] 9)) (Blk.new (w := wr) 9 (strCells [[36, 117, 112, 115, 99, 111, 112, 101], [36, 101, 110, 100]])) rfl (by decide) lg_3 (pre_3 T) HH.out.1)
      go_wp2_with fail
      refine HLn.out.mono ?_; rintro e w6 ⟨rfl, hi⟩
      have H6 := Lib.hid hi
      clear hi HLn H5
      have HLn := Lib.hid (H6.out.line (T := T) (ws := l4) (wsG := [[36, 101, 110, 100, 100, 101, 102, 105, 110, 105, 116, 105, 111, 110, 115], [36, 101, 110, 100]]) (n := 2) (Below.new w6 (.cells #[.string (bstr [36, 101, 110, 100, 100, 101, 102, 105, 110, 105, 116, 105, 111, 110, 115]), .string (bstr [36, 101, 110, 100])] 9)) (Blk.new (w := w6) 9 (strCells [[36, 101, 110, 100, 100, 101, 102, 105, 110, 105, 116, 105, 111, 110, 115], [36, 101, 110, 100]])) rfl (by decide) lg_4 (by have := pre_r T 0 (Nat.zero_le _); rw [head_eq] at this; simpa [rowsTo, List.append_assoc] using this) HH.out.1)
      go_wp2_with fail
      refine HLn.out.mono ?_; rintro e w7 ⟨rfl, hi⟩
      have H7 := Lib.hid hi
      clear hi HLn H6
      have hh7 : WB BB w1 (headLines T ++ rowsTo T.rows 0) w7 := by
        have := H7.out
        rw [head_eq]
        simpa [rowsTo, List.append_assoc] using this
      have H8 := Lib.hid hh7
      clear hh7 H7
      have c2 := (HBx.out w7 H8.out.2.2).2.2
      go_wp2_with fail
      clear c2
      go_loopw [55] (fun kv wr => ∃ k : Nat, k ≤ m ∧ kv = .int .i64 k ∧ WB BB w1 (headLines T ++ rowsTo T.rows k) wr) (fun kv _ => m - (intOf kv).toNat)
      case atStart => exact ⟨0, Nat.zero_le _, rfl, H8.out⟩
      case round =>
        obtain ⟨k, hk, rfl, hwb⟩ := hrel
        have HL2 := Lib.hid hwb
        clear hwb
        by_cases hlt : k < m
        · obtain ⟨vk, hvk⟩ : ∃ v, rvs[k]? = some v := ⟨_, List.getElem?_eq_getElem (by rw [HNM.out.2]; exact hlt)⟩
          obtain ⟨es, hes⟩ : ∃ es, ess[k]? = some es := ⟨_, List.getElem?_eq_getElem (by rw [HR.out.2.2.1, HNM.out.2]; exact hlt)⟩
          have hrowk := HR.out.2.2.2.2.1 k vk es hvk hes
          have hTk : T.rows[k]? = some (es.map fun e => (e.w, e.x)) := by rw [HR.out.2.2.2.1, List.getElem?_map, hes]; rfl
          have hkT : k < T.rows.length := (List.getElem?_eq_some_iff.1 hTk).1
          have hel : es.length = i := by have := (HH.out.2.1.row k _ hTk).1; rw [List.length_map, HNM.out.1] at this; exact this
          obtain ⟨pk, ck, rfl⟩ := hrowk.1.form
          have hrr := HR.out.2.1.below (HRo.out wr HL2.out.2.2)
          obtain ⟨rb, ro, rfl⟩ := hrr.sl hvk
          have k0 := hrr.cell hvk
          rw [hel] at k0
          have hgd : T.rows.getD k [] = es.map fun e => (e.w, e.x) := by rw [List.getD_eq_getElem?_getD, hTk]; rfl
          have HIt := Lib.hid (itoa_any (w := wr) k (by have := HH.out.2.1.nr; omega) (HTab.out wr HL2.out.2.2))
          have hcat : (⟨#[35]⟩ : ByteArray) ++ bstr (Lib.itoa (k : Int)) = bstr (35 :: Lib.itoa (k : Int)) := bstr_app [35] _
          have hisz : (bstr (Lib.itoa (k : Int))).size ≤ 21 := by rw [bstr_size]; exact Lib.itoa_length_le _ (by omega) (by omega)
          have hpre : PreT T ((headLines T ++ rowsTo T.rows k) ++ [[35 :: Lib.itoa (k : Int)]]) := by
            have := pre_c T k 0 hkT
            simpa [chLines] using this
          have HK2 := Lib.hid (And.intro hlt (And.intro hrowk (And.intro hTk (And.intro hgd (And.intro hkT (And.intro hpre (And.intro hel hcat)))))))
          generalize hIt : bstr (Lib.itoa (k : Int)) = It at *
          have hs3 : ¬ (9223372036854775807 : Int) < 1 + (It.size : Int) := by omega
          have hs4 : ¬ 9223372036854775807 < 1 + It.size := by omega
          have hki : (k : Int) < m := by omega
          have hk0 : (0 : Int) ≤ k := by omega
          have hkw : IntKind.i64.wrap ((k : Int) + 1) = (k : Int) + 1 := i64_of (by omega)
          clear hvk hes hrowk hTk hel hrr hgd hcat hpre hkT hlt hk hisz hIt
          go_wp2_with fail
          refine HIt.out.mono ?_; rintro e w8 ⟨rfl, hb8⟩
          have H9 := Lib.hid (HL2.out.below hb8)
          clear hb8 k0 HIt
          have HLn := Lib.hid (H9.out.line (T := T) (ws := [35 :: Lib.itoa (k : Int)]) (wsG := [35 :: Lib.itoa (k : Int)]) (n := 1) (Below.new w8 (.cells #[.string (bstr (35 :: Lib.itoa (k : Int)))] 9)) (Blk.new (w := w8) 9 (strCells [35 :: Lib.itoa (k : Int)])) rfl (by decide) (lg_n k) HK2.out.2.2.2.2.2.1 HH.out.1)
          rw [← HK2.out.2.2.2.2.2.2.2] at HLn
          go_wp2_with fail
          all_goals try (exfalso; omega)
          refine HLn.out.mono ?_; rintro e w9 ⟨rfl, hi9⟩
          have H10 := Lib.hid hi9
          clear hi9 HLn H9 hs3 hs4
          go_wp2_with fail
          go_loopw [68] (fun jv wr => ∃ j : Nat, j ≤ i ∧ jv = .int .i64 j ∧ WB BB w1 (headLines T ++ rowsTo T.rows k ++ [35 :: Lib.itoa (k : Int)] :: chLines 0 (prev T.rows k) ((T.rows.getD k []).take j)) wr) (fun jv _ => i - (intOf jv).toNat)
          case atStart =>
            refine ⟨0, Nat.zero_le _, rfl, ?_⟩
            have := H10.out
            simpa [chLines] using this
          case round =>
            obtain ⟨j, hj, rfl, hwb⟩ := hrel
            have HL3 := Lib.hid hwb
            clear hwb
            by_cases hlt : j < i
            · obtain ⟨e, hee⟩ : ∃ e, es[j]? = some e := ⟨_, List.getElem?_eq_getElem (by rw [HK2.out.2.2.2.2.2.2.1]; exact hlt)⟩
              have her := HK2.out.2.1.1.below (HRo.out wr HL3.out.2.2)
              obtain ⟨eb, eo, rfl⟩ := her.sl (rowCells_at _ _ _ hee).1
              have m0 := her.cell (rowCells_at _ _ _ hee).1
              have m1 := her.cell (rowCells_at _ _ _ hee).2
              rw [← Nat.add_assoc] at m1
              have hve := (HK2.out.2.1.2 e (List.mem_of_getElem? hee)).below (HRo.out wr HL3.out.2.2)
              have hTe : (T.rows.getD k [])[j]? = some (e.w, e.x) := by rw [HK2.out.2.2.2.1, List.getElem?_map, hee]; rfl
              have hsn : ∀ ls, headLines T ++ rowsTo T.rows k ++ [35 :: Lib.itoa (k : Int)] :: chLines 0 (prev T.rows k) ((T.rows.getD k []).take j) ++ chStep (prev T.rows k) j j (e.w, e.x) = ls → ls = headLines T ++ rowsTo T.rows k ++ [35 :: Lib.itoa (k : Int)] :: chLines 0 (prev T.rows k) ((T.rows.getD k []).take (j + 1)) := fun ls hls => by
                rw [← hls, List.take_add_one, hTe]
                have hl : ((T.rows.getD k []).take j).length = j := by rw [List.length_take, HK2.out.2.2.2.1, List.length_map]; have := HK2.out.2.2.2.2.2.2.1; omega
                have := chLines_snoc ((T.rows.getD k []).take j) 0 (prev T.rows k) (e.w, e.x)
                rw [hl, Nat.zero_add] at this
                simp only [Option.toList_some, this, List.append_assoc, List.cons_append]
              have hbx := Below.new wr (.cells #[.int .i64 e.w, .slice e.p (wcount e.w) e.c] 46)
              have hkx := Blk.new (w := wr) 46 [.int .i64 e.w, .slice e.p (wcount e.w) e.c]
              have hwb5 := HL3.out.below hbx
              have q0 := hkx.cell (i := 0) rfl
              have q1 := hkx.cell (i := 1) rfl
              have HX := Lib.hid (And.intro hlt (And.intro hwb5 (And.intro (hve.below hbx) (And.intro hsn (And.intro hTe (And.intro hkx (show j < 8836 by omega)))))))
              have hji : (j : Int) < i := by omega
              have hj0 : (0 : Int) ≤ j := by omega
              have hjw : IntKind.i64.wrap ((j : Int) + 1) = (j : Int) + 1 := i64_of (by omega)
              clear her hve hTe hsn hbx hkx hwb5 hlt hj
              go_upto_region 22 with fail
              obtain ⟨g5, hg5⟩ : ∃ g, wr.heap.size = g := ⟨_, rfl⟩
              have hkx' := HX.out.2.2.2.2.2.1
              rw [hg5] at q0 q1 HX ⊢
              clear m0 m1 hkx'
              have hwbx := HX.out.2.1
              generalize wr.alloc (.cells #[.int .i64 e.w, .slice e.p (wcount e.w) e.c] 46) = W5 at *
              clear hg5
              by_cases hk0z : k = 0
              · have hz1 : ((k : Int) == 0) = true := by simp [hk0z]
                have hz3 : decide (k = 0) = true := decide_eq_true hk0z
                have hz4 : decide ((k : Int) = 0) = true := decide_eq_true (by omega)
                have hch : chStep (prev T.rows k) j j (e.w, e.x) = [chOne j (e.w, e.x)] := by rw [hk0z]; rfl
                have HCS := Lib.hid hch
                clear hch hwbx hk0z
                refine wp_region_after (by kernel_rfl) (by kernel_rfl) ?_
                repeat (go_big_quiet_step (fail))
                refine wpQuiet_nil ?_
                rintro _ ⟨s, rfl⟩
                have HS6 := Lib.hid s.below
                have HS := Lib.hid (HX.out.2.1.below s.below)
                generalize s.val = w6 at *
                clear q0 q1
                have hv6 := HX.out.2.2.1.below HS6.out
                have hk6 := HX.out.2.2.2.2.2.1.next HS6.out
                have d0 := hk6.cell (i := 0) rfl
                have d1 := hk6.cell (i := 1) rfl
                have HTx : Hid (Calls Tryz.prog 23 #[.agg #[.int .i64 e.w, .slice e.p (wcount e.w) e.c]] w6 fun r w' => r = .returned (.string (bstr (bitL e.w e.x))) ∧ Below w6.heap.size w6 w') := Lib.hid (text_any hv6)
                have hcat2 : (⟨#[98]⟩ : ByteArray) ++ bstr (bitL e.w e.x) = bstr (98 :: bitL e.w e.x) := bstr_app [98] _
                have hbsz : (bstr (bitL e.w e.x)).size ≤ 128 := by rw [bstr_size, bitL_len]; exact hv6.le
                have HC2 := Lib.hid hcat2
                have hpre2 : PreT T ((headLines T ++ rowsTo T.rows k ++ [35 :: Lib.itoa (k : Int)] :: chLines 0 (prev T.rows k) ((T.rows.getD k []).take j)) ++ [chOne j (e.w, e.x)]) := by
                  have h1 := HX.out.2.2.2.1 _ rfl
                  rw [HCS.out] at h1
                  rw [h1]
                  exact pre_c T k (j + 1) HK2.out.2.2.2.2.1
                have HP2 := Lib.hid (And.intro hpre2 (HS.out))
                generalize hBt : bstr (bitL e.w e.x) = Bt at *
                have hs3 : ¬ (9223372036854775807 : Int) < 1 + (Bt.size : Int) := by omega
                have hs4 : ¬ 9223372036854775807 < 1 + Bt.size := by omega
                clear hv6 hk6 hcat2 hbsz hpre2 hBt HS
                go_wp2_with fail
                refine HTx.out.mono ?_; rintro r w7 ⟨rfl, hb7⟩
                have H17 := Lib.hid (HP2.out.2.below hb7)
                clear hb7 HTx d0 d1
                go_wp2_with fail
                all_goals try (exfalso; omega)
                refine (id_any j HX.out.2.2.2.2.2.2 w7).mono ?_; rintro r w8 ⟨rfl, hb8⟩
                have H18 := Lib.hid (H17.out.below hb8)
                clear hb8 H17 hs3 hs4
                have HLn := Lib.hid (H18.out.line (T := T) (ws := chOne j (e.w, e.x)) (wsG := [98 :: bitL e.w e.x, idL j]) (n := 2) (Below.new w8 (.cells #[.string (bstr (98 :: bitL e.w e.x)), .string (bstr (idL j))] 9)) (Blk.new (w := w8) 9 (strCells [98 :: bitL e.w e.x, idL j])) rfl (by decide) (lg_c j (e.w, e.x)) HP2.out.1 HH.out.1)
                rw [← HC2.out] at HLn
                go_wp2_with fail
                refine HLn.out.mono ?_; rintro r w9' ⟨rfl, hi9⟩
                have H19 := Lib.hid hi9
                clear hi9 HLn H18
                go_wp2_with fail
                go_roundw
                case rel => exact ⟨j + 1, HX.out.1, by go_num, by
                  have h1 := HX.out.2.2.2.1 _ rfl
                  rw [HCS.out] at h1
                  rw [← h1]; exact H19.out⟩
                case measure => have := HX.out.1; simp [intOf]; omega
              · obtain ⟨k', hk'⟩ : ∃ k', k = k' + 1 := ⟨k - 1, by omega⟩
                have hk'm : k' < m := by omega
                obtain ⟨vk', hvk'⟩ : ∃ v, rvs[k']? = some v := ⟨_, List.getElem?_eq_getElem (by rw [HNM.out.2]; exact hk'm)⟩
                obtain ⟨es', hes'⟩ : ∃ es, ess[k']? = some es := ⟨_, List.getElem?_eq_getElem (by rw [HR.out.2.2.1, HNM.out.2]; exact hk'm)⟩
                have hrow' := HR.out.2.2.2.2.1 k' vk' es' hvk' hes'
                have hTk' : T.rows[k']? = some (es'.map fun e => (e.w, e.x)) := by rw [HR.out.2.2.2.1, List.getElem?_map, hes']; rfl
                have hel' : es'.length = i := by have := (HH.out.2.1.row k' _ hTk').1; rw [List.length_map, HNM.out.1] at this; exact this
                obtain ⟨pk', ck', rfl⟩ := hrow'.1.form
                have hro5 := HRo.out W5 hwbx.2.2
                have hrr := HR.out.2.1.below hro5
                have r0 := hrr.cell hvk'
                obtain ⟨e', hee'⟩ : ∃ e, es'[j]? = some e := ⟨_, List.getElem?_eq_getElem (by rw [hel']; exact HX.out.1)⟩
                have her' := hrow'.1.below hro5
                obtain ⟨eb', eo', rfl⟩ := her'.sl (rowCells_at _ _ _ hee').1
                have s0 := her'.cell (rowCells_at _ _ _ hee').1
                have s1 := her'.cell (rowCells_at _ _ _ hee').2
                rw [← Nat.add_assoc] at s1
                rw [hel'] at r0
                have hve' := (hrow'.2 e' (List.mem_of_getElem? hee')).below hro5
                have t2 := (HBx.out W5 hwbx.2.2).2.2
                have hgd' : T.rows.getD k' [] = es'.map fun e => (e.w, e.x) := by rw [List.getD_eq_getElem?_getD, hTk']; rfl
                have hch : chStep (prev T.rows k) j j (e.w, e.x) = if (e.w = e'.w ∧ e.x = e'.x) then [] else [chOne j (e.w, e.x)] := by
                  have hp : prev T.rows k = some (T.rows.getD k' []) := by rw [hk']; rfl
                  rw [hp]
                  unfold chStep
                  simp only [hgd', List.getElem?_map, hee', Option.map_some, Option.some.injEq, Prod.mk.injEq]
                  by_cases hq : e.w = e'.w ∧ e.x = e'.x
                  · rw [if_pos hq, if_pos ⟨hq.1.symm, hq.2.symm⟩]
                  · rw [if_neg hq, if_neg (fun h => hq ⟨h.1.symm, h.2.symm⟩)]
                have HEq : Hid (∀ s : After W5, Calls Tryz.prog 22 #[.agg #[.int .i64 e.w, .slice e.p (wcount e.w) e.c], .agg #[.int .i64 e'.w, .slice e'.p (wcount e'.w) e'.c]] s.val fun r w' => r = .returned (.bool (decide (e.w = e'.w ∧ e.x = e'.x))) ∧ Below s.val.heap.size s.val w') := Lib.hid fun s => equal_any (HX.out.2.2.1.below s.below) (hve'.below s.below)
                obtain ⟨q, hq⟩ : ∃ q, decide (e.w = e'.w ∧ e.x = e'.x) = q := ⟨_, rfl⟩
                rw [hq] at HEq
                have HCS := Lib.hid (And.intro hch hq)
                have a0 := After.cell q0
                have a1 := After.cell q1
                have a2 := After.cell r0
                have a3 := After.cell s0
                have a4 := After.cell s1
                have a5 := After.cell t2
                have hz1 : ((k : Int) == 0) = false := by rw [beq_eq_false_iff_ne]; omega
                have hz2 : ¬ (k : Int) = 0 := by omega
                have hz3 : ¬ k = 0 := hk0z
                have hkw' : IntKind.i64.wrap ((k : Int) - 1) = (k' : Int) := (i64_of (by omega)).trans (by omega)
                have hk'i : (k' : Int) < m := by omega
                have hk'0 : (0 : Int) ≤ k' := by omega
                clear hwbx hk'm hvk' hes' hrow' hTk' hel' hro5 hrr r0 hee' her' s0 s1 hve' t2 hgd' hch hq q0 q1 hk' hk0z
                refine wp_region_after (by kernel_rfl) (by kernel_rfl) ?_
                repeat (go_big_quiet_step ((first | (with_reducible exact Calls.after_of (HEq.out _)))))
                refine wpQuiet_nil ?_
                rintro _ ⟨s, rfl⟩
                have HS6 := Lib.hid s.below
                have HS := Lib.hid (HX.out.2.1.below s.below)
                generalize s.val = w6 at *
                clear a0 a1 a2 a3 a4 a5 HEq
                cases q
                rotate_left
                · have h1 := HX.out.2.2.2.1 _ rfl
                  rw [HCS.out.1, if_pos (of_decide_eq_true HCS.out.2), List.append_nil] at h1
                  have H1 := Lib.hid h1
                  clear h1
                  go_wp2_with fail
                  go_roundw
                  case rel => exact ⟨j + 1, HX.out.1, by go_num, by rw [← H1.out]; exact HS.out⟩
                  case measure => have := HX.out.1; simp [intOf]; omega
                have hch2 : chStep (prev T.rows k) j j (e.w, e.x) = [chOne j (e.w, e.x)] := by rw [HCS.out.1, if_neg (of_decide_eq_false HCS.out.2)]
                have HCS2 := Lib.hid hch2
                clear hch2
                have hv6 := HX.out.2.2.1.below HS6.out
                have hk6 := HX.out.2.2.2.2.2.1.next HS6.out
                have d0 := hk6.cell (i := 0) rfl
                have d1 := hk6.cell (i := 1) rfl
                have HTx : Hid (Calls Tryz.prog 23 #[.agg #[.int .i64 e.w, .slice e.p (wcount e.w) e.c]] w6 fun r w' => r = .returned (.string (bstr (bitL e.w e.x))) ∧ Below w6.heap.size w6 w') := Lib.hid (text_any hv6)
                have hcat2 : (⟨#[98]⟩ : ByteArray) ++ bstr (bitL e.w e.x) = bstr (98 :: bitL e.w e.x) := bstr_app [98] _
                have hbsz : (bstr (bitL e.w e.x)).size ≤ 128 := by rw [bstr_size, bitL_len]; exact hv6.le
                have HC2 := Lib.hid hcat2
                have hpre2 : PreT T ((headLines T ++ rowsTo T.rows k ++ [35 :: Lib.itoa (k : Int)] :: chLines 0 (prev T.rows k) ((T.rows.getD k []).take j)) ++ [chOne j (e.w, e.x)]) := by
                  have h1 := HX.out.2.2.2.1 _ rfl
                  rw [HCS2.out] at h1
                  rw [h1]
                  exact pre_c T k (j + 1) HK2.out.2.2.2.2.1
                have HP2 := Lib.hid (And.intro hpre2 (HS.out))
                generalize hBt : bstr (bitL e.w e.x) = Bt at *
                have hs3 : ¬ (9223372036854775807 : Int) < 1 + (Bt.size : Int) := by omega
                have hs4 : ¬ 9223372036854775807 < 1 + Bt.size := by omega
                clear hv6 hk6 hcat2 hbsz hpre2 hBt HS
                go_wp2_with fail
                refine HTx.out.mono ?_; rintro r w7 ⟨rfl, hb7⟩
                have H17 := Lib.hid (HP2.out.2.below hb7)
                clear hb7 HTx d0 d1
                go_wp2_with fail
                all_goals try (exfalso; omega)
                refine (id_any j HX.out.2.2.2.2.2.2 w7).mono ?_; rintro r w8 ⟨rfl, hb8⟩
                have H18 := Lib.hid (H17.out.below hb8)
                clear hb8 H17 hs3 hs4
                have HLn := Lib.hid (H18.out.line (T := T) (ws := chOne j (e.w, e.x)) (wsG := [98 :: bitL e.w e.x, idL j]) (n := 2) (Below.new w8 (.cells #[.string (bstr (98 :: bitL e.w e.x)), .string (bstr (idL j))] 9)) (Blk.new (w := w8) 9 (strCells [98 :: bitL e.w e.x, idL j])) rfl (by decide) (lg_c j (e.w, e.x)) HP2.out.1 HH.out.1)
                rw [← HC2.out] at HLn
                go_wp2_with fail
                refine HLn.out.mono ?_; rintro r w9' ⟨rfl, hi9⟩
                have H19 := Lib.hid hi9
                clear hi9 HLn H18
                go_wp2_with fail
                go_roundw
                case rel => exact ⟨j + 1, HX.out.1, by go_num, by
                  have h1 := HX.out.2.2.2.1 _ rfl
                  rw [HCS2.out] at h1
                  rw [← h1]; exact H19.out⟩
                case measure => have := HX.out.1; simp [intOf]; omega
            · obtain rfl : j = i := by omega
              clear hlt hj
              have hfin := HL3.out
              have hlen : (T.rows.getD k []).length = j := by rw [HK2.out.2.2.2.1, List.length_map]; exact HK2.out.2.2.2.2.2.2.1
              rw [List.take_of_length_le (by omega)] at hfin
              have HF := Lib.hid (show WB BB w1 (headLines T ++ rowsTo T.rows (k + 1)) wr by
                rw [rowsTo, rowLines, ← List.append_assoc]; exact hfin)
              clear hfin hlen
              go_wp2_with fail
              go_roundw
              case rel => exact ⟨k + 1, HK2.out.1, by go_num, HF.out⟩
              case measure => have := HK2.out.1; simp [intOf]; omega
        · obtain rfl : k = m := by omega
          clear hlt hk
          have hfin := HL2.out
          have hkk : k = T.rows.length := by rw [HR.out.2.2.2.2.2, HNM.out.2]
          have HKk := Lib.hid hkk
          clear hkk hfin
          go_wp2_with fail
          refine (Tryz.Builder_String_any BB BB (linesW (headLines T ++ rowsTo T.rows k)) wr HL2.out.1 HL2.out.2.1).mono ?_
          rintro r w20 ⟨rfl, hb20⟩
          have H20 := Lib.hid (HL2.out.2.2.trans hb20)
          clear hb20
          go_wp2_with fail
          go_ret2
          refine ⟨?_, ?_⟩
          · have e1 : linesW (headLines T ++ rowsTo T.rows k) = trcText T := by rw [HKk.out]; rfl
            rw [e1]; rfl
          · exact HB1.out.1.trans (H20.out.mono (Nat.le_of_lt HBB.out))
end Go.Proofs.YtcdjkbgedmehjaaGreatDoor
namespace Go.Proofs.YtcdjkbgedmehjaaGreatDoor
set_option linter.unusedVariables false
open Go.RowKit Go.Sort

/-! # awake -/
def T0 : Trc := ⟨[109], [([97], 1)], [[(1, 1)], [(1, 1)], [(1, 0)]]⟩
def t0L : Bs := [36, 116, 105, 109, 101, 115, 99, 97, 108, 101, 32, 49, 32, 110, 115, 32, 36, 101, 110, 100, 10, 36, 115, 99, 111, 112, 101, 32, 109, 111, 100, 117, 108, 101, 32, 109, 32, 36, 101, 110, 100, 10, 36, 118, 97, 114, 32, 119, 105, 114, 101, 32, 49, 32, 33, 32, 97, 32, 36, 101, 110, 100, 10, 36, 117, 112, 115, 99, 111, 112, 101, 32, 36, 101, 110, 100, 10, 36, 101, 110, 100, 100, 101, 102, 105, 110, 105, 116, 105, 111, 110, 115, 32, 36, 101, 110, 100, 10, 35, 48, 10, 98, 49, 32, 33, 10, 35, 49, 10, 35, 50, 10, 98, 48, 32, 33, 10]
theorem t0_text : trcText T0 = t0L := by decide +kernel
theorem t0_check : checkN T0 = 0 := by decide +kernel
theorem t0_ok : TOk T0 := tok_of_check t0_check (by decide)
theorem new_one {w : World} (hr : RO w (.slice none 0 0) 1 0 []) : Calls Tryz.prog 14 #[.int .i64 1, .slice none 0 0] w (RetE w 1 0 0) := by
  have h := new_good (w := w) 1 (by decide) (by decide) (.slice none 0 0) (l := []) ⟨rfl, none, 0, rfl, fun j u hu => by simp [natsV] at hu⟩ (by simp)
  rw [show valW [] % 2 ^ 1 = 0 by simp [valW]] at h
  exact h
theorem new_val {w : World} (n x : Nat) (h1 : 1 ≤ n) (h2 : n ≤ 128) (hx : x < 2 ^ 64) : Calls Tryz.prog 14 #[.int .i64 n, .slice (some ⟨w.heap.size, 0, none⟩) 1 1] (w.alloc (.cells #[.int .u64 x] 49)) (RetE (w.alloc (.cells #[.int .u64 x] 49)) n (x % 2 ^ n) 0) := by
  have hr : RO (w.alloc (.cells #[.int .u64 x] 49)) (.slice (some ⟨w.heap.size, 0, none⟩) 1 1) 1 [x].length (natsV [x]) :=
    RO.own ((Blk.new (w := w) 49 [.int .u64 x]).own (n := 1) (size := 1) rfl (by decide) 0 (Nat.zero_le _))
  have h := new_good n h1 h2 _ hr (fun y hy => by simp at hy; omega)
  rw [show valW [x] = x by simp [valW]] at h
  exact h
set_option maxRecDepth 100000 in
set_option maxHeartbeats 8000000 in
theorem awake_any {w : World} (ht : Tab w) : Calls Tryz.prog 4 #[] w fun e w' => e = .returned (.bool true) ∧ Below w.heap.size w w' := by
  have HTab := Lib.hid ht
  clear ht
  have HN1 := Lib.hid (new_val (w := w) 1 1 (by decide) (by decide) (by decide))
  rw [show 1 % 2 ^ 1 = 1 from rfl] at HN1
  have HB0 := Lib.hid (Below.new w (.cells #[.int .u64 1] 49))
  go_enter Tryz.func4, Tryz.ntmps4
  go_wp2_with fail
  refine HN1.out.mono ?_; rintro e w1 ⟨v1, rfl, hv1, hb1, hf1⟩
  obtain ⟨p1, c1, rfl, _⟩ := hv1.ex
  have hbx := Below.new w1 (.cells #[.int .i64 1, .slice p1 (wcount 1) c1] 46)
  have hkx := Blk.new (w := w1) 46 [.int .i64 1, .slice p1 (wcount 1) c1]
  have H1 := Lib.hid (And.intro (hv1.below hbx) (And.intro hkx ((HB0.out.trans (hb1.mono HB0.out.size)).trans (hbx.mono (HB0.out.trans (hb1.mono HB0.out.size)).size))))
  clear hv1 hb1 hf1 hbx hkx HN1 HB0
  go_wp2_with fail
  refine (new_one ⟨rfl, none, 0, rfl, fun j u hu => by simp at hu⟩).mono ?_; rintro e w2 ⟨v2, rfl, hv2, hb2, hf2⟩
  obtain ⟨p2, c2, rfl, _⟩ := hv2.ex
  obtain ⟨g1, hg1⟩ : ∃ g, w1.heap.size = g := ⟨_, rfl⟩
  rw [hg1] at H1 ⊢
  clear hg1
  have k1 := H1.out.2.1.next hb2
  have v1 := H1.out.1.below hb2
  have bw := H1.out.2.2.trans (hb2.mono H1.out.2.2.size)
  have hb_0 := Below.new w2 (.cells #[.int .i64 1, .slice p2 (wcount 1) c2] 46)
  have kn_0 := Blk.new (w := w2) 46 [.int .i64 1, .slice p2 (wcount 1) c2]
  have k1_0 := k1.next hb_0
  have v1_0 := v1.below hb_0
  have v2_0 := hv2.below hb_0
  have bw_0 := Below.next bw hb_0
  have x0 := k1_0.cell (i := 0) rfl
  have y0 := k1_0.cell (i := 1) rfl
  have z0 := kn_0.cell (i := 0) rfl
  have t0 := kn_0.cell (i := 1) rfl
  have hb_1 := Below.new (w2.alloc (.cells #[.int .i64 1, .slice p2 (wcount 1) c2] 46)) (.cells #[.string ⟨#[97]⟩, .int .i64 1] 51)
  have kn_1 := Blk.new (w := (w2.alloc (.cells #[.int .i64 1, .slice p2 (wcount 1) c2] 46))) 51 [.string ⟨#[97]⟩, .int .i64 1]
  simp only [World.size_alloc] at kn_1
  have k1_1 := k1_0.next hb_1
  have v1_1 := v1_0.below hb_1
  have v2_1 := v2_0.below hb_1
  have bw_1 := Below.next bw_0 hb_1
  have kn_0 := kn_0.next hb_1
  have x1 := k1_1.cell (i := 0) rfl
  have y1 := k1_1.cell (i := 1) rfl
  have z1 := kn_0.cell (i := 0) rfl
  have t1 := kn_0.cell (i := 1) rfl
  have hb_2 := Below.new ((w2.alloc (.cells #[.int .i64 1, .slice p2 (wcount 1) c2] 46)).alloc (.cells #[.string ⟨#[97]⟩, .int .i64 1] 51)) (.cells #[.int .i64 1, .slice p1 (wcount 1) c1] 46)
  have kn_2 := Blk.new (w := ((w2.alloc (.cells #[.int .i64 1, .slice p2 (wcount 1) c2] 46)).alloc (.cells #[.string ⟨#[97]⟩, .int .i64 1] 51))) 46 [.int .i64 1, .slice p1 (wcount 1) c1]
  simp only [World.size_alloc] at kn_2
  have k1_2 := k1_1.next hb_2
  have v1_2 := v1_1.below hb_2
  have v2_2 := v2_1.below hb_2
  have bw_2 := Below.next bw_1 hb_2
  have kn_0 := kn_0.next hb_2
  have kn_1 := kn_1.next hb_2
  have x2 := k1_2.cell (i := 0) rfl
  have y2 := k1_2.cell (i := 1) rfl
  have z2 := kn_0.cell (i := 0) rfl
  have t2 := kn_0.cell (i := 1) rfl
  have hb_3 := Below.new (((w2.alloc (.cells #[.int .i64 1, .slice p2 (wcount 1) c2] 46)).alloc (.cells #[.string ⟨#[97]⟩, .int .i64 1] 51)).alloc (.cells #[.int .i64 1, .slice p1 (wcount 1) c1] 46)) (.cells #[.int .i64 1, .slice p1 (wcount 1) c1] 46)
  have kn_3 := Blk.new (w := (((w2.alloc (.cells #[.int .i64 1, .slice p2 (wcount 1) c2] 46)).alloc (.cells #[.string ⟨#[97]⟩, .int .i64 1] 51)).alloc (.cells #[.int .i64 1, .slice p1 (wcount 1) c1] 46))) 46 [.int .i64 1, .slice p1 (wcount 1) c1]
  simp only [World.size_alloc] at kn_3
  have k1_3 := k1_2.next hb_3
  have v1_3 := v1_2.below hb_3
  have v2_3 := v2_2.below hb_3
  have bw_3 := Below.next bw_2 hb_3
  have kn_0 := kn_0.next hb_3
  have kn_1 := kn_1.next hb_3
  have kn_2 := kn_2.next hb_3
  have z3 := kn_0.cell (i := 0) rfl
  have t3 := kn_0.cell (i := 1) rfl
  have hb_4 := Below.new ((((w2.alloc (.cells #[.int .i64 1, .slice p2 (wcount 1) c2] 46)).alloc (.cells #[.string ⟨#[97]⟩, .int .i64 1] 51)).alloc (.cells #[.int .i64 1, .slice p1 (wcount 1) c1] 46)).alloc (.cells #[.int .i64 1, .slice p1 (wcount 1) c1] 46)) (.cells #[.int .i64 1, .slice p2 (wcount 1) c2] 46)
  have kn_4 := Blk.new (w := ((((w2.alloc (.cells #[.int .i64 1, .slice p2 (wcount 1) c2] 46)).alloc (.cells #[.string ⟨#[97]⟩, .int .i64 1] 51)).alloc (.cells #[.int .i64 1, .slice p1 (wcount 1) c1] 46)).alloc (.cells #[.int .i64 1, .slice p1 (wcount 1) c1] 46))) 46 [.int .i64 1, .slice p2 (wcount 1) c2]
  simp only [World.size_alloc] at kn_4
  have k1_4 := k1_3.next hb_4
  have v1_4 := v1_3.below hb_4
  have v2_4 := v2_3.below hb_4
  have bw_4 := Below.next bw_3 hb_4
  have kn_0 := kn_0.next hb_4
  have kn_1 := kn_1.next hb_4
  have kn_2 := kn_2.next hb_4
  have kn_3 := kn_3.next hb_4
  have hb_5 := Below.new (((((w2.alloc (.cells #[.int .i64 1, .slice p2 (wcount 1) c2] 46)).alloc (.cells #[.string ⟨#[97]⟩, .int .i64 1] 51)).alloc (.cells #[.int .i64 1, .slice p1 (wcount 1) c1] 46)).alloc (.cells #[.int .i64 1, .slice p1 (wcount 1) c1] 46)).alloc (.cells #[.int .i64 1, .slice p2 (wcount 1) c2] 46)) (.cells #[.slice (some ⟨w2.heap.size + 1 + 1, 0, none⟩) 1 1, .slice (some ⟨w2.heap.size + 1 + 1 + 1, 0, none⟩) 1 1, .slice (some ⟨w2.heap.size + 1 + 1 + 1 + 1, 0, none⟩) 1 1] 52)
  have kn_5 := Blk.new (w := (((((w2.alloc (.cells #[.int .i64 1, .slice p2 (wcount 1) c2] 46)).alloc (.cells #[.string ⟨#[97]⟩, .int .i64 1] 51)).alloc (.cells #[.int .i64 1, .slice p1 (wcount 1) c1] 46)).alloc (.cells #[.int .i64 1, .slice p1 (wcount 1) c1] 46)).alloc (.cells #[.int .i64 1, .slice p2 (wcount 1) c2] 46))) 52 [.slice (some ⟨w2.heap.size + 1 + 1, 0, none⟩) 1 1, .slice (some ⟨w2.heap.size + 1 + 1 + 1, 0, none⟩) 1 1, .slice (some ⟨w2.heap.size + 1 + 1 + 1 + 1, 0, none⟩) 1 1]
  simp only [World.size_alloc] at kn_5
  have k1_5 := k1_4.next hb_5
  have v1_5 := v1_4.below hb_5
  have v2_5 := v2_4.below hb_5
  have bw_5 := Below.next bw_4 hb_5
  have kn_0 := kn_0.next hb_5
  have kn_1 := kn_1.next hb_5
  have kn_2 := kn_2.next hb_5
  have kn_3 := kn_3.next hb_5
  have kn_4 := kn_4.next hb_5
  have hTr : TrR ((((((w2.alloc (.cells #[.int .i64 1, .slice p2 (wcount 1) c2] 46)).alloc (.cells #[.string ⟨#[97]⟩, .int .i64 1] 51)).alloc (.cells #[.int .i64 1, .slice p1 (wcount 1) c1] 46)).alloc (.cells #[.int .i64 1, .slice p1 (wcount 1) c1] 46)).alloc (.cells #[.int .i64 1, .slice p2 (wcount 1) c2] 46)).alloc (.cells #[.slice (some ⟨w2.heap.size + 1 + 1, 0, none⟩) 1 1, .slice (some ⟨w2.heap.size + 1 + 1 + 1, 0, none⟩) 1 1, .slice (some ⟨w2.heap.size + 1 + 1 + 1 + 1, 0, none⟩) 1 1] 52)) (.agg #[.string ⟨#[109]⟩, .slice (some ⟨w2.heap.size + 1, 0, none⟩) 1 1, .slice (some ⟨w2.heap.size + 1 + 1 + 1 + 1 + 1, 0, none⟩) 3 3]) T0 := by
    refine ⟨⟨_, _, [.slice (some ⟨w2.heap.size + 1 + 1, 0, none⟩) 1 1, .slice (some ⟨w2.heap.size + 1 + 1 + 1, 0, none⟩) 1 1, .slice (some ⟨w2.heap.size + 1 + 1 + 1 + 1, 0, none⟩) 1 1], [[⟨1, p1, c1, 1⟩], [⟨1, p1, c1, 1⟩], [⟨1, p2, c2, 0⟩]], rfl, RO.own (kn_1.own (n := 1) (size := 2) rfl (by decide) 0 (Nat.zero_le _)), RO.own (kn_5.own (n := 3) (size := 1) rfl (by decide) 0 (Nat.zero_le _)), rfl, rfl, fun i v es hv he => ?_⟩, fun s p n c rv e => by cases e; exact Nat.le_refl _⟩
    rcases i with _ | _ | _ | i
    · cases hv; cases he
      exact ⟨RO.own (kn_2.own (n := 1) (size := 2) rfl (by decide) 0 (Nat.zero_le _)), fun e he => by simp at he; subst he; exact v1_5⟩
    · cases hv; cases he
      exact ⟨RO.own (kn_3.own (n := 1) (size := 2) rfl (by decide) 0 (Nat.zero_le _)), fun e he => by simp at he; subst he; exact v1_5⟩
    · cases hv; cases he
      exact ⟨RO.own (kn_4.own (n := 1) (size := 2) rfl (by decide) 0 (Nat.zero_le _)), fun e he => by simp at he; subst he; exact v2_5⟩
    · simp at hv
  have HTr := Lib.hid (And.intro hTr bw_5)
  clear hb_0 kn_0 k1_0 v1_0 v2_0 bw_0 hb_1 kn_1 k1_1 v1_1 v2_1 bw_1 hb_2 kn_2 k1_2 v1_2 v2_2 bw_2 hb_3 kn_3 k1_3 v1_3 v2_3 bw_3 hb_4 kn_4 k1_4 v1_4 v2_4 bw_4 hb_5 kn_5 k1_5 v1_5 v2_5 bw_5 k1 v1 bw hv2 hb2 hf2 hTr
  go_wp2_with fail
  have HW := Lib.hid (write_good HTr.out.1 t0_ok t0_check (by rw [t0_text]; decide) (tab_below HTab.out HTr.out.2))
  rw [t0_text] at HW
  refine HW.out.mono ?_; rintro e w9 ⟨rfl, hb9⟩
  have H9 := Lib.hid (HTr.out.2.trans (hb9.mono HTr.out.2.size))
  have hl : (bstr t0L).toList = t0L := bstr_toList _
  clear hb9 HW x0 y0 x1 y1 x2 y2 z0 t0 z1 t1 z2 t2 z3 t3
  generalize bstr t0L = X at *
  go_wp2_with fail
  go_ret
  exact ⟨congrArg (fun b => Ending.returned (Value.bool b)) (by decide +kernel), H9.out⟩
end Go.Proofs.YtcdjkbgedmehjaaGreatDoor
