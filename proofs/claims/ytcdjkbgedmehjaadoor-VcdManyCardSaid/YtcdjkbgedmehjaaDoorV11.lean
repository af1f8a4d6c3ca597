import Derived.Test.YtcdjkbgedmehjaaDoorV10
namespace Go.Proofs.YtcdjkbgedmehjaaDoor
set_option linter.unusedVariables false
open Go.RowKit Go.Sort

/-! # the reader: the changes of a time -/
/-- the rows' numbers -/
def nums (l : List (List VecE)) : List (List Nat) := l.map fun r => r.map VecE.x
def apTo (r : List Nat) (cs : List (Nat × Nat)) : List Nat := cs.foldl (fun r c => r.set c.1 c.2) r
theorem apTo_snoc (r : List Nat) (cs : List (Nat × Nat)) (c : Nat × Nat) : apTo r (cs ++ [c]) = (apTo r cs).set c.1 c.2 := by simp [apTo]
theorem nums_put (S : RdS) (n i : Nat) (e : VecE) (hn : n < S.rows.length) : nums (S.put n i e).rows = (nums S.rows).set n (((nums S.rows).getD n []).set i e.x) := by
  unfold RdS.put nums
  simp only [List.map_set]
  congr 1
  rw [List.getD_eq_getElem?_getD, List.getD_eq_getElem?_getD, List.getElem?_map, List.getElem?_eq_getElem hn]
  simp
/-- a text that begins with a letter -/
structure Hd (s : ByteArray) (c : UInt8) (t : ByteArray) : Prop where
  pos : 0 < s.size
  at0 : s[0] = c
  rest : s.extract 1 s.size = t
theorem bstr_extract (l : Bs) (a b : Nat) : (bstr l).extract a b = bstr ((l.take b).drop a) := by
  apply ByteArray.ext
  rw [ByteArray.data_extract]
  simp [bstr, List.extract_eq_take_drop, List.drop_take]
theorem Hd.of (c : UInt8) (r : Bs) : Hd (bstr (c :: r)) c (bstr r) := by
  have hsz : (bstr (c :: r)).size = r.length + 1 := by rw [bstr_size]; rfl
  refine ⟨by omega, rfl, ?_⟩
  rw [bstr_extract, bstr_size]
  simp
/-- the words of changes -/
structure ChAt (S : RdS) (m n : Nat) (cs : List (Nat × Nat)) : Prop where
  ids : S.ids = (List.range m).map idL
  vars : S.vars.length = m
  m : m ≤ 300
  wid : ∀ (i : Nat) (v : Bs × Nat), S.vars[i]? = some v → 1 ≤ v.2 ∧ v.2 ≤ 128
  rows : S.rows.length = n + 1
  n : n < 200
  N : (S.toks.length : Int) ≤ 3000000
  at_ : ∀ (j : Nat) (c : Nat × Nat), cs[j]? = some c → ∃ v, S.vars[c.1]? = some v ∧ c.2 < 2 ^ v.2 ∧ (∃ y, S.toks[S.pos + 2 * j]? = some (98 :: bitL v.2 c.2, y)) ∧ ∃ y, S.toks[S.pos + 2 * j + 1]? = some (idL c.1, y)
  end_ : ∀ t, S.toks[S.pos + 2 * cs.length]? = some t → ∃ r, t.1 = 35 :: r
theorem ChAt.nocom {S : RdS} {m n : Nat} {cs : List (Nat × Nat)} (h : ChAt S m n cs) {j : Nat} (hj : j ≤ cs.length) (S' : RdS) (ht : S'.toks = S.toks) (hp : S'.pos = S.pos + 2 * j) : NoCom S' := by
  intro t hto e
  rw [ht, hp] at hto
  rcases Nat.lt_or_ge j cs.length with h1 | h1
  · obtain ⟨v, _, _, ⟨y, hy⟩, _⟩ := h.at_ j _ (List.getElem?_eq_getElem h1)
    rw [hto] at hy
    cases hy
    have e' : (98 : UInt8) :: bitL v.2 cs[j].2 = [36, 99, 111, 109, 109, 101, 110, 116] := e
    simp only [List.cons.injEq] at e'
    exact absurd e'.1 (by decide)
  · obtain rfl : j = cs.length := by omega
    obtain ⟨r, hr⟩ := h.end_ t hto
    rw [hr] at e
    simp only [List.cons.injEq] at e
    exact absurd e.1 (by decide)
set_option maxRecDepth 100000 in
set_option maxHeartbeats 8000000 in
theorem changes_any {base b : Nat} {w : World} {S : RdS} {V : Key → Value} (h : Rdr base b w S V) {m n : Nat} {cs : List (Nat × Nat)} (hc : ChAt S m n cs) :
    Calls Tryd.prog 51 #[.pointer (some ⟨b, 0, none⟩)] w
      fun e w' => e = .returned (.tuple #[]) ∧ (∃ rows', nums rows' = (nums S.rows).set n (apTo ((nums S.rows).getD n []) cs) ∧ Rdr base b w' { S with pos := S.pos + 2 * cs.length, rows := rows' } V) ∧ Below base w w' := by
  have HC := Lib.hid hc
  have H0 := Lib.hid h
  clear h hc
  go_enter Tryd.func51, Tryd.ntmps51
  go_wp2_with fail
  refine (comments_none H0.out (HC.out.nocom (j := 0) (Nat.zero_le _) S rfl rfl)).mono ?_; rintro e w1 ⟨rfl, hr1, hb1⟩
  have H1 := Lib.hid (And.intro hr1 (hb1.mono H0.out.base_le))
  clear hr1 hb1
  go_wp2_with fail
  go_loopw [] (fun wr => ∃ (k : Nat) (rows' : List (List VecE)), k ≤ cs.length ∧ nums rows' = (nums S.rows).set n (apTo ((nums S.rows).getD n []) (cs.take k)) ∧ Rdr base b wr { S with pos := S.pos + 2 * k, rows := rows' } V ∧ Below base w wr) (fun wr => S.pos + 2 * cs.length - posOf wr b)
  case atStart =>
    refine ⟨0, S.rows, Nat.zero_le _, ?_, H1.out.1, H1.out.2⟩
    have hn : n < (nums S.rows).length := by unfold nums; rw [List.length_map, HC.out.rows]; exact Nat.lt_succ_self n
    rw [List.take_zero]
    unfold apTo
    simp only [List.foldl_nil]
    rw [List.getD_eq_getElem?_getD, List.getElem?_eq_getElem hn, Option.getD_some, List.set_getElem_self]
  case round =>
    obtain ⟨k, rows', hk, hnu, hr, hb⟩ := hrel
    have HL := Lib.hid (And.intro hr (And.intro hb hnu))
    have hN := HC.out.N
    clear hr hb hnu
    by_cases hlt : k < cs.length
    · obtain ⟨c, hcc⟩ : ∃ c, cs[k]? = some c := ⟨_, List.getElem?_eq_getElem hlt⟩
      obtain ⟨v, hv, hx, ⟨y, ht⟩, ⟨y', ht'⟩⟩ := HC.out.at_ k c hcc
      obtain ⟨pt, ct, hVt, hrt⟩ := HL.out.1.toks
      obtain ⟨bt, ot, rfl⟩ := hrt.sl (tokCells_at _ _ _ ht).1
      have k0 := (HL.out.1.tokAt hVt ht).1
      have c0 := HL.out.1.cell (i := 0) rfl
      have c1 := HL.out.1.cell (i := 1) rfl
      rw [hVt] at c0
      have htl : S.pos + 2 * k < S.toks.length := (List.getElem?_eq_some_iff.1 ht).1
      have hHd := Hd.of 98 (bitL v.2 c.2)
      have HHd := Lib.hid hHd
      simp only at k0 c0 c1
      obtain ⟨X, hX⟩ : ∃ X, bstr (98 :: bitL v.2 c.2) = X := ⟨_, rfl⟩
      rw [hX] at k0 hHd
      obtain ⟨hp0, ha0, hre⟩ := hHd
      obtain ⟨nt, hnn⟩ : ∃ nt, S.toks.length = nt := ⟨_, rfl⟩
      obtain ⟨kp, hkk⟩ : ∃ kp, S.pos + 2 * k = kp := ⟨_, rfl⟩
      rw [hnn] at c0 htl hN
      rw [hkk] at c1 k0 htl
      have hki : (kp : Int) < nt := by omega
      have hk0 : (0 : Int) ≤ kp := by omega
      have HM : Hid (∀ j, Calls Tryd.prog 23 #[.pointer (some ⟨b, 0, none⟩)] (wr.drewN j) fun e w' => e = .returned (.bool true) ∧ ∃ k, w' = (wr.drewN j).drewN k) := Lib.hid fun j => more_any (HL.out.1.below (below_drewN j)) (decide_eq_true (by show S.pos + 2 * k < S.toks.length; omega))
      have HX := Lib.hid (And.intro hlt (And.intro hkk (And.intro hv (And.intro hx (And.intro ht (And.intro ht' (And.intro hX hcc)))))))
      have hp1 : 1 ≤ X.size := hp0
      clear hVt hrt hnn hkk htl ht ht' hlt hv hx hk hN hX hcc
      go_wp2_with fail
      go_quiet (go_must (exact (HM.out _).mono fun e w' ⟨he, n, hn⟩ => ⟨he, _, hn.trans (World.drewN_drewN _ _ _)⟩))
      have H2 := Lib.hid (And.intro (HL.out.1.below (below_drewN nq)) (HL.out.2.1.trans ((below_drewN (B := wr.heap.size) nq).mono HL.out.1.base_le)))
      clear k0 c0 c1
      generalize wr.drewN nq = w2 at *
      have HNx := Lib.hid (next_any H2.out.1 (t := _) HX.out.2.2.2.2.1 HC.out.N)
      simp only [HX.out.2.2.2.2.2.2.1] at HNx
      go_wp2_with fail
      refine HNx.out.mono ?_; rintro e w3 ⟨rfl, hr3, ho3⟩
      have hbx := Below.new w3 (.cells #[.string X, .int .i64 y] 79)
      have hkx := Blk.new (w := w3) 79 [.string X, .int .i64 y]
      have H3 := Lib.hid (And.intro (hr3.below hbx) (And.intro (H2.out.2.trans ((Only.toB H2.out.1 ho3).trans (hbx.mono hr3.base_le))) hkx))
      have H2b := Lib.hid hr3.mem.lt
      clear hr3 ho3 hbx hkx HNx H2
      go_wp2_with fail
      have hvw := HC.out.wid c.1 v HX.out.2.2.1
      have HBn := Lib.hid (binary_yes (w := w3.alloc (.cells #[.string X, .int .i64 y] 79)) (bitL v.2 c.2) (by intro e; have := congrArg List.length e; rw [bitL_len] at this; simp at this; omega) (by rw [bitL_len]; omega) (bitL_bits _ _))
      clear hvw
      refine HBn.out.mono ?_; rintro e w4 ⟨rfl, hb4⟩
      obtain ⟨g3, hg3⟩ : ∃ g3, w3.heap.size = g3 := ⟨_, rfl⟩
      rw [hg3] at H3
      have hgb : g3 ≠ b := by have := H2b.out; omega
      have H4 := Lib.hid (And.intro (H3.out.1.below hb4) (And.intro (H3.out.2.1.trans (hb4.mono H3.out.1.base_le)) (And.intro (H3.out.2.2.next hb4) hgb)))
      rw [hg3]
      clear hb4 HBn H3 hg3 hgb H2b
      have HNy := Lib.hid (next_any H4.out.1 (t := _) HX.out.2.2.2.2.2.1 HC.out.N)
      go_wp2_with fail
      refine HNy.out.mono ?_; rintro e w5 ⟨rfl, hr5, ho5⟩
      have hbx := Below.new w5 (.cells #[.string (bstr (idL c.1)), .int .i64 y'] 79)
      have hk5 : Blk (w5.alloc (.cells #[.string (bstr (idL c.1)), .int .i64 y'] 79)) g3 79 [.string X, .int .i64 y] := by
        have hk := H4.out.2.2.1
        have h1 : Blk w5 g3 79 [.string X, .int .i64 y] := by
          unfold Blk at hk ⊢
          rw [ho5.block g3 (by rw [Array.getElem?_eq_some_iff] at hk; exact hk.1) H4.out.2.2.2]; exact hk
        exact h1.next hbx
      have H5 := Lib.hid (And.intro (hr5.below hbx) (H4.out.2.1.trans ((Only.toB H4.out.1 ho5).trans (hbx.mono hr5.base_le))))
      have d0 := hk5.cell (i := 0) rfl
      have d1 := hk5.cell (i := 1) rfl
      have c8 := H5.out.1.cell (i := 8) rfl
      clear hr5 ho5 hbx hk5 HNy H4
      have hrw : rows'.length = n + 1 := by
        have := congrArg List.length HL.out.2.2
        unfold nums at this
        simp only [List.length_map, List.length_set] at this
        rw [this]; exact HC.out.rows
      have hcm : c.1 < m := by rw [← HC.out.vars]; exact (List.getElem?_eq_some_iff.1 HX.out.2.2.1).1
      have HCh := Lib.hid (change_any (n := n) (x := c.2) H5.out.1 (v := v) HC.out.ids hcm HC.out.m HX.out.2.2.1 (HC.out.wid _ _ HX.out.2.2.1).1 (HC.out.wid _ _ HX.out.2.2.1).2 HX.out.2.2.2.1 hrw HC.out.n X y y')
      have HRW := Lib.hid (And.intro hrw hcm)
      clear hrw hcm
      simp only
      go_wp2_with fail
      refine HCh.out.mono ?_; rintro e w6 ⟨rfl, ⟨ve, hve1, hve2, hr6⟩, hb6⟩
      clear d0 d1 c8 HCh
      have hnn : n < rows'.length := by rw [HRW.out.1]; exact Nat.lt_succ_self n
      have hr6' : Rdr base b w6 { S with pos := S.pos + 2 * (k + 1), rows := rows'.set n ((rows'.getD n []).set c.1 ve) } V := by
        have e : ({ S with pos := S.pos + 2 * k + 1 + 1, rows := rows' } : RdS).put n c.1 ve = { S with pos := S.pos + 2 * (k + 1), rows := rows'.set n ((rows'.getD n []).set c.1 ve) } := by
          unfold RdS.put
          simp only [RdS.mk.injEq, true_and, and_true]
          omega
        rw [← e]; exact hr6
      have hnu : nums (rows'.set n ((rows'.getD n []).set c.1 ve)) = (nums S.rows).set n (apTo ((nums S.rows).getD n []) (cs.take (k + 1))) := by
        have e := nums_put { S with rows := rows' } n c.1 ve hnn
        have e' : (RdS.put { S with rows := rows' } n c.1 ve).rows = rows'.set n ((rows'.getD n []).set c.1 ve) := rfl
        have hnS : n < (nums S.rows).length := by unfold nums; rw [List.length_map, HC.out.rows]; exact Nat.lt_succ_self n
        rw [e'] at e
        rw [e]
        simp only
        rw [HL.out.2.2, List.set_set, List.getD_eq_getElem?_getD, List.getElem?_set_self hnS, Option.getD_some, hve2, List.take_add_one, HX.out.2.2.2.2.2.2.2]
        simp only [Option.toList_some]
        rw [apTo_snoc]
      have H6 := Lib.hid (And.intro hr6' (And.intro (H5.out.2.trans hb6) hnu))
      clear hr6 hr6' hb6 hnu hnn H5 HRW
      have NC := Lib.hid (comments_none H6.out.1 (HC.out.nocom (j := k + 1) HX.out.1 { S with pos := S.pos + 2 * (k + 1), rows := rows'.set n ((rows'.getD n []).set c.1 ve) } rfl rfl))
      go_wp2_with fail
      refine NC.out.mono ?_; rintro e w7 ⟨rfl, hr7, hb7⟩
      have H7 := Lib.hid (And.intro hr7 (H6.out.2.1.trans (hb7.mono H6.out.1.base_le)))
      clear hr7 hb7 NC
      go_wp2_with fail
      go_roundw
      case rel => exact ⟨k + 1, _, HX.out.1, H6.out.2.2, H7.out.1, H7.out.2⟩
      case measure =>
        have e1 := H7.out.1.posOf
        have e2 := HL.out.1.posOf
        have := HX.out.1
        simp only at e1 e2
        omega
    · obtain rfl : k = cs.length := by omega
      clear hk hlt
      by_cases htl : S.pos + 2 * cs.length < S.toks.length
      · obtain ⟨t, ht⟩ : ∃ t, S.toks[S.pos + 2 * cs.length]? = some t := ⟨_, List.getElem?_eq_getElem htl⟩
        obtain ⟨r, hr⟩ := HC.out.end_ t ht
        obtain ⟨pt, ct, hVt, hrt⟩ := HL.out.1.toks
        obtain ⟨bt, ot, rfl⟩ := hrt.sl (tokCells_at _ _ _ ht).1
        have k0 := (HL.out.1.tokAt hVt ht).1
        have c0 := HL.out.1.cell (i := 0) rfl
        have c1 := HL.out.1.cell (i := 1) rfl
        rw [hVt] at c0
        have hHd := Hd.of 35 r
        rw [← hr] at hHd
        simp only at k0 c0 c1
        generalize bstr t.1 = X at k0 hHd
        obtain ⟨hp0, ha0, hre⟩ := hHd
        obtain ⟨nt, hnn⟩ : ∃ nt, S.toks.length = nt := ⟨_, rfl⟩
        obtain ⟨kp, hkk⟩ : ∃ kp, S.pos + 2 * cs.length = kp := ⟨_, rfl⟩
        rw [hnn] at c0 htl hN
        rw [hkk] at c1 k0 htl
        have hki : (kp : Int) < nt := by omega
        have hk0 : (0 : Int) ≤ kp := by omega
        have HM : Hid (∀ j, Calls Tryd.prog 23 #[.pointer (some ⟨b, 0, none⟩)] (wr.drewN j) fun e w' => e = .returned (.bool true) ∧ ∃ k, w' = (wr.drewN j).drewN k) := Lib.hid fun j => more_any (HL.out.1.below (below_drewN j)) (decide_eq_true (by show S.pos + 2 * cs.length < S.toks.length; omega))
        clear hVt hrt hnn hkk htl ht hN hre hr
        go_wp2_with fail
        go_quiet (go_must (exact (HM.out _).mono fun e w' ⟨he, n, hn⟩ => ⟨he, _, hn.trans (World.drewN_drewN _ _ _)⟩))
        have H2 := Lib.hid (And.intro (HL.out.1.below (below_drewN nq)) (HL.out.2.1.trans ((below_drewN (B := wr.heap.size) nq).mono HL.out.1.base_le)))
        clear k0 c0 c1
        generalize wr.drewN nq = w2 at *
        go_wp2_with fail
        go_end0
        refine ⟨rfl, ⟨rows', ?_, H2.out.1⟩, H2.out.2⟩
        have := HL.out.2.2
        rwa [List.take_length] at this
      · have HM : Hid (∀ j, Calls Tryd.prog 23 #[.pointer (some ⟨b, 0, none⟩)] (wr.drewN j) fun e w' => e = .returned (.bool false) ∧ ∃ k, w' = (wr.drewN j).drewN k) := Lib.hid fun j => more_any (HL.out.1.below (below_drewN j)) (decide_eq_false (by show ¬ S.pos + 2 * cs.length < S.toks.length; omega))
        clear htl
        go_wp2_with fail
        go_quiet (go_must (exact (HM.out _).mono fun e w' ⟨he, n, hn⟩ => ⟨he, _, hn.trans (World.drewN_drewN _ _ _)⟩))
        have H2 := Lib.hid (And.intro (HL.out.1.below (below_drewN nq)) (HL.out.2.1.trans ((below_drewN (B := wr.heap.size) nq).mono HL.out.1.base_le)))
        generalize wr.drewN nq = w2 at *
        go_wp2_with fail
        go_end0
        refine ⟨rfl, ⟨rows', ?_, H2.out.1⟩, H2.out.2⟩
        have := HL.out.2.2
        rwa [List.take_length] at this
end Go.Proofs.YtcdjkbgedmehjaaDoor
