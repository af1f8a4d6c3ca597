/- Texts of this claim, one behind another: V13. They state lemmas; each names its own conditions. -/
import Derived.Test.YtcdjkbgedmehjaaGreatDoorZF
import Derived.Test.YtcdjkbgedmehjaaGreatDoorVB11
namespace Go.Proofs.YtcdjkbgedmehjaaGreatDoor
set_option linter.unusedVariables false
open Go.RowKit Go.Sort

theorem step_appR {P : Program} {w : World} {ops : Array Oper} {o : Oper} {a : Act} {K : Act → World → Prop} {Q : Exit → Act → World → Prop} {E : Prop} (hgd : o.guard = none) (s x : Operand) (t : TypeId)
    (ho : o.op = .call { callee := .builtin .append, args := #[s, x], argTypes := #[t, t] })
    {e size bytes : Nat} {z : Value} (T : SlTy P t e size bytes z) (base : Nat)
    (v : Value) (n : Nat) (xs : List Value) (hs : a.eval s = v) (hown : w.ownsRow base e size v n xs)
    (y : Value) (m : Nat) (news : List Value) (hx : a.eval x = y) (hy : RO w y size m news) (h1 : ∀ u ∈ news, u.oneCell' = true)
    (hbytes : (n + m) * bytes ≤ 140737488355328) (h63 : n + m ≤ 140737488355328) (hbase : base ≤ w.heap.size)
    (h : ∀ v' w', AppR base e size w v (n + m) (xs ++ news) v' w' → K (a.put o.dst v') w') : if Region.wanted o (yielded ops a.tmps) = true then Oper.wp P o a w K Q else E := by
  have hw : Region.wanted o (yielded ops a.tmps) = true := by simp [Region.wanted, hgd]
  rw [if_pos hw]
  obtain ⟨i, hi, hz, hsz, hby⟩ := T.i
  have hml : n + m ≤ maxLen := by simp only [maxLen]; omega
  obtain ⟨hl, p, c, rfl, hcell⟩ := hy
  have hrun : ∃ v' w', (Builtin.append_ #[t, t] o.type #[v, .slice p m c]).run P w = .ok v' w' ∧ AppR base e size w v (n + m) (xs ++ news) v' w' := by
    cases p with
    | none =>
      have hnil : news = [] := by
        cases news with
        | nil => rfl
        | cons u r => obtain ⟨b, o', hb, _⟩ := hcell 0 u rfl; cases hb
      subst hnil
      have hm : m = 0 := by
        have h0 := T.sz
        have h1 : m * size = 0 := by simpa using hl.symm
        rcases Nat.mul_eq_zero.1 h1 with h2 | h2
        · exact h2
        · omega
      subst hm
      obtain ⟨p', c', rfl, hle⟩ := ownsRow_le hown
      exact ⟨_, w, run_append_nothing t o.type e size T.u hi p' n c' c hle, by simpa using hown, ⟨rfl, rfl, rfl, Nat.le_refl _, fun _ _ _ => rfl⟩, .inl rfl⟩
    | some ad =>
      have hc : ∀ j u, news[j]? = some u → w.cell? (ad.add j) = some u := by
        intro j u hu
        obtain ⟨b, o', hb, hc⟩ := hcell j u hu
        obtain rfl : ad = ⟨b, o', none⟩ := by simpa using hb
        have hadd : (⟨b, o', none⟩ : Addr).add j = ⟨b, o' + j, none⟩ := by unfold Addr.add; split <;> simp_all
        rw [hadd]; exact hc
      obtain ⟨v', w', hr, h2, h3, _, h5⟩ := run_append_own_at (P := P) w base t o.type e i z size bytes T.u hi hz hsz hby T.zs T.sz v n xs hown ad m c news hl hc h1 hml hbytes hbase
      exact ⟨v', w', hr, h2, h3, h5⟩
  obtain ⟨v', w', hr, hA⟩ := hrun
  unfold Oper.wp execOp
  simp only [ho, resolve, invoke, builtin, Sem.run_bind, Sem.run_pure, Result.andThen_ok, List.map_toArray, List.map_cons, List.map_nil, hs, hx, hr]
  exact h _ _ hA
/-! # the reader: a time -/
/-- the words of a time, behind n others -/
structure TimeAt (S : RdS) (m n : Nat) (cs : List (Nat × Nat)) : Prop where
  ids : S.ids = (List.range m).map idL
  vars : S.vars.length = m
  m : m ≤ 300
  wid : ∀ (i : Nat) (v : Bs × Nat), S.vars[i]? = some v → 1 ≤ v.2 ∧ v.2 ≤ 128
  rows : S.rows.length = n
  hn : n < 200
  N : (S.toks.length : Int) ≤ 3000000
  t0 : ∃ y, S.toks[S.pos]? = some (35 :: digS (decDs n), y)
  at_ : ∀ (j : Nat) (c : Nat × Nat), cs[j]? = some c → ∃ v, S.vars[c.1]? = some v ∧ c.2 < 2 ^ v.2 ∧ (∃ y, S.toks[S.pos + 1 + 2 * j]? = some (98 :: bitL v.2 c.2, y)) ∧ ∃ y, S.toks[S.pos + 1 + 2 * j + 1]? = some (idL c.1, y)
  end_ : ∀ t, S.toks[S.pos + 1 + 2 * cs.length]? = some t → ∃ r, t.1 = 35 :: r
theorem TimeAt.ch {S : RdS} {m n : Nat} {cs : List (Nat × Nat)} (h : TimeAt S m n cs) (es : List VecE) : ChAt { S with pos := S.pos + 1, rows := S.rows ++ [es] } m n cs :=
  ⟨h.ids, h.vars, h.m, h.wid, by simp [h.rows], h.hn, h.N, h.at_, h.end_⟩
theorem rowCells_snoc (l : List VecE) (e : VecE) : rowCells l ++ [.int .i64 e.w, .slice e.p (wcount e.w) e.c] = rowCells (l ++ [e]) := by simp [rowCells]
/-- a row of zeros under way -/
structure ZRow (W wr : World) (vars : List (Bs × Nat)) (j : Nat) (zv : Value) (es : List VecE) : Prop where
  len : es.length = j
  own : wr.ownsRow W.heap.size 46 2 zv j (rowCells es)
  bel : Below W.heap.size W wr
  vec : ∀ (i : Nat) (e : VecE) (v : Bs × Nat), es[i]? = some e → vars[i]? = some v → e.w = v.2 ∧ e.x = 0 ∧ VR wr (vecV e) e.w e.x ∧ ∀ k p m' c bo o, vecV e = .agg #[k, .slice p m' c] → p = some ⟨bo, o, none⟩ → W.heap.size ≤ bo ∧ bo < wr.heap.size ∧ zv.ownBlock ≠ some bo
theorem ZRow.app {W wr w3 w4 : World} {vars : List (Bs × Nat)} {j : Nat} {zv zv' : Value} {es : List VecE} (h : ZRow W wr vars j zv es) {e : VecE} (hb : Below wr.heap.size wr w3) (hv : VR w3 (vecV e) e.w e.x) (hx : e.x = 0) (hn : 0 < e.w) (hf : Far wr (vecV e)) (hvar : ∀ v, vars[j]? = some v → e.w = v.2)
    (ha : AppR W.heap.size 46 2 w3 zv (j + 1) (rowCells es ++ [.int .i64 e.w, .slice e.p (wcount e.w) e.c]) zv' w4) : ZRow W w4 vars (j + 1) zv' (es ++ [e]) := by
  have hzl := own_lt h.own
  have hW : W.heap.size ≤ wr.heap.size := h.bel.size
  have hkeep : ∀ bo, bo < w3.heap.size → zv.ownBlock ≠ some bo → w4.heap[bo]? = w3.heap[bo]? := fun bo hbo hne => ha.grown.block bo hbo (Ne.symm hne)
  have hz' : ∀ bo, bo < w3.heap.size → zv.ownBlock ≠ some bo → zv'.ownBlock ≠ some bo := fun bo hbo hne e' => by
    rcases ha.at_ with h1 | h1
    · rw [h1] at e'; exact hne e'
    · rw [h1] at e'; cases e'; exact absurd hbo (Nat.lt_irrefl _)
  refine ⟨by simp [h.len], by rw [← rowCells_snoc]; exact ha.own, ha.below (h.bel.trans (hb.mono hW)) (Nat.le_trans hW hb.size) (fun k hk => (hzl k hk).1), fun i e' v hi hvi => ?_⟩
  rcases Nat.lt_or_ge i es.length with h1 | h1
  · rw [List.getElem?_append_left h1] at hi
    obtain ⟨a1, a2, a3, a4⟩ := h.vec i e' v hi hvi
    refine ⟨a1, a2, (a3.below hb).keepB fun k p m' c bo o ev hp hlt => ?_, fun k p m' c bo o ev hp => ?_⟩
    · obtain ⟨b1, b2, b3⟩ := a4 k p m' c bo o ev hp
      exact hkeep bo hlt b3
    · obtain ⟨b1, b2, b3⟩ := a4 k p m' c bo o ev hp
      have hlt : bo < w3.heap.size := Nat.lt_of_lt_of_le b2 hb.size
      exact ⟨b1, Nat.lt_of_lt_of_le hlt ha.grown.size, hz' bo hlt b3⟩
  · rw [List.getElem?_append_right h1] at hi
    obtain ⟨h2, rfl⟩ : i - es.length = 0 ∧ e = e' := by
      cases hh : i - es.length with
      | zero => rw [hh] at hi; simp at hi; exact ⟨rfl, hi⟩
      | succ k => rw [hh] at hi; simp at hi
    have hij : i = j := by have := h.len; omega
    subst hij
    have hne : ∀ k p m' c bo o, vecV e = .agg #[k, .slice p m' c] → p = some ⟨bo, o, none⟩ → wr.heap.size ≤ bo ∧ zv.ownBlock ≠ some bo := fun k p m' c bo o ev hp => by
      have := hf k p m' c bo o ev hp
      exact ⟨this, fun e' => by have := (hzl bo e').2; omega⟩
    refine ⟨hvar v hvi, hx, hv.keepB fun k p m' c bo o ev hp hlt => hkeep bo hlt (hne k p m' c bo o ev hp).2, fun k p m' c bo o ev hp => ?_⟩
    have hlt := hv.lts hn k p m' c bo o ev hp
    exact ⟨Nat.le_trans hW (hne k p m' c bo o ev hp).1, Nat.lt_of_lt_of_le hlt ha.grown.size, hz' bo hlt (hne k p m' c bo o ev hp).2⟩
theorem ZRow.sep {base b : Nat} {W wr : World} {S : RdS} {V : Key → Value} {zv : Value} {es : List VecE} (h : ZRow W wr S.vars S.vars.length zv es) (hr : Rdr base b W S V) (j : Nat) (e : VecE) (v : Bs × Nat) (he : es[j]? = some e) (hv : S.vars[j]? = some v) :
    e.w = v.2 ∧ VR wr (vecV e) e.w e.x ∧ Sep wr.heap.size (upd (Rof S V) (.row S.rows.length) (zv, es.length, rowCells es)) b (vecV e) := by
  obtain ⟨a1, a2, a3, a4⟩ := h.vec j e v he hv
  refine ⟨a1, a3, fun k p m' c bo o ev hp => ?_⟩
  obtain ⟨b1, b2, b3⟩ := a4 k p m' c bo o ev hp
  refine ⟨b2, by have := hr.mem.lt; omega, fun q e' => ?_⟩
  by_cases hq : q = .row S.rows.length
  · subst hq; rw [upd_same] at e'; exact b3 e'
  · rw [upd_other _ _ hq] at e'; have := (hr.mem.lts q bo e').2; omega
theorem Sep.below {N N' b : Nat} {R : Key → RowV} {v : Value} (h : Sep N R b v) (hN : N ≤ N') : Sep N' R b v := h.mono hN
theorem ownsRow_base {w : World} {base base' e size n : Nat} {v : Value} {xs : List Value} (h : w.ownsRow base' e size v n xs) (hb : base ≤ base') : w.ownsRow base e size v n xs := by
  refine ⟨h.1, ?_⟩
  rcases h.2 with h0 | ⟨g, cap, cur, h1, h2, h3⟩
  · exact .inl h0
  · exact .inr ⟨g, cap, cur, h1, Nat.le_trans hb h2, h3⟩

theorem fin_nums {rows : List (List VecE)} {es : List VecE} {n : Nat} (hn : rows.length = n) (cs : List (Nat × Nat)) : (nums (rows ++ [es])).set n (apTo ((nums (rows ++ [es])).getD n []) cs) = nums rows ++ [apTo (es.map VecE.x) cs] := by
  have hl : (nums rows).length = n := by simp [nums, hn]
  have e : nums (rows ++ [es]) = nums rows ++ [es.map VecE.x] := by simp [nums]
  rw [e, List.getD_eq_getElem?_getD, List.getElem?_append_right (by omega), hl, Nat.sub_self, List.set_append_right _ _ (by omega), hl, Nat.sub_self]
  rfl
theorem hasp (s : ByteArray) (c : UInt8) (t : ByteArray) (h : Hd s c t) : Lib.hasPrefix s.data.toList [c] = true := by
  have h0 := h.at0
  have hp := h.pos
  obtain ⟨⟨l⟩⟩ := s
  cases l with
  | nil => exact absurd hp (Nat.lt_irrefl _)
  | cons a l =>
    have e : a = c := h0
    subst e
    simp [Lib.hasPrefix]
set_option maxRecDepth 100000 in
set_option maxHeartbeats 8000000 in
theorem time_zero {base b : Nat} {w : World} {S : RdS} {V : Key → Value} (h : Rdr base b w S V) {m n : Nat} {cs : List (Nat × Nat)} (ht : TimeAt S m n cs) (hn : n = 0) :
    Calls Tryz.prog 37 #[.pointer (some ⟨b, 0, none⟩)] w
      fun e w' => e = .returned (.tuple #[]) ∧ (∃ rows' V', nums rows' = nums S.rows ++ [apTo (List.replicate m 0) cs] ∧ Rdr base b w' { S with pos := S.pos + 1 + 2 * cs.length, rows := rows' } V') ∧ Below base w w' := by
  have HT := Lib.hid ht
  obtain ⟨y0, ht0⟩ := ht.t0
  have HNx := Lib.hid (next_any h ht0 ht.N)
  have hHd := Hd.of 35 (digS (decDs n))
  have hpx := hasp _ _ _ hHd
  have HP : Hid (∀ w', Calls Tryz.prog 63 #[.string (bstr (35 :: digS (decDs n))), .string ⟨#[35]⟩] w' fun e w'' => e = .returned (.bool true) ∧ w' = w'') := Lib.hid fun w' => by
    have hh := Tryz.strings_HasPrefix (bstr (35 :: digS (decDs n))) ⟨#[35]⟩ w'
    rw [show (⟨#[35]⟩ : ByteArray).data.toList = [35] from rfl, hpx] at hh
    exact hh.mono fun e w'' hh => ⟨hh.1, hh.2.symm⟩
  obtain ⟨X, hX⟩ : ∃ X, bstr (35 :: digS (decDs n)) = X := ⟨_, rfl⟩
  have hval : decV (decDs n) = n := decDs_val n
  have hl3 : (decDs n).length ≤ 2 + 1 := decDs_len n 2 (by have := ht.hn; omega)
  have HNum : Hid (∀ w', Calls Tryz.prog 64 #[.string (bstr (digS (decDs n))), .int .i64 6] w' fun e w'' => e = .returned (.int .i64 n) ∧ w' = w'') := Lib.hid fun w' => by
    have hh := number_any (decDs n) 6 (decDs_ne n) (by omega) (by decide) (decDs_lt n) _ rfl w'
    rw [hval] at hh
    exact hh
  rw [hX] at hHd HP
  simp only [hX] at HNx
  have hlt := h.mem.lt
  have hni : (n : Int) < 200 := by have := ht.hn; omega
  have hn0 : (0 : Int) ≤ n := by omega
  obtain ⟨hp0, ha0, hre⟩ := hHd
  have hp1 : 1 ≤ X.size := hp0
  generalize bstr (digS (decDs n)) = D at hre HNum
  have H0 := Lib.hid h
  have HLt := Lib.hid hlt
  clear h ht ht0 hpx hval hl3 hX hlt ha0
  go_enter Tryz.func37, Tryz.ntmps37
  go_wp2_with fail
  refine HNx.out.mono ?_; rintro e w1 ⟨rfl, hr1, ho1⟩
  have hbx := Below.new w1 (.cells #[.string X, .int .i64 y0] 97)
  have H1 := Lib.hid (And.intro (hr1.below hbx) ((Only.toB H0.out ho1).trans (hbx.mono hr1.base_le)))
  obtain ⟨pv5, cv5, hV5, _⟩ := H1.out.1.valsRO
  have c5 := H1.out.1.cell (i := 5) rfl
  have c8 := H1.out.1.cell (i := 8) rfl
  rw [hV5] at c5
  rw [show ({ S with pos := S.pos + 1 } : RdS).rows.length = n from HT.out.rows] at c5
  clear hr1 ho1 hbx HNx H0
  have HV5 := Lib.hid hV5
  clear hV5
  go_wp2_with fail
  refine (HP.out _).mono ?_; rintro e w2 ⟨rfl, rfl⟩
  clear HP
  go_wp2_with fail
  refine (HNum.out _).mono ?_; rintro e w2 ⟨rfl, rfl⟩
  clear HNum
  subst hn
  obtain ⟨pv, cv, hVv, hov⟩ := H1.out.1.varsRO
  have c4 := H1.out.1.cell (i := 4) rfl
  rw [hVv] at c4
  simp only at c4 hov
  rw [HT.out.vars] at c4
  have HVv := Lib.hid (And.intro hVv (RO.own hov))
  clear hVv hov
  generalize w1.alloc (.cells #[.string X, .int .i64 y0] 97) = W at *
  have hmi : (m : Int) ≤ 300 := by have := HT.out.m; omega
  go_wp2_with fail
  clear c4 c5 c8
  go_loopw [4, 58] (fun zv kv wr => ∃ (j : Nat) (es : List VecE), j ≤ m ∧ kv = .int .i64 j ∧ ZRow W wr S.vars j zv es) (fun _ kv _ => m - (intOf kv).toNat)
  case atStart => exact ⟨0, [], Nat.zero_le _, rfl, rfl, World.ownsRow_nil _ _ _ _, Below.refl _ _, fun i e v hi => by simp at hi⟩
  case round =>
    obtain ⟨j, es, hj, rfl, hz⟩ := hrel
    obtain ⟨pz, cz, rfl⟩ := ownsRow_form hz.own
    have HZ := Lib.hid hz
    clear hz
    by_cases hlt : j < m
    · obtain ⟨v, hv⟩ : ∃ v, S.vars[j]? = some v := ⟨_, List.getElem?_eq_getElem (by rw [HT.out.vars]; exact hlt)⟩
      have hro := HVv.out.2.below HZ.out.bel
      obtain ⟨vb, vo, rfl⟩ := hro.sl (tokCells_at _ _ _ hv).1
      have k0 := hro.cell (tokCells_at _ _ _ hv).1
      have k1 := hro.cell (tokCells_at _ _ _ hv).2
      rw [← Nat.add_assoc] at k1
      have hw := HT.out.wid j v hv
      obtain ⟨wd, hwd⟩ : ∃ wd, v.2 = wd := ⟨_, rfl⟩
      rw [hwd] at k1 hw
      generalize bstr v.1 = XN at k0
      have hbv := Below.new wr (.cells #[.string XN, .int .i64 wd] 51)
      have hnil : RO (wr.alloc (.cells #[.string XN, .int .i64 wd] 51)) (.slice none 0 0) 1 ([] : List Nat).length (natsV []) := ⟨rfl, none, 0, rfl, fun j u hu => by simp [natsV] at hu⟩
      have HNew := Lib.hid (new_good wd hw.1 hw.2 _ hnil (by simp))
      rw [show valW [] % 2 ^ wd = 0 by simp [valW]] at HNew
      have HX := Lib.hid (And.intro hlt (And.intro hv (And.intro hwd (And.intro hw.1 hbv))))
      have hji : (j : Int) < m := by omega
      have hj0 : (0 : Int) ≤ j := by omega
      have hjw : IntKind.i64.wrap ((j : Int) + 1) = (j : Int) + 1 := i64_of (by omega)
      clear hro hv hwd hw hbv hnil hlt hj
      go_wp2_with fail
      refine HNew.out.mono ?_; rintro e w2 ⟨v2, rfl, hv2, hb2, hf2⟩
      obtain ⟨p2, c2, rfl, _⟩ := hv2.ex
      have hbA := Below.next (HX.out.2.2.2.2.trans (hb2.mono HX.out.2.2.2.2.size)) (Below.new w2 (.cells #[.int .i64 wd, .slice p2 (wcount wd) c2] 46))
      have hbB := Below.next hbA (Below.new (w2.alloc (.cells #[.int .i64 wd, .slice p2 (wcount wd) c2] 46)) (.cells #[.int .i64 wd, .slice p2 (wcount wd) c2] 46))
      have hkB := Blk.new (w := w2.alloc (.cells #[.int .i64 wd, .slice p2 (wcount wd) c2] 46)) 46 [.int .i64 wd, .slice p2 (wcount wd) c2]
      simp only [World.size_alloc] at hkB
      have hvB := (hv2.below (Below.new w2 (.cells #[.int .i64 wd, .slice p2 (wcount wd) c2] 46))).below (Below.new (w2.alloc (.cells #[.int .i64 wd, .slice p2 (wcount wd) c2] 46)) (.cells #[.int .i64 wd, .slice p2 (wcount wd) c2] 46))
      have hfB : Far wr (.agg #[.int .i64 wd, .slice p2 (wcount wd) c2]) := fun k p m c bo o e hp => Nat.le_trans HX.out.2.2.2.2.size (hf2 k p m c bo o e hp)
      have HB := Lib.hid (And.intro hbB (And.intro (RO.own (hkB.own (n := 1) (size := 2) rfl (by decide) 0 (Nat.zero_le _))) (And.intro hvB (And.intro hfB (ownsRow_below HZ.out.own hbB)))))
      clear hv2 hb2 hf2 hbA hbB hkB hvB hfB HNew k0 k1
      go_wp2_with (at_builtin; refine wpList_appR rfl _ _ 52 rfl TVecs W.heap.size (.slice pz j cz) j _ rfl HB.out.2.2.2.2 _ 1 _ rfl HB.out.2.1 (by simp [Value.oneCell']) (by omega) (by omega) (Nat.le_trans HZ.out.bel.size HB.out.1.size) ?_; intro v4 w4 happ; obtain ⟨p4, c4, ev4⟩ := ownsRow_form happ.own; subst ev4; have HP := Lib.hid happ; clear happ)
      have hz4 := HZ.out.app (e := ⟨wd, p2, c2, 0⟩) HB.out.1 HB.out.2.2.1 rfl HX.out.2.2.2.1 HB.out.2.2.2.1 (fun v' hv' => by rw [HX.out.2.1] at hv'; cases hv'; exact HX.out.2.2.1.symm) HP.out
      have HZ4 := Lib.hid hz4
      clear hz4 HP
      go_roundw
      case rel => exact ⟨j + 1, _, HX.out.1, by go_num, HZ4.out⟩
      case measure => have := HX.out.1; simp [intOf]; omega
    · obtain rfl : j = m := by omega
      clear hlt hj HVv
      go_upto_region 19 with fail
      have hbx := Below.new wr (.cells #[.slice pz j cz] 52)
      have hkx := Blk.new (w := wr) 52 [.slice pz j cz]
      have hbW := Below.next HZ.out.bel hbx
      have hr5 := H1.out.1.below hbW
      obtain ⟨pv5', cv5', hV5, ho5⟩ := hr5.valsRO
      have e5 := HV5.out.symm.trans hV5
      simp only [Value.slice.injEq] at e5
      obtain ⟨rfl, -, rfl⟩ := e5
      have hrl : ({ S with pos := S.pos + 1 } : RdS).rows.length = 0 := HT.out.rows
      rw [hrl] at ho5
      have c5 := (H1.out.1.below HZ.out.bel).cell (i := 5) rfl
      rw [HV5.out, hrl] at c5
      have f5 := (H1.out.1.below HZ.out.bel).blk.frz 5
      have HK : Hid (∀ v' w', AppR base 52 1 (wr.alloc (.cells #[.slice pz j cz] 52)) (.slice pv5 0 cv5) (0 + 1) (((List.range 0).map fun i => V (.row i)) ++ [.slice pz j cz]) v' w' → w'.heap[b]? = wr.heap[b]?) := Lib.hid fun v' w' happ => by
        rw [happ.grown.block b hr5.mem.lt (by have := hr5.mem.nb .vals; rw [show (Rof _ V Key.vals).1 = V .vals from rfl, HV5.out, hrl] at this; exact Ne.symm this)]
        exact hbx.block b (H1.out.1.below HZ.out.bel).mem.lt
      have HO := Lib.hid (And.intro ho5 (And.intro (RO.own (hkx.own (n := 1) (size := 1) rfl (by decide) 0 (Nat.zero_le _))) (And.intro hr5.base_le hbW)))
      clear hbx hkx hbW hr5 hV5 ho5
      go_upto_region 21 with (at_builtin; refine wpList_appR rfl _ _ 29 rfl TRows base (.slice pv5 0 cv5) 0 _ rfl HO.out.1 _ 1 _ rfl HO.out.2.1 (by simp [Value.oneCell']) (by omega) (by omega) HO.out.2.2.1 ?_; intro v4 w4 happ; obtain ⟨p6, c6', ev4⟩ := ownsRow_form happ.own; subst ev4; have e6 := HK.out _ _ happ; have c5' := (World.cell?_of_block (a := ⟨b, 5, none⟩) e6).trans c5; have f5' := (World.frozen?_of_block (a := ⟨b, 5, none⟩) e6).trans f5; have HP := Lib.hid happ; clear happ e6)
      clear c5 f5 c5' f5' HK
      have hml : j = S.vars.length := HT.out.vars.symm
      have hsub : ∀ q : Nat, q = j → ZRow W wr S.vars q (.slice pz j cz) es := fun q hq => hq ▸ HZ.out
      have hzs := ZRow.sep (S := { S with pos := S.pos + 1 }) (hsub S.vars.length hml.symm) H1.out.1
      have hq : AppR base 52 1 (wr.alloc (.cells #[.slice pz j cz] 52)) (V .vals) (({ S with pos := S.pos + 1 } : RdS).rows.length + 1) (((List.range ({ S with pos := S.pos + 1 } : RdS).rows.length).map fun i => V (.row i)) ++ [.slice pz j cz]) (.slice p6 (0 + 1) c6') w4 := by
        rw [HV5.out, hrl]; exact HP.out
      have hadd := H1.out.1.addRow es (N := W.heap.size) (Nat.le_refl _) HO.out.2.2.2 (by rw [HZ.out.len]; exact ownsRow_below HZ.out.own (Below.new _ _)) (by rw [HZ.out.len]; exact hml)
        (fun i e v he hv => by
          obtain ⟨a1, a2, a3⟩ := hzs i e v he hv
          exact ⟨a1, a2.below (Below.new _ _), a3.mono (Below.new wr _).size⟩) hq
      have hbel : Below base w (w4.setCell ⟨b, 5, none⟩ (.slice p6 (0 + 1) c6')) := H1.out.2.trans ((HO.out.2.2.2.mono H1.out.1.base_le).trans ((H1.out.1.below HO.out.2.2.2).appB .vals 5 rfl hq))
      generalize w4.setCell ⟨b, 5, none⟩ (.slice p6 (0 + 1) c6') = w7 at *
      clear hq hzs hsub HP HO hrl
      have HR := Lib.hid (And.intro hadd hbel)
      clear hadd hbel
      have HCh := Lib.hid (changes_any HR.out.1 (HT.out.ch es))
      go_wp2_with fail
      refine HCh.out.mono ?_; rintro e w8 ⟨rfl, ⟨rows', hnu, hr8⟩, hb8⟩
      have H8 := Lib.hid (And.intro hnu (And.intro hr8 (HR.out.2.trans hb8)))
      clear hnu hr8 hb8 HCh HR
      go_wp2_with fail
      go_end0
      refine ⟨rfl, ⟨rows', _, ?_, H8.out.2.1⟩, H8.out.2.2⟩
      have e := H8.out.1
      rw [fin_nums HT.out.rows] at e
      rw [e]
      congr 2
      have hx : es.map VecE.x = List.replicate j 0 := by
        rw [List.eq_replicate_iff]
        refine ⟨by simp [HZ.out.len], fun x hx => ?_⟩
        obtain ⟨e', he', rfl⟩ := List.mem_map.1 hx
        obtain ⟨i, hi, rfl⟩ := List.mem_iff_getElem.1 he'
        exact (HZ.out.vec i _ _ (List.getElem?_eq_getElem hi) (List.getElem?_eq_getElem (by rw [HZ.out.len] at hi; omega))).2.1
      rw [hx]
set_option maxRecDepth 100000 in
set_option maxHeartbeats 8000000 in
theorem time_next {base b : Nat} {w : World} {S : RdS} {V : Key → Value} (h : Rdr base b w S V) {m n : Nat} {cs : List (Nat × Nat)} (ht : TimeAt S m n cs) {k : Nat} (hn : n = k + 1) :
    Calls Tryz.prog 37 #[.pointer (some ⟨b, 0, none⟩)] w
      fun e w' => e = .returned (.tuple #[]) ∧ (∃ rows' V', nums rows' = nums S.rows ++ [apTo ((nums S.rows).getD k []) cs] ∧ Rdr base b w' { S with pos := S.pos + 1 + 2 * cs.length, rows := rows' } V') ∧ Below base w w' := by
  have HT := Lib.hid ht
  obtain ⟨y0, ht0⟩ := ht.t0
  have HNx := Lib.hid (next_any h ht0 ht.N)
  have hHd := Hd.of 35 (digS (decDs n))
  have hpx := hasp _ _ _ hHd
  have HP : Hid (∀ w', Calls Tryz.prog 63 #[.string (bstr (35 :: digS (decDs n))), .string ⟨#[35]⟩] w' fun e w'' => e = .returned (.bool true) ∧ w' = w'') := Lib.hid fun w' => by
    have hh := Tryz.strings_HasPrefix (bstr (35 :: digS (decDs n))) ⟨#[35]⟩ w'
    rw [show (⟨#[35]⟩ : ByteArray).data.toList = [35] from rfl, hpx] at hh
    exact hh.mono fun e w'' hh => ⟨hh.1, hh.2.symm⟩
  obtain ⟨X, hX⟩ : ∃ X, bstr (35 :: digS (decDs n)) = X := ⟨_, rfl⟩
  have hval : decV (decDs n) = n := decDs_val n
  have hl3 : (decDs n).length ≤ 2 + 1 := decDs_len n 2 (by have := ht.hn; omega)
  have HNum : Hid (∀ w', Calls Tryz.prog 64 #[.string (bstr (digS (decDs n))), .int .i64 6] w' fun e w'' => e = .returned (.int .i64 n) ∧ w' = w'') := Lib.hid fun w' => by
    have hh := number_any (decDs n) 6 (decDs_ne n) (by omega) (by decide) (decDs_lt n) _ rfl w'
    rw [hval] at hh
    exact hh
  rw [hX] at hHd HP
  simp only [hX] at HNx
  have hlt := h.mem.lt
  have hni : (n : Int) < 200 := by have := ht.hn; omega
  have hn0 : (0 : Int) ≤ n := by omega
  obtain ⟨hp0, ha0, hre⟩ := hHd
  have hp1 : 1 ≤ X.size := hp0
  generalize bstr (digS (decDs n)) = D at hre HNum
  have H0 := Lib.hid h
  have HLt := Lib.hid hlt
  clear h ht ht0 hpx hval hl3 hX hlt ha0
  go_enter Tryz.func37, Tryz.ntmps37
  go_wp2_with fail
  refine HNx.out.mono ?_; rintro e w1 ⟨rfl, hr1, ho1⟩
  have hbx := Below.new w1 (.cells #[.string X, .int .i64 y0] 97)
  have H1 := Lib.hid (And.intro (hr1.below hbx) ((Only.toB H0.out ho1).trans (hbx.mono hr1.base_le)))
  obtain ⟨pv5, cv5, hV5, _⟩ := H1.out.1.valsRO
  have c5 := H1.out.1.cell (i := 5) rfl
  have c8 := H1.out.1.cell (i := 8) rfl
  rw [hV5] at c5
  rw [show ({ S with pos := S.pos + 1 } : RdS).rows.length = n from HT.out.rows] at c5
  clear hr1 ho1 hbx HNx H0
  have HV5 := Lib.hid hV5
  clear hV5
  go_wp2_with fail
  refine (HP.out _).mono ?_; rintro e w2 ⟨rfl, rfl⟩
  clear HP
  go_wp2_with fail
  refine (HNum.out _).mono ?_; rintro e w2 ⟨rfl, rfl⟩
  clear HNum
  have HNk := Lib.hid hn
  have hn1 : decide ((n : Int) = 0) = false := decide_eq_false (by omega)
  have hnz : ((n : Int) == 0) = false := by rw [beq_eq_false_iff_ne]; omega
  have hn2 : ¬ n = 0 := by omega
  clear hn
  go_upto_region 20 with fail
  clear c5 c8
  have hn := HNk.out
  generalize w1.alloc (.cells #[.string X, .int .i64 y0] 97) = Wn at *
  have hrl : ({ S with pos := S.pos + 1 } : RdS).rows.length = n := HT.out.rows
  have hkn : k < ({ S with pos := S.pos + 1 } : RdS).rows.length := by rw [hrl]; omega
  obtain ⟨bv, cv, hVv, _, _, kv, _⟩ := H1.out.1.valAt hkn
  rw [hrl] at hVv
  obtain ⟨es, hes⟩ : ∃ es, S.rows.getD k [] = es := ⟨_, rfl⟩
  have hes1 : ({ S with pos := S.pos + 1 } : RdS).rows[k]? = some es := by rw [← hes, List.getD_eq_getElem?_getD, List.getElem?_eq_getElem (show k < S.rows.length from hkn)]; rfl
  have hel : es.length = m := by rw [H1.out.1.len k es hes1]; exact HT.out.vars
  have hor : Wn.ownsRow base 46 2 (V (.row k)) m (rowCells es) := by
    have ho := H1.out.1.mem.own (.row k)
    have e : Rof { S with pos := S.pos + 1 } V (.row k) = (V (.row k), es.length, rowCells es) := by
      have hes' : ({ S with pos := S.pos + 1 } : RdS).rows.getD k [] = es := hes
      simp only [Rof, if_pos hkn, hes']
    rw [e, hel] at ho
    exact ho
  obtain ⟨pr, cr, hVr⟩ := ownsRow_form hor
  have hro := RO.own hor
  rw [hVr] at kv hro
  have HClo : Hid (∀ s : After Wn, Calls Tryz.prog 66 #[.slice pr m cr] s.val fun e w' => ∃ v', e = .returned v' ∧ w'.ownsRow s.val.heap.size 46 2 v' m (rowCells es) ∧ Below s.val.heap.size s.val w') := Lib.hid fun s => clone_row (hro.below s.below) (rowCells_one es) (by have := HT.out.m; omega)
  have q0 : Wn.cell? ⟨b, 5, none⟩ = some (.slice (some ⟨bv, 0, none⟩) n cv) := by
    have c5 := H1.out.1.cell (i := 5) rfl
    rw [hVv] at c5; exact c5
  have q1 : Wn.cell? ⟨bv, k, none⟩ = some (.slice pr m cr) := kv
  have HVv := Lib.hid hVv
  have HEs := Lib.hid (And.intro hel hes1)
  have hmi : (m : Int) ≤ 300 := by have := HT.out.m; omega
  have hkw : IntKind.i64.wrap ((n : Int) - 1) = (k : Int) := (i64_of (by omega)).trans (by omega)
  have hki : (k : Int) < n := by omega
  have hk0 : (0 : Int) ≤ k := by omega
  clear hkn kv hes hes1 hel hor hVr hro hVv hn hn1 hnz hn2
  have HTN := Lib.hid (Tr.nil Wn)
  refine wp_region_webC (w0 := Wn) [.rel (fun v W => v = .pointer (some ⟨b, 0, none⟩)) (fun _ => []), .known (.pointer (some ⟨b, 0, none⟩)), .known (.pointer (some ⟨b, 0, none⟩)), .known (.pointer (some ⟨b, 3, none⟩)), .known (.pointer (some ⟨b, 5, none⟩)), .known (.slice (some ⟨bv, 0, none⟩) n cv), .known (.pointer (some ⟨b, 0, none⟩)), .known (.pointer (some ⟨b, 0, none⟩)), .known (.pointer (some ⟨b, 3, none⟩)), .known (.pointer (some ⟨b, 5, none⟩)), .known (.slice (some ⟨bv, 0, none⟩) n cv), .known (.int .i64 n), .known (.int .i64 k), .known (.pointer (some ⟨bv, k, none⟩)), .known (.slice pr m cr), .rel (fun v W => ∃ p c, v = .slice p m c ∧ W.ownsRow Wn.heap.size 46 2 (.slice p m c) m (rowCells es)) (fun _ => []), .rel (fun v W => ∃ L p c, v = .slice (some ⟨L, 0, none⟩) 1 1 ∧ Blk W L 52 [.slice p m c] ∧ W.ownsRow Wn.heap.size 46 2 (.slice p m c) m (rowCells es)) (fun _ => [])] [2, 1, 1, 1, 1, 1, 1, 1, 1, 1, 1, 1, 1, 1, 1, 1, 1] [] 102 5 #[true, true, true, true, true, true, true, true, true, true, true, true, true, true, true, true, true, false, false, false, false, false] (by kernel_rfl) (by kernel_rfl) rfl rfl rfl (Nat.le_of_ble_eq_true rfl) ⟨(fun _ _ _ _ h => h), Sp.Mono.known, Sp.Mono.known, Sp.Mono.known, Sp.Mono.known, Sp.Mono.known, Sp.Mono.known, Sp.Mono.known, Sp.Mono.known, Sp.Mono.known, Sp.Mono.known, Sp.Mono.known, Sp.Mono.known, Sp.Mono.known, Sp.Mono.known, (by rintro u w w1 hb ⟨p, c, rfl, ho⟩; exact ⟨p, c, rfl, ownsRow_below ho hb⟩), (by rintro u w w1 hb ⟨L, p, c, rfl, hk, ho⟩; exact ⟨L, p, c, rfl, hk.next hb, ownsRow_below ho hb⟩), trivial⟩ HTN.out.drew (fun _ _ _ _ _ h => h) (A := ?_) ?_ ?_ ?_
  rotate_left
  · intro u
    simp only [fillC, Sp.val, Nat.reduceBEq, cond_false, Act.put, List.setIfInBounds_toArray, List.set_cons_zero, List.set_cons_succ]
    rfl
  refine ob_pure (web_pure (o := _) rfl (fun u W hT hd => ?_)) ?_
  · have ca0 : W.cell? _ = some _ := After.cell q0 ⟨W, hT.bel⟩
    have ca1 : W.cell? _ = some _ := After.cell q1 ⟨W, hT.bel⟩
    exact ⟨_, Or.inl ⟨rfl, fun w => rfl⟩, rfl, rfl⟩
  refine ob_yes (web_op (o := _) rfl (fun u W hT hd Q K hK => ?_)) ?_
  · (try simp only [Act.put, List.setIfInBounds_toArray, List.set_cons_zero, List.set_cons_succ] at hK)
    have ca0 : W.cell? _ = some _ := After.cell q0 ⟨W, hT.bel⟩
    have ca1 : W.cell? _ = some _ := After.cell q1 ⟨W, hT.bel⟩
    go_simp
    exact hK.out _ _ (Below.refl _ _) rfl (fun p hp => by cases hp) List.nodup_nil
  refine ob_yes (web_op (o := _) rfl (fun u W hT hd Q K hK => ?_)) ?_
  · (try simp only [Act.put, List.setIfInBounds_toArray, List.set_cons_zero, List.set_cons_succ] at hK)
    have ca0 : W.cell? _ = some _ := After.cell q0 ⟨W, hT.bel⟩
    have ca1 : W.cell? _ = some _ := After.cell q1 ⟨W, hT.bel⟩
    go_simp
    exact hK.out _ _ (Below.refl _ _) rfl (fun p hp => by cases hp) List.nodup_nil
  refine ob_yes (web_op (o := _) rfl (fun u W hT hd Q K hK => ?_)) ?_
  · (try simp only [Act.put, List.setIfInBounds_toArray, List.set_cons_zero, List.set_cons_succ] at hK)
    have ca0 : W.cell? _ = some _ := After.cell q0 ⟨W, hT.bel⟩
    have ca1 : W.cell? _ = some _ := After.cell q1 ⟨W, hT.bel⟩
    go_simp
    exact hK.out _ _ (Below.refl _ _) rfl (fun p hp => by cases hp) List.nodup_nil
  refine ob_yes (web_op (o := _) rfl (fun u W hT hd Q K hK => ?_)) ?_
  · (try simp only [Act.put, List.setIfInBounds_toArray, List.set_cons_zero, List.set_cons_succ] at hK)
    have ca0 : W.cell? _ = some _ := After.cell q0 ⟨W, hT.bel⟩
    have ca1 : W.cell? _ = some _ := After.cell q1 ⟨W, hT.bel⟩
    go_simp
    exact hK.out _ _ (Below.refl _ _) rfl (fun p hp => by cases hp) List.nodup_nil
  refine ob_yes (web_op (o := _) rfl (fun u W hT hd Q K hK => ?_)) ?_
  · (try simp only [Act.put, List.setIfInBounds_toArray, List.set_cons_zero, List.set_cons_succ] at hK)
    have ca0 : W.cell? _ = some _ := After.cell q0 ⟨W, hT.bel⟩
    have ca1 : W.cell? _ = some _ := After.cell q1 ⟨W, hT.bel⟩
    go_simp
    exact hK.out _ _ (Below.refl _ _) rfl (fun p hp => by cases hp) List.nodup_nil
  refine ob_yes (web_op (o := _) rfl (fun u W hT hd Q K hK => ?_)) ?_
  · (try simp only [Act.put, List.setIfInBounds_toArray, List.set_cons_zero, List.set_cons_succ] at hK)
    have ca0 : W.cell? _ = some _ := After.cell q0 ⟨W, hT.bel⟩
    have ca1 : W.cell? _ = some _ := After.cell q1 ⟨W, hT.bel⟩
    go_simp
    exact hK.out _ _ (Below.refl _ _) rfl (fun p hp => by cases hp) List.nodup_nil
  refine ob_yes (web_op (o := _) rfl (fun u W hT hd Q K hK => ?_)) ?_
  · (try simp only [Act.put, List.setIfInBounds_toArray, List.set_cons_zero, List.set_cons_succ] at hK)
    have ca0 : W.cell? _ = some _ := After.cell q0 ⟨W, hT.bel⟩
    have ca1 : W.cell? _ = some _ := After.cell q1 ⟨W, hT.bel⟩
    go_simp
    exact hK.out _ _ (Below.refl _ _) rfl (fun p hp => by cases hp) List.nodup_nil
  refine ob_yes (web_op (o := _) rfl (fun u W hT hd Q K hK => ?_)) ?_
  · (try simp only [Act.put, List.setIfInBounds_toArray, List.set_cons_zero, List.set_cons_succ] at hK)
    have ca0 : W.cell? _ = some _ := After.cell q0 ⟨W, hT.bel⟩
    have ca1 : W.cell? _ = some _ := After.cell q1 ⟨W, hT.bel⟩
    go_simp
    exact hK.out _ _ (Below.refl _ _) rfl (fun p hp => by cases hp) List.nodup_nil
  refine ob_yes (web_op (o := _) rfl (fun u W hT hd Q K hK => ?_)) ?_
  · (try simp only [Act.put, List.setIfInBounds_toArray, List.set_cons_zero, List.set_cons_succ] at hK)
    have ca0 : W.cell? _ = some _ := After.cell q0 ⟨W, hT.bel⟩
    have ca1 : W.cell? _ = some _ := After.cell q1 ⟨W, hT.bel⟩
    go_simp
    exact hK.out _ _ (Below.refl _ _) rfl (fun p hp => by cases hp) List.nodup_nil
  refine ob_yes (web_op (o := _) rfl (fun u W hT hd Q K hK => ?_)) ?_
  · (try simp only [Act.put, List.setIfInBounds_toArray, List.set_cons_zero, List.set_cons_succ] at hK)
    have ca0 : W.cell? _ = some _ := After.cell q0 ⟨W, hT.bel⟩
    have ca1 : W.cell? _ = some _ := After.cell q1 ⟨W, hT.bel⟩
    go_simp
    exact hK.out _ _ (Below.refl _ _) rfl (fun p hp => by cases hp) List.nodup_nil
  refine ob_yes (web_op (o := _) rfl (fun u W hT hd Q K hK => ?_)) ?_
  · (try simp only [Act.put, List.setIfInBounds_toArray, List.set_cons_zero, List.set_cons_succ] at hK)
    have ca0 : W.cell? _ = some _ := After.cell q0 ⟨W, hT.bel⟩
    have ca1 : W.cell? _ = some _ := After.cell q1 ⟨W, hT.bel⟩
    go_simp
    exact hK.out _ _ (Below.refl _ _) rfl (fun p hp => by cases hp) List.nodup_nil
  refine ob_yes (web_op (o := _) rfl (fun u W hT hd Q K hK => ?_)) ?_
  · (try simp only [Act.put, List.setIfInBounds_toArray, List.set_cons_zero, List.set_cons_succ] at hK)
    have ca0 : W.cell? _ = some _ := After.cell q0 ⟨W, hT.bel⟩
    have ca1 : W.cell? _ = some _ := After.cell q1 ⟨W, hT.bel⟩
    go_simp
    exact hK.out _ _ (Below.refl _ _) rfl (fun p hp => by cases hp) List.nodup_nil
  refine ob_yes (web_op (o := _) rfl (fun u W hT hd Q K hK => ?_)) ?_
  · (try simp only [Act.put, List.setIfInBounds_toArray, List.set_cons_zero, List.set_cons_succ] at hK)
    have ca0 : W.cell? _ = some _ := After.cell q0 ⟨W, hT.bel⟩
    have ca1 : W.cell? _ = some _ := After.cell q1 ⟨W, hT.bel⟩
    go_simp
    exact hK.out _ _ (Below.refl _ _) rfl (fun p hp => by cases hp) List.nodup_nil
  refine ob_yes (web_op (o := _) rfl (fun u W hT hd Q K hK => ?_)) ?_
  · (try simp only [Act.put, List.setIfInBounds_toArray, List.set_cons_zero, List.set_cons_succ] at hK)
    have ca0 : W.cell? _ = some _ := After.cell q0 ⟨W, hT.bel⟩
    have ca1 : W.cell? _ = some _ := After.cell q1 ⟨W, hT.bel⟩
    go_simp
    exact hK.out _ _ (Below.refl _ _) rfl (fun p hp => by cases hp) List.nodup_nil
  refine ob_yes (web_op (o := _) rfl (fun u W hT hd Q K hK => ?_)) ?_
  · (try simp only [Act.put, List.setIfInBounds_toArray, List.set_cons_zero, List.set_cons_succ] at hK)
    have ca0 : W.cell? _ = some _ := After.cell q0 ⟨W, hT.bel⟩
    have ca1 : W.cell? _ = some _ := After.cell q1 ⟨W, hT.bel⟩
    go_simp
    refine (HClo.out ⟨W, hT.bel⟩).mono ?_; rintro e W2 ⟨v2, rfl, ho2, hb2⟩
    obtain ⟨p2, c2, rfl⟩ := ownsRow_form ho2
    (try go_simp)
    exact hK.out _ _ hb2 ⟨p2, c2, rfl, ownsRow_base ho2 hT.bel.size⟩ (fun p hp => by cases hp) List.nodup_nil
  refine ob_yes (web_op (o := _) rfl (fun u W hT hd Q K hK => ?_)) ?_
  · have d15 := hd 15 (by kernel_rfl)
    generalize u 15 = x15 at *
    obtain ⟨p9, c9, rfl, ho9⟩ := d15
    (try simp only [Act.put, List.setIfInBounds_toArray, List.set_cons_zero, List.set_cons_succ] at hK)
    have ca0 : W.cell? _ = some _ := After.cell q0 ⟨W, hT.bel⟩
    have ca1 : W.cell? _ = some _ := After.cell q1 ⟨W, hT.bel⟩
    go_simp
    exact hK.out _ _ (Below.new _ _) ⟨_, p9, c9, rfl, Blk.new _ _, ownsRow_below ho9 (Below.new _ _)⟩ (fun p hp => by cases hp) List.nodup_nil
  exact ob_nil
  intro u wx hT hok
  obtain ⟨h0, h1, h2, h3, h4, h5, h6, h7, h8, h9, h10, h11, h12, h13, h14, h15, h16, _⟩ := hok
  clear h1 h2 h3 h4 h5 h6 h7 h8 h9 h10 h11 h12 h13 h14 h15
  simp only [ownsC, Sp.own, Nat.reduceBEq, cond_false, List.append_nil] at hT
  have d0 := h0 (by kernel_rfl)
  clear h0
  generalize u 0 = x0 at *
  obtain rfl := d0
  have d16 := h16 (by kernel_rfl)
  clear h16
  generalize u 16 = x16 at *
  obtain ⟨L, p9, c9, rfl, hk9, ho9⟩ := d16
  (try dsimp only [List.nil_append, List.cons_append] at hT)
  have HTE := Lib.hid hT
  clear hT
  refine wpAny_of_held (S := fun _ => True) _ _ _ _ ?_
  have hbW := HTE.out.bel
  have hr5 := H1.out.1.below hbW
  obtain ⟨pv5', cv5', hV5, ho5⟩ := hr5.valsRO
  have e5 := HVv.out.symm.trans hV5
  simp only [Value.slice.injEq] at e5
  obtain ⟨rfl, -, rfl⟩ := e5
  rw [hrl] at ho5
  have c5 := hr5.cell (i := 5) rfl
  rw [HVv.out] at c5
  have f5 := hr5.blk.frz 5
  have HKp : Hid (∀ v' w', AppR base 52 1 wx (.slice (some ⟨bv, 0, none⟩) n cv) (n + 1) (((List.range n).map fun i => V (.row i)) ++ [.slice p9 m c9]) v' w' → w'.heap[b]? = wx.heap[b]?) := Lib.hid fun v' w' happ => happ.grown.block b hr5.mem.lt (by have := hr5.mem.nb .vals; rw [show (Rof _ V Key.vals).1 = V .vals from rfl, HVv.out] at this; exact Ne.symm this)
  have HO := Lib.hid (And.intro ho5 (And.intro (RO.own (hk9.own (n := 1) (size := 1) rfl (by decide) 0 (Nat.zero_le _))) (And.intro hr5.base_le (And.intro hbW ho9))))
  clear hbW hr5 hV5 ho5 ho9 hk9 q0 q1 HClo
  refine wpAnyH_ready (rs := [17]) (by kernel_rfl) (by simp) ?_
  refine held_cons rfl (fun K hK => step_appR rfl _ _ 29 rfl TRows base (.slice (some ⟨bv, 0, none⟩) n cv) n _ rfl HO.out.1 _ 1 _ rfl HO.out.2.1 (by simp [Value.oneCell']) (by omega) (by omega) HO.out.2.2.1 ?_) AllReadyH.nil
  intro v4 w4 happ
  obtain ⟨p6, c6', ev4⟩ := ownsRow_form happ.own
  subst ev4
  have e6 := HKp.out _ _ happ
  have c5' := (World.cell?_of_block (a := ⟨b, 5, none⟩) e6).trans c5
  have f5' := (World.frozen?_of_block (a := ⟨b, 5, none⟩) e6).trans f5
  have HP := Lib.hid happ
  clear happ e6 c5 f5
  refine hK.out _ _ trivial (fun _ => ?_)
  clear hK K
  (try simp only [Act.put, List.setIfInBounds_toArray, List.set_cons_zero, List.set_cons_succ])
  refine held_take (i := 18) (v := .pointer (some ⟨b, 0, none⟩)) rfl (by kernel_rfl) (by kernel_rfl) (by kernel_rfl) (fun _ _ _ h => h) (Or.inl ⟨by rfl, ?_⟩) trivial ?_
  · intro w hSw; go_simp; (try with_reducible rfl)
  (try simp only [Act.put, List.setIfInBounds_toArray, List.set_cons_zero, List.set_cons_succ])
  refine held_take (i := 19) (v := .pointer (some ⟨b, 3, none⟩)) rfl (by kernel_rfl) (by kernel_rfl) (by kernel_rfl) (fun _ _ _ h => h) (Or.inl ⟨by rfl, ?_⟩) trivial ?_
  · intro w hSw; go_simp; (try with_reducible rfl)
  (try simp only [Act.put, List.setIfInBounds_toArray, List.set_cons_zero, List.set_cons_succ])
  refine held_take (i := 20) (v := .pointer (some ⟨b, 5, none⟩)) rfl (by kernel_rfl) (by kernel_rfl) (by kernel_rfl) (fun _ _ _ h => h) (Or.inl ⟨by rfl, ?_⟩) trivial ?_
  · intro w hSw; go_simp; (try with_reducible rfl)
  (try simp only [Act.put, List.setIfInBounds_toArray, List.set_cons_zero, List.set_cons_succ])
  refine wpAnyH_ready (rs := [21]) (by kernel_rfl) (by simp) ?_
  refine held_cons rfl (fun K hK => ?_) AllReadyH.nil
  go_simp
  refine hK.out _ _ trivial (fun _ => ?_)
  clear hK K
  (try simp only [List.setIfInBounds_toArray, List.set_cons_zero, List.set_cons_succ])
  refine wpAnyH_done (by kernel_rfl) ?_ _
  clear c5' f5' HKp
  have hq : AppR base 52 1 wx (V .vals) (({ S with pos := S.pos + 1 } : RdS).rows.length + 1) (((List.range ({ S with pos := S.pos + 1 } : RdS).rows.length).map fun i => V (.row i)) ++ [.slice p9 m c9]) (.slice p6 (n + 1) c6') w4 := by
    rw [HVv.out, hrl]; exact HP.out
  have hzl := own_lt HO.out.2.2.2.2
  have hadd := H1.out.1.addRow es (N := Wn.heap.size) (Nat.le_refl _) HO.out.2.2.2.1 (by rw [HEs.out.1]; exact HO.out.2.2.2.2) (by rw [HEs.out.1]; exact HT.out.vars.symm)
    (fun i e v he hv => by
      obtain ⟨a1, a2, a3⟩ := H1.out.1.vec k es HEs.out.2 i e v he hv
      refine ⟨a1, a2.below HO.out.2.2.2.1, a3.turn HO.out.2.2.2.1.size fun q g hg => ?_⟩
      by_cases hk : q = .row ({ S with pos := S.pos + 1 } : RdS).rows.length
      · subst hk; rw [upd_same] at hg; exact .inr (hzl g hg).1
      · rw [upd_other _ _ hk] at hg; exact .inl ⟨q, hg⟩) hq
  have hbel : Below base w (w4.setCell ⟨b, 5, none⟩ (.slice p6 (n + 1) c6')) := H1.out.2.trans ((HO.out.2.2.2.1.mono H1.out.1.base_le).trans ((H1.out.1.below HO.out.2.2.2.1).appB .vals 5 rfl hq))
  generalize w4.setCell ⟨b, 5, none⟩ (.slice p6 (n + 1) c6') = w7 at *
  clear hq HP HO hrl hzl
  have HR := Lib.hid (And.intro hadd hbel)
  clear hadd hbel
  have HCh := Lib.hid (changes_any HR.out.1 (HT.out.ch es))
  go_wp2_with fail
  refine HCh.out.mono ?_; rintro e w8 ⟨rfl, ⟨rows', hnu, hr8⟩, hb8⟩
  have H8 := Lib.hid (And.intro hnu (And.intro hr8 (HR.out.2.trans hb8)))
  clear hnu hr8 hb8 HCh HR
  go_wp2_with fail
  go_end0
  refine ⟨rfl, ⟨rows', _, ?_, H8.out.2.1⟩, H8.out.2.2⟩
  have e := H8.out.1
  rw [fin_nums HT.out.rows] at e
  rw [e]
  congr 2
  have hx : es.map VecE.x = (nums S.rows).getD k [] := by
    have h1 : S.rows[k]? = some es := HEs.out.2
    unfold nums
    rw [List.getD_eq_getElem?_getD, List.getElem?_map, h1]
    rfl
  rw [hx]
end Go.Proofs.YtcdjkbgedmehjaaGreatDoor
