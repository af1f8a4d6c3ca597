import Derived.Test.YtcdjkbgedmehjaaDoorV9
namespace Go.Proofs.YtcdjkbgedmehjaaDoor
set_option linter.unusedVariables false
open Go.RowKit Go.Sort

theorem bitL_len (n x : Nat) : (bitL n x).length = n := by simp [bitL]
theorem bitL_bits (n x : Nat) : ∀ c ∈ bitL n x, c = 48 ∨ c = 49 := by
  intro c hc
  obtain ⟨j, _, e⟩ := List.mem_map.1 hc
  by_cases h : x.testBit (n - 1 - j) <;> simp [h] at e
  · exact .inr e.symm
  · exact .inl e.symm
theorem bitL_at (n x k : Nat) (s : ByteArray) (hs : s = bstr (bitL n x)) (hk : k < s.size) : ((s[k].toNat : Int) == 49) = x.testBit (n - 1 - k) := by
  subst hs
  have hkn : k < n := by rw [bstr_size, bitL_len] at hk; exact hk
  have e : (bstr (bitL n x))[k] = if x.testBit (n - 1 - k) then 49 else 48 := by
    show (bitL n x).toArray[k]'(by simpa [bitL] using hkn) = _
    simp [bitL]
  rw [e]
  cases x.testBit (n - 1 - k) <;> decide
theorem Rdr.valsRO {base b : Nat} {w : World} {S : RdS} {V : Key → Value} (h : Rdr base b w S V) : ∃ p c, V .vals = .slice p S.rows.length c ∧ w.ownsRow base 27 1 (.slice p S.rows.length c) S.rows.length ((List.range S.rows.length).map fun i => V (.row i)) := by
  have ho := h.mem.own .vals
  obtain ⟨p, c, e⟩ := ownsRow_form ho
  have e' : V .vals = .slice p S.rows.length c := e
  exact ⟨p, c, e', by rw [← e']; exact ho⟩
/-- what the region of change keeps -/
def ChgS (base b bv n : Nat) (x y : Value) (W0 W : World) : Prop := W.cell? ⟨b, 5, none⟩ = some x ∧ W.cell? ⟨bv, n, none⟩ = some y ∧ Below base W0 W ∧ base ≤ W.heap.size
theorem chg_step {base b bv n : Nat} {W0 W W' : World} {x y : Value} (h : W.cell? ⟨b, 5, none⟩ = some x ∧ W.cell? ⟨bv, n, none⟩ = some y ∧ Below base W0 W ∧ base ≤ W.heap.size) (hb : Below W.heap.size W W') :
    W'.cell? ⟨b, 5, none⟩ = some x ∧ W'.cell? ⟨bv, n, none⟩ = some y ∧ Below base W0 W' ∧ base ≤ W'.heap.size :=
  ⟨(hb.cell (World.block_lt_of_cell? _ _ h.1)).trans h.1, (hb.cell (World.block_lt_of_cell? _ _ h.2.1)).trans h.2.1, h.2.2.1.trans (hb.mono h.2.2.2), Nat.le_trans h.2.2.2 hb.size⟩
theorem chg_set {base b bv br n i : Nat} {W0 W : World} {x y u : Value} (h1 : br ≠ b) (h2 : br ≠ bv) (h3 : base ≤ br) (h : W.cell? ⟨b, 5, none⟩ = some x ∧ W.cell? ⟨bv, n, none⟩ = some y ∧ Below base W0 W ∧ base ≤ W.heap.size) :
    (W.setCell ⟨br, i, none⟩ u).cell? ⟨b, 5, none⟩ = some x ∧ (W.setCell ⟨br, i, none⟩ u).cell? ⟨bv, n, none⟩ = some y ∧ Below base W0 (W.setCell ⟨br, i, none⟩ u) ∧ base ≤ (W.setCell ⟨br, i, none⟩ u).heap.size :=
  ⟨(World.cell?_setCell_far _ _ _ _ h1).trans h.1, (World.cell?_setCell_far _ _ _ _ h2).trans h.2.1, h.2.2.1.setCell (show base ≤ (⟨br, i, none⟩ : Addr).block from h3) u, by simpa using h.2.2.2⟩
theorem Rdr.rowAt {base b : Nat} {w : World} {S : RdS} {V : Key → Value} (h : Rdr base b w S V) {n i : Nat} (hn : n < S.rows.length) (hi : i < (S.rows.getD n []).length) :
    ∃ br cr, V (.row n) = .slice (some ⟨br, 0, none⟩) (S.rows.getD n []).length cr ∧ base ≤ br ∧ br ≠ b ∧ br < w.heap.size ∧ ∃ e : VecE, (S.rows.getD n [])[i]? = some e ∧ w.cell? ⟨br, i * 2, none⟩ = some (.int .i64 e.w) ∧ w.cell? ⟨br, i * 2 + 1, none⟩ = some (.slice e.p (wcount e.w) e.c) ∧ w.frozen? ⟨br, i * 2, none⟩ = false ∧ w.frozen? ⟨br, i * 2 + 1, none⟩ = false := by
  have hR : Rof S V (.row n) = (V (.row n), (S.rows.getD n []).length, rowCells (S.rows.getD n [])) := by simp only [Rof, if_pos hn]
  obtain ⟨e, he⟩ : ∃ e, (S.rows.getD n [])[i]? = some e := ⟨_, List.getElem?_eq_getElem hi⟩
  have ha := rowCells_at _ _ _ he
  obtain ⟨g, c, hv, c0, f0, hb, hne⟩ := h.mem.at (.row n) (i := i * 2) (by rw [hR]; exact ha.1)
  obtain ⟨g', c', hv', c1, f1, _, _⟩ := h.mem.at (.row n) (i := i * 2 + 1) (by rw [hR]; exact ha.2)
  rw [hv] at hv'
  cases hv'
  have hv2 := hv
  rw [hR] at hv2
  exact ⟨g, c, hv2, hb, hne, (h.mem.lts (.row n) g (by rw [hv]; rfl)).2, e, he, c0, c1, f0, f1⟩
theorem Rdr.valAt {base b : Nat} {w : World} {S : RdS} {V : Key → Value} (h : Rdr base b w S V) {n : Nat} (hn : n < S.rows.length) :
    ∃ bv cv, V .vals = .slice (some ⟨bv, 0, none⟩) S.rows.length cv ∧ base ≤ bv ∧ bv ≠ b ∧ w.cell? ⟨bv, n, none⟩ = some (V (.row n)) ∧ ∀ g, (V (.row n)).ownBlock = some g → g ≠ bv := by
  obtain ⟨g, c, hv, c0, f0, hb, hne⟩ := h.mem.at .vals (i := n) (u := V (.row n)) (by simp only [Rof, List.getElem?_map, List.getElem?_range hn]; rfl)
  refine ⟨g, c, hv, hb, hne, c0, fun g' hg' e => ?_⟩
  have h1 : (Rof S V (.row n)).1 = V (.row n) := by simp only [Rof, if_pos hn]
  exact h.mem.ne (.row n) .vals (by intro e; cases e) g' (by rw [h1]; exact hg') (by rw [hv, e]; rfl)
set_option maxRecDepth 100000 in
set_option maxHeartbeats 8000000 in
theorem change_any {base b : Nat} {w : World} {S : RdS} {V : Key → Value} (h : Rdr base b w S V) {m n i : Nat} {v : Bs × Nat} {x : Nat} (hids : S.ids = (List.range m).map idL) (him : i < m) (hm : m ≤ 300) (hv : S.vars[i]? = some v) (hw1 : 1 ≤ v.2) (hw2 : v.2 ≤ 128) (hx : x < 2 ^ v.2) (hn : S.rows.length = n + 1) (hn2 : n < 200) (X : ByteArray) (y at' : Int) :
    Calls Tryd.prog 62 #[.pointer (some ⟨b, 0, none⟩), .agg #[.string X, .int .i64 y], .string (bstr (bitL v.2 x)), .string (bstr (idL i)), .int .i64 at'] w
      fun e w' => e = .returned (.tuple #[]) ∧ (∃ e, e.w = v.2 ∧ e.x = x ∧ Rdr base b w' (S.put n i e) V) ∧ Below base w w' := by
  obtain ⟨wd, hwd⟩ : ∃ wd, v.2 = wd := ⟨_, rfl⟩
  rw [hwd] at hw1 hw2 hx ⊢
  have hvl : i < S.vars.length := (List.getElem?_eq_some_iff.1 hv).1
  have hbx := Below.new w (.cells #[.string X, .int .i64 y] 79)
  have H0 := Lib.hid (And.intro (h.below hbx) (hbx.mono h.base_le))
  obtain ⟨pi, ci, hVi, hoi⟩ := H0.out.1.idsRO
  have hil : S.ids.length = m := by rw [hids]; simp
  have HIx : Hid (∃ pb ob, pi = some ⟨pb, ob, none⟩ ∧ Calls Tryd.prog 70 #[.slice (some ⟨pb, ob, none⟩) m ci, .string (bstr (idL i))] (w.alloc (.cells #[.string X, .int .i64 y] 79)) fun e w' => e = .returned (.int .i64 i) ∧ w.alloc (.cells #[.string X, .int .i64 y] 79) = w') := Lib.hid (by
    have hro := RO.own hoi
    obtain ⟨pb, ob, rfl⟩ := hro.sl (strCells_at S.ids 0 (by rw [hil]; omega))
    refine ⟨pb, ob, rfl, ?_⟩
    have hl : (S.ids.map bstr).length = m := by simp [hil]
    rw [hil] at hro
    refine (Tryd.slices_Index_string pb ob m ci (S.ids.map bstr) (bstr (idL i)) _ (by rw [hl]; exact Nat.le_refl _) (by omega) (fun j hj => ?_)).mono fun e w' hh => ⟨?_, hh.2.symm⟩
    · rw [hl, ← hil] at hj
      rw [hro.cell (strCells_at S.ids j hj)]
      rw [List.getD_eq_getElem?_getD, List.getD_eq_getElem?_getD, List.getElem?_map, List.getElem?_eq_getElem hj]
      rfl
    · rw [hh.1, List.take_of_length_le (by rw [hl]; exact Nat.le_refl _), hids, idx_hit m i him])
  obtain ⟨pb, ob, rfl, HIx'⟩ := HIx.out
  have HI := Lib.hid HIx'
  obtain ⟨pv, cv, hVv, hov⟩ := H0.out.1.varsRO
  have hrv := RO.own hov
  obtain ⟨vb, vo, rfl⟩ := hrv.sl (tokCells_at _ _ _ hv).1
  have k1 := hrv.cell (tokCells_at _ _ _ hv).2
  rw [← Nat.add_assoc] at k1
  have c4 := H0.out.1.cell (i := 4) rfl
  have c6 := H0.out.1.cell (i := 6) rfl
  rw [hVv] at c4
  rw [hVi, hil] at c6
  rw [hwd] at k1
  obtain ⟨q, hq⟩ : ∃ q, bstr (bitL wd x) = q := ⟨_, rfl⟩
  have hqs : q.size = wd := by rw [← hq, bstr_size, bitL_len]
  have HH := Lib.hid (And.intro hv (And.intro hwd (And.intro hx (And.intro hn (And.intro hq.symm (And.intro hw1 hvl))))))
  rw [hq]
  have hvl' : (i : Int) < S.vars.length := by omega
  have hi0 : (0 : Int) ≤ i := by omega
  have hwi : (wd : Int) ≤ 128 := by omega
  have hwi0 : (0 : Int) ≤ wd := by omega
  have hqi : (q.size : Int) = wd := by omega
  have hmk := fun w => mk_bools wd (by omega) w
  have hn2' : (n : Int) < 200 := by omega
  clear h hids him hm hv hw1 hw2 hx hn hn2 hwd hvl hbx hVi hoi hil HIx HIx' hVv hov hrv hq hqs
  go_enter Tryd.func62, Tryd.ntmps62
  go_wp2_with fail
  refine HI.out.mono ?_; rintro e w1 ⟨rfl, rfl⟩
  go_wp2_with fail
  clear c4 c6 k1
  have hbl := Below.new (w.alloc (.cells #[.string X, .int .i64 y] 79)) (.cells (bools (List.replicate wd false)).toArray 4)
  have hkl := Blk.new (w := w.alloc (.cells #[.string X, .int .i64 y] 79)) 4 (bools (List.replicate wd false))
  have H1 := Lib.hid (And.intro H0.out.1.lim (And.intro hkl (And.intro hbl H0.out.2)))
  clear hbl hkl H0 HI hmk
  simp only [World.size_alloc] at H1 ⊢
  generalize (w.alloc (.cells #[.string X, .int .i64 y] 79)).alloc (.cells (bools (List.replicate wd false)).toArray 4) = W1 at *
  generalize w.alloc (.cells #[.string X, .int .i64 y] 79) = W0 at *
  obtain ⟨L, hL⟩ : ∃ L, w.heap.size + 1 = L := ⟨_, rfl⟩
  rw [hL] at H1 ⊢
  clear hL
  go_loopw [46] (fun kv wr => ∃ k : Nat, k ≤ wd ∧ kv = .int .i64 k ∧ Blk wr L 4 (bools (rl wd fun j => decide (wd - k ≤ j) && x.testBit j)) ∧ Below L W0 wr) (fun kv _ => wd - (intOf kv).toNat)
  case atStart =>
    refine ⟨0, Nat.zero_le _, rfl, ?_, H1.out.2.2.1⟩
    have : (rl wd fun j => decide (wd - 0 ≤ j) && x.testBit j) = List.replicate wd false := by rw [← rl_false]; exact rl_congr fun i hi => by simp; omega
    rw [this]; exact H1.out.2.1
  case round =>
    obtain ⟨k, hk, rfl, hB, hbel⟩ := hrel
    have HR := Lib.hid (And.intro hB hbel)
    clear hB hbel
    by_cases hlt : k < wd
    · have hkq : k < q.size := by omega
      have hbit := bitL_at wd x k q HH.out.2.2.2.2.1 hkq
      have hat := bools_at (rl wd fun j => decide (wd - k ≤ j) && x.testBit j) (wd - 1 - k) (by rw [rl_length]; omega)
      have d0 := HR.out.1.cell hat
      have f0 := HR.out.1.frz (wd - 1 - k)
      have HS : Hid ((bools (rl wd fun j => decide (wd - k ≤ j) && x.testBit j)).set (wd - 1 - k) (.bool (x.testBit (wd - 1 - k))) = bools (rl wd fun j => decide (wd - (k + 1) ≤ j) && x.testBit j)) := Lib.hid (by
        rw [bools_set, rl_set]
        congr 1
        exact rl_congr fun i hi => by
          by_cases e : i = wd - 1 - k
          · subst e
            have : wd - (k + 1) ≤ wd - 1 - k := by omega
            simp [this]
          · by_cases e2 : wd - k ≤ i
            · have : wd - (k + 1) ≤ i := by omega
              simp [e, e2, this]
            · have : ¬ wd - (k + 1) ≤ i := by omega
              simp [e, e2, this])
      obtain ⟨qb, hqb⟩ : ∃ qb, x.testBit (wd - 1 - k) = qb := ⟨_, rfl⟩
      rw [hqb] at hbit HS
      have hw0 : IntKind.i64.wrap ((wd : Int) - 1) = (wd : Int) - 1 := i64_of (by omega)
      have hw1 : IntKind.i64.wrap ((wd : Int) - 1 - (k : Int)) = (wd : Int) - 1 - (k : Int) := i64_of (by omega)
      have hw2 : IntKind.i64.wrap ((k : Int) + 1) = (k : Int) + 1 := i64_of (by omega)
      have hji : (wd : Int) - 1 - (k : Int) < wd := by omega
      have hj0 : (0 : Int) ≤ (wd : Int) - 1 - (k : Int) := by omega
      have HX := Lib.hid hlt
      clear hat hqb hk hlt
      go_wp2_with fail
      go_roundw
      case rel => exact ⟨k + 1, HX.out, by go_num, by rw [← HS.out]; exact HR.out.1.set _ _, HR.out.2.setCell (Nat.le_refl _) _⟩
      case measure => have := HX.out; simp [intOf]; omega
    · obtain rfl : k = wd := by omega
      clear hlt hk
      have hfin : bools (rl k fun j => decide (k - k ≤ j) && x.testBit j) = bools (bitsOf k x) := by
        congr 1
        exact rl_congr fun i hi => by simp
      have hB := HR.out.1
      rw [hfin] at hB
      have HB := Lib.hid hB
      clear hB hfin
      go_upto_region 13 with fail
      have hr := H1.out.1.below HR.out.2
      have hnl : n < S.rows.length := by rw [HH.out.2.2.2.1]; exact Nat.lt_succ_self n
      have hrl : i < (S.rows.getD n []).length := by
        have e0 : S.rows[n]? = some (S.rows.getD n []) := by rw [List.getD_eq_getElem?_getD, List.getElem?_eq_getElem hnl]; rfl
        rw [hr.r.len n _ e0]; exact HH.out.2.2.2.2.2.2
      obtain ⟨br, cr, hVr, hbr1, hbr2, hbr3, -⟩ := hr.r.rowAt hnl hrl
      obtain ⟨bv, cv2, hVv, hbv1, hbv2, kv, hne⟩ := hr.r.valAt hnl
      have hne' : br ≠ bv := hne br (by rw [hVr]; rfl)
      have c5 := hr.r.cell (i := 5) rfl
      rw [hVv, HH.out.2.2.2.1] at c5
      rw [hVr] at kv
      have hlb : (bitsOf k x).length = k := by simp [bitsOf]
      have HOf : Hid (∀ w', Below wr.heap.size wr w' → Calls Tryd.prog 72 #[.slice (some ⟨L, 0, none⟩) k k] w' (RetE w' k x 0)) := Lib.hid fun w' hb => by
        have hro : RO w' (.slice (some ⟨L, 0, none⟩) k k) 1 (bitsOf k x).length (bools (bitsOf k x)) := by
          rw [hlb]
          exact RO.own ((HB.out.next hb).own (n := k) (size := 1) (by simp [bools, hlb]) (by simp [maxLen]; omega) 0 (Nat.zero_le _))
        have hh := of_good hro (by rw [hlb]; exact HH.out.2.2.2.2.2.1) (by rw [hlb]; omega)
        rw [hlb, valB_bitsOf HH.out.2.2.1] at hh
        exact hh
      have HBe := Lib.hid (H1.out.2.2.2.trans (HR.out.2.mono (Nat.le_trans H1.out.1.r.mem.hb (Nat.le_of_lt H1.out.1.bN))))
      have HG := Lib.hid (And.intro hr (And.intro hnl (And.intro hrl (And.intro hVr (And.intro hbr2 (And.intro hne' hbr1))))))
      generalize hlen : (S.rows.getD n []).length = ml at kv
      obtain ⟨N1, hN1⟩ : ∃ N1, n + 1 = N1 := ⟨_, rfl⟩
      rw [hN1] at c5
      have himl : (i : Int) < ml := by rw [hlen] at hrl; omega
      have s0 : wr.drew.cell? ⟨b, 5, none⟩ = some (.slice (some ⟨bv, 0, none⟩) N1 cv2) ∧ wr.drew.cell? ⟨bv, n, none⟩ = some (.slice (some ⟨br, 0, none⟩) ml cr) ∧ Below base wr wr.drew ∧ base ≤ wr.drew.heap.size := ⟨c5, kv, (Below.refl _ _).drew, hr.r.base_le⟩
      have hnw : IntKind.i64.wrap ((N1 : Int) - 1) = (n : Int) := (i64_of (by omega)).trans (by omega)
      have hn0 : (0 : Int) ≤ n := by omega
      have hnn : (n : Int) < N1 := by omega
      clear hr hnl hrl hVr hbr1 hbr2 hbr3 hVv hbv1 hbv2 kv hne hne' c5 hlb hlen HB H1 hN1
      go_region_held3 (fun w' => w'.cell? ⟨b, 5, none⟩ = some (.slice (some ⟨bv, 0, none⟩) N1 cv2) ∧ w'.cell? ⟨bv, n, none⟩ = some (.slice (some ⟨br, 0, none⟩) ml cr) ∧ Below base wr w' ∧ base ≤ w'.heap.size)
        (first | assumption | exact chg_set HG.out.2.2.2.2.1 HG.out.2.2.2.2.2.1 HG.out.2.2.2.2.2.2 (chg_set HG.out.2.2.2.2.1 HG.out.2.2.2.2.2.1 HG.out.2.2.2.2.2.2 s6))
        (first
          | (go_at_call 72; refine (HOf.out _ (Below.refl _ _).drew).mono ?_; rintro e w6 ⟨v6, rfl, hv6, hb6, hf6⟩; obtain ⟨p6, c6, rfl, _⟩ := hv6.ex; have s6 := chg_step s0 hb6; have h6 := (HG.out.1.r.below (Below.refl wr.heap.size wr).drew).below hb6; have H6 := Lib.hid (And.intro h6 (And.intro hv6 (And.intro hb6 hf6))); obtain ⟨br', cr', hVr', _, _, _, e6, _, r0, r1, f0, f1⟩ := h6.rowAt HG.out.2.1 HG.out.2.2.1; rw [HG.out.2.2.2.1] at hVr'; cases hVr'; clear h6 hv6 hb6 hf6))
      clear r0 r1 f0 f1 s0 s6
      go_wp2_with fail
      go_end0
      have hsep : Sep w6.heap.size (Rof S V) b (.agg #[.int .i64 k, .slice p6 (wcount k) c6]) := Sep.of (w := wr.drew) (fun q g hg => (HG.out.1.r.mem.lts q g hg).2) HG.out.1.r.mem.lt H6.out.2.2.2 H6.out.2.1 HH.out.2.2.2.2.2.1
      have hput := H6.out.1.put (n := n) (i := i) HG.out.2.1 HG.out.2.2.1 ⟨k, p6, c6, x⟩ H6.out.2.1 hsep HH.out.1 HH.out.2.1.symm HG.out.2.2.2.1
      refine ⟨rfl, ⟨_, rfl, rfl, hput⟩, ?_⟩
      exact HBe.out.trans (((Below.refl base wr).drew.trans (H6.out.2.2.1.mono HG.out.1.r.base_le)).trans (H6.out.1.putB HG.out.2.1 HG.out.2.2.2.1 _ _ _ _))
end Go.Proofs.YtcdjkbgedmehjaaDoor
