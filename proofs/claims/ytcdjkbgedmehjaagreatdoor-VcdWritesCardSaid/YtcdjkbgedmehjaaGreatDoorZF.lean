/- Texts of this claim, one behind another: V10, V11, V12. They state lemmas; each names its own conditions. -/
import Derived.Test.YtcdjkbgedmehjaaGreatDoorZE
namespace Go.Proofs.YtcdjkbgedmehjaaGreatDoor
set_option linter.unusedVariables false
open Go.RowKit Go.Sort

theorem bitL_len (n x : Nat) : (bitL n x).length = n := by simp [bitL]
theorem bitL_bits (n x : Nat) : ∀ c ∈ bitL n x, c = 48 ∨ c = 49 := by
  intro c hc
  obtain ⟨j, _, e⟩ := List.mem_map.1 hc
  by_cases h : x.testBit (n - 1 - j) <;> simp [h] at e
  · exact .inr e.symm
  · exact .inl e.symm
theorem bitL_at (n x k : Nat) (s : ByteArray) (hs : s = bstr (bitL n x)) (hk : k < s.size) : ((s[k].toNat : Int) == 49) = x.testBit (n - 1 - k) := by
  subst hs
  have hkn : k < n := by rw [bstr_size, bitL_len] at hk; exact hk
  have e : (bstr (bitL n x))[k] = if x.testBit (n - 1 - k) then 49 else 48 := by
    show (bitL n x).toArray[k]'(by simpa [bitL] using hkn) = _
    simp [bitL]
  rw [e]
  cases x.testBit (n - 1 - k) <;> decide
theorem Rdr.valsRO {base b : Nat} {w : World} {S : RdS} {V : Key → Value} (h : Rdr base b w S V) : ∃ p c, V .vals = .slice p S.rows.length c ∧ w.ownsRow base 52 1 (.slice p S.rows.length c) S.rows.length ((List.range S.rows.length).map fun i => V (.row i)) := by
  have ho := h.mem.own .vals
  obtain ⟨p, c, e⟩ := ownsRow_form ho
  have e' : V .vals = .slice p S.rows.length c := e
  exact ⟨p, c, e', by rw [← e']; exact ho⟩
/-- what the region of change keeps -/
def ChgS (base b bv n : Nat) (x y : Value) (W0 W : World) : Prop := W.cell? ⟨b, 5, none⟩ = some x ∧ W.cell? ⟨bv, n, none⟩ = some y ∧ Below base W0 W ∧ base ≤ W.heap.size
theorem chg_step {base b bv n : Nat} {W0 W W' : World} {x y : Value} (h : W.cell? ⟨b, 5, none⟩ = some x ∧ W.cell? ⟨bv, n, none⟩ = some y ∧ Below base W0 W ∧ base ≤ W.heap.size) (hb : Below W.heap.size W W') :
    W'.cell? ⟨b, 5, none⟩ = some x ∧ W'.cell? ⟨bv, n, none⟩ = some y ∧ Below base W0 W' ∧ base ≤ W'.heap.size :=
  ⟨(hb.cell (World.block_lt_of_cell? _ _ h.1)).trans h.1, (hb.cell (World.block_lt_of_cell? _ _ h.2.1)).trans h.2.1, h.2.2.1.trans (hb.mono h.2.2.2), Nat.le_trans h.2.2.2 hb.size⟩
theorem chg_set {base b bv br n i : Nat} {W0 W : World} {x y u : Value} (h1 : br ≠ b) (h2 : br ≠ bv) (h3 : base ≤ br) (h : W.cell? ⟨b, 5, none⟩ = some x ∧ W.cell? ⟨bv, n, none⟩ = some y ∧ Below base W0 W ∧ base ≤ W.heap.size) :
    (W.setCell ⟨br, i, none⟩ u).cell? ⟨b, 5, none⟩ = some x ∧ (W.setCell ⟨br, i, none⟩ u).cell? ⟨bv, n, none⟩ = some y ∧ Below base W0 (W.setCell ⟨br, i, none⟩ u) ∧ base ≤ (W.setCell ⟨br, i, none⟩ u).heap.size :=
  ⟨(World.cell?_setCell_far _ _ _ _ h1).trans h.1, (World.cell?_setCell_far _ _ _ _ h2).trans h.2.1, h.2.2.1.setCell (show base ≤ (⟨br, i, none⟩ : Addr).block from h3) u, by simpa using h.2.2.2⟩
theorem Rdr.rowAt {base b : Nat} {w : World} {S : RdS} {V : Key → Value} (h : Rdr base b w S V) {n i : Nat} (hn : n < S.rows.length) (hi : i < (S.rows.getD n []).length) :
    ∃ br cr, V (.row n) = .slice (some ⟨br, 0, none⟩) (S.rows.getD n []).length cr ∧ base ≤ br ∧ br ≠ b ∧ br < w.heap.size ∧ ∃ e : VecE, (S.rows.getD n [])[i]? = some e ∧ w.cell? ⟨br, i * 2, none⟩ = some (.int .i64 e.w) ∧ w.cell? ⟨br, i * 2 + 1, none⟩ = some (.slice e.p (wcount e.w) e.c) ∧ w.frozen? ⟨br, i * 2, none⟩ = false ∧ w.frozen? ⟨br, i * 2 + 1, none⟩ = false := by
  have hR : Rof S V (.row n) = (V (.row n), (S.rows.getD n []).length, rowCells (S.rows.getD n [])) := by simp only [Rof, if_pos hn]
  obtain ⟨e, he⟩ : ∃ e, (S.rows.getD n [])[i]? = some e := ⟨_, List.getElem?_eq_getElem hi⟩
  have ha := rowCells_at _ _ _ he
  obtain ⟨g, c, hv, c0, f0, hb, hne⟩ := h.mem.at (.row n) (i := i * 2) (by rw [hR]; exact ha.1)
  obtain ⟨g', c', hv', c1, f1, _, _⟩ := h.mem.at (.row n) (i := i * 2 + 1) (by rw [hR]; exact ha.2)
  rw [hv] at hv'
  cases hv'
  have hv2 := hv
  rw [hR] at hv2
  exact ⟨g, c, hv2, hb, hne, (h.mem.lts (.row n) g (by rw [hv]; rfl)).2, e, he, c0, c1, f0, f1⟩
theorem Rdr.valAt {base b : Nat} {w : World} {S : RdS} {V : Key → Value} (h : Rdr base b w S V) {n : Nat} (hn : n < S.rows.length) :
    ∃ bv cv, V .vals = .slice (some ⟨bv, 0, none⟩) S.rows.length cv ∧ base ≤ bv ∧ bv ≠ b ∧ w.cell? ⟨bv, n, none⟩ = some (V (.row n)) ∧ ∀ g, (V (.row n)).ownBlock = some g → g ≠ bv := by
  obtain ⟨g, c, hv, c0, f0, hb, hne⟩ := h.mem.at .vals (i := n) (u := V (.row n)) (by simp only [Rof, List.getElem?_map, List.getElem?_range hn]; rfl)
  refine ⟨g, c, hv, hb, hne, c0, fun g' hg' e => ?_⟩
  have h1 : (Rof S V (.row n)).1 = V (.row n) := by simp only [Rof, if_pos hn]
  exact h.mem.ne (.row n) .vals (by intro e; cases e) g' (by rw [h1]; exact hg') (by rw [hv, e]; rfl)
set_option maxRecDepth 100000 in
set_option maxHeartbeats 8000000 in
theorem change_any {base b : Nat} {w : World} {S : RdS} {V : Key → Value} (h : Rdr base b w S V) {m n i : Nat} {v : Bs × Nat} {x : Nat} (hids : S.ids = (List.range m).map idL) (him : i < m) (hm : m ≤ 300) (hv : S.vars[i]? = some v) (hw1 : 1 ≤ v.2) (hw2 : v.2 ≤ 128) (hx : x < 2 ^ v.2) (hn : S.rows.length = n + 1) (hn2 : n < 200) (X : ByteArray) (y at' : Int) :
    Calls Tryz.prog 77 #[.pointer (some ⟨b, 0, none⟩), .agg #[.string X, .int .i64 y], .string (bstr (bitL v.2 x)), .string (bstr (idL i)), .int .i64 at'] w
      fun e w' => e = .returned (.tuple #[]) ∧ (∃ e, e.w = v.2 ∧ e.x = x ∧ Rdr base b w' (S.put n i e) V) ∧ Below base w w' := by
  obtain ⟨wd, hwd⟩ : ∃ wd, v.2 = wd := ⟨_, rfl⟩
  rw [hwd] at hw1 hw2 hx ⊢
  have hvl : i < S.vars.length := (List.getElem?_eq_some_iff.1 hv).1
  have hbx := Below.new w (.cells #[.string X, .int .i64 y] 97)
  have H0 := Lib.hid (And.intro (h.below hbx) (hbx.mono h.base_le))
  obtain ⟨pi, ci, hVi, hoi⟩ := H0.out.1.idsRO
  have hil : S.ids.length = m := by rw [hids]; simp
  have HIx : Hid (∃ pb ob, pi = some ⟨pb, ob, none⟩ ∧ Calls Tryz.prog 85 #[.slice (some ⟨pb, ob, none⟩) m ci, .string (bstr (idL i))] (w.alloc (.cells #[.string X, .int .i64 y] 97)) fun e w' => e = .returned (.int .i64 i) ∧ w.alloc (.cells #[.string X, .int .i64 y] 97) = w') := Lib.hid (by
    have hro := RO.own hoi
    obtain ⟨pb, ob, rfl⟩ := hro.sl (strCells_at S.ids 0 (by rw [hil]; omega))
    refine ⟨pb, ob, rfl, ?_⟩
    have hl : (S.ids.map bstr).length = m := by simp [hil]
    rw [hil] at hro
    refine (Tryz.slices_Index_string pb ob m ci (S.ids.map bstr) (bstr (idL i)) _ (by rw [hl]; exact Nat.le_refl _) (by omega) (fun j hj => ?_)).mono fun e w' hh => ⟨?_, hh.2.symm⟩
    · rw [hl, ← hil] at hj
      rw [hro.cell (strCells_at S.ids j hj)]
      rw [List.getD_eq_getElem?_getD, List.getD_eq_getElem?_getD, List.getElem?_map, List.getElem?_eq_getElem hj]
      rfl
    · rw [hh.1, List.take_of_length_le (by rw [hl]; exact Nat.le_refl _), hids, idx_hit m i him])
  obtain ⟨pb, ob, rfl, HIx'⟩ := HIx.out
  have HI := Lib.hid HIx'
  obtain ⟨pv, cv, hVv, hov⟩ := H0.out.1.varsRO
  have hrv := RO.own hov
  obtain ⟨vb, vo, rfl⟩ := hrv.sl (tokCells_at _ _ _ hv).1
  have k1 := hrv.cell (tokCells_at _ _ _ hv).2
  rw [← Nat.add_assoc] at k1
  have c4 := H0.out.1.cell (i := 4) rfl
  have c6 := H0.out.1.cell (i := 6) rfl
  rw [hVv] at c4
  rw [hVi, hil] at c6
  rw [hwd] at k1
  obtain ⟨q, hq⟩ : ∃ q, bstr (bitL wd x) = q := ⟨_, rfl⟩
  have hqs : q.size = wd := by rw [← hq, bstr_size, bitL_len]
  have HH := Lib.hid (And.intro hv (And.intro hwd (And.intro hx (And.intro hn (And.intro hq.symm (And.intro hw1 hvl))))))
  rw [hq]
  have hvl' : (i : Int) < S.vars.length := by omega
  have hi0 : (0 : Int) ≤ i := by omega
  have hwi : (wd : Int) ≤ 128 := by omega
  have hwi0 : (0 : Int) ≤ wd := by omega
  have hqi : (q.size : Int) = wd := by omega
  have hmk := fun w => mk_bools wd (by omega) w
  have hn2' : (n : Int) < 200 := by omega
  clear h hids him hm hv hw1 hw2 hx hn hn2 hwd hvl hbx hVi hoi hil HIx HIx' hVv hov hrv hq hqs
  go_enter Tryz.func77, Tryz.ntmps77
  go_wp2_with fail
  refine HI.out.mono ?_; rintro e w1 ⟨rfl, rfl⟩
  go_wp2_with fail
  clear c4 c6 k1
  have hbl := Below.new (w.alloc (.cells #[.string X, .int .i64 y] 97)) (.cells (bools (List.replicate wd false)).toArray 4)
  have hkl := Blk.new (w := w.alloc (.cells #[.string X, .int .i64 y] 97)) 4 (bools (List.replicate wd false))
  have H1 := Lib.hid (And.intro H0.out.1.lim (And.intro hkl (And.intro hbl H0.out.2)))
  clear hbl hkl H0 HI hmk
  simp only [World.size_alloc] at H1 ⊢
  generalize (w.alloc (.cells #[.string X, .int .i64 y] 97)).alloc (.cells (bools (List.replicate wd false)).toArray 4) = W1 at *
  generalize w.alloc (.cells #[.string X, .int .i64 y] 97) = W0 at *
  obtain ⟨L, hL⟩ : ∃ L, w.heap.size + 1 = L := ⟨_, rfl⟩
  rw [hL] at H1 ⊢
  clear hL
  go_loopw [46] (fun kv wr => ∃ k : Nat, k ≤ wd ∧ kv = .int .i64 k ∧ Blk wr L 4 (bools (rl wd fun j => decide (wd - k ≤ j) && x.testBit j)) ∧ Below L W0 wr) (fun kv _ => wd - (intOf kv).toNat)
  case atStart =>
    refine ⟨0, Nat.zero_le _, rfl, ?_, H1.out.2.2.1⟩
    have : (rl wd fun j => decide (wd - 0 ≤ j) && x.testBit j) = List.replicate wd false := by rw [← rl_false]; exact rl_congr fun i hi => by simp; omega
    rw [this]; exact H1.out.2.1
  case round =>
    obtain ⟨k, hk, rfl, hB, hbel⟩ := hrel
    have HR := Lib.hid (And.intro hB hbel)
    clear hB hbel
    by_cases hlt : k < wd
    · have hkq : k < q.size := by omega
      have hbit := bitL_at wd x k q HH.out.2.2.2.2.1 hkq
      have hat := bools_at (rl wd fun j => decide (wd - k ≤ j) && x.testBit j) (wd - 1 - k) (by rw [rl_length]; omega)
      have d0 := HR.out.1.cell hat
      have f0 := HR.out.1.frz (wd - 1 - k)
      have HS : Hid ((bools (rl wd fun j => decide (wd - k ≤ j) && x.testBit j)).set (wd - 1 - k) (.bool (x.testBit (wd - 1 - k))) = bools (rl wd fun j => decide (wd - (k + 1) ≤ j) && x.testBit j)) := Lib.hid (by
        rw [bools_set, rl_set]
        congr 1
        exact rl_congr fun i hi => by
          by_cases e : i = wd - 1 - k
          · subst e
            have : wd - (k + 1) ≤ wd - 1 - k := by omega
            simp [this]
          · by_cases e2 : wd - k ≤ i
            · have : wd - (k + 1) ≤ i := by omega
              simp [e, e2, this]
            · have : ¬ wd - (k + 1) ≤ i := by omega
              simp [e, e2, this])
      obtain ⟨qb, hqb⟩ : ∃ qb, x.testBit (wd - 1 - k) = qb := ⟨_, rfl⟩
      rw [hqb] at hbit HS
      have hw0 : IntKind.i64.wrap ((wd : Int) - 1) = (wd : Int) - 1 := i64_of (by omega)
      have hw1 : IntKind.i64.wrap ((wd : Int) - 1 - (k : Int)) = (wd : Int) - 1 - (k : Int) := i64_of (by omega)
      have hw2 : IntKind.i64.wrap ((k : Int) + 1) = (k : Int) + 1 := i64_of (by omega)
      have hji : (wd : Int) - 1 - (k : Int) < wd := by omega
      have hj0 : (0 : Int) ≤ (wd : Int) - 1 - (k : Int) := by omega
      have HX := Lib.hid hlt
      clear hat hqb hk hlt
      go_wp2_with fail
      go_roundw
      case rel => exact ⟨k + 1, HX.out, by go_num, by rw [← HS.out]; exact HR.out.1.set _ _, HR.out.2.setCell (Nat.le_refl _) _⟩
      case measure => have := HX.out; simp [intOf]; omega
    · obtain rfl : k = wd := by omega
      clear hlt hk
      have hfin : bools (rl k fun j => decide (k - k ≤ j) && x.testBit j) = bools (bitsOf k x) := by
        congr 1
        exact rl_congr fun i hi => by simp
      have hB := HR.out.1
      rw [hfin] at hB
      have HB := Lib.hid hB
      clear hB hfin
      go_upto_region 13 with fail
      have hr := H1.out.1.below HR.out.2
      have hnl : n < S.rows.length := by rw [HH.out.2.2.2.1]; exact Nat.lt_succ_self n
      have hrl : i < (S.rows.getD n []).length := by
        have e0 : S.rows[n]? = some (S.rows.getD n []) := by rw [List.getD_eq_getElem?_getD, List.getElem?_eq_getElem hnl]; rfl
        rw [hr.r.len n _ e0]; exact HH.out.2.2.2.2.2.2
      obtain ⟨br, cr, hVr, hbr1, hbr2, hbr3, -⟩ := hr.r.rowAt hnl hrl
      obtain ⟨bv, cv2, hVv, hbv1, hbv2, kv, hne⟩ := hr.r.valAt hnl
      have hne' : br ≠ bv := hne br (by rw [hVr]; rfl)
      have c5 := hr.r.cell (i := 5) rfl
      rw [hVv, HH.out.2.2.2.1] at c5
      rw [hVr] at kv
      have hlb : (bitsOf k x).length = k := by simp [bitsOf]
      have HOf : Hid (∀ w', Below wr.heap.size wr w' → Calls Tryz.prog 46 #[.slice (some ⟨L, 0, none⟩) k k] w' (RetE w' k x 0)) := Lib.hid fun w' hb => by
        have hro : RO w' (.slice (some ⟨L, 0, none⟩) k k) 1 (bitsOf k x).length (bools (bitsOf k x)) := by
          rw [hlb]
          exact RO.own ((HB.out.next hb).own (n := k) (size := 1) (by simp [bools, hlb]) (by simp [maxLen]; omega) 0 (Nat.zero_le _))
        have hh := of_good hro (by rw [hlb]; exact HH.out.2.2.2.2.2.1) (by rw [hlb]; omega)
        rw [hlb, valB_bitsOf HH.out.2.2.1] at hh
        exact hh
      have HBe := Lib.hid (H1.out.2.2.2.trans (HR.out.2.mono (Nat.le_trans H1.out.1.r.mem.hb (Nat.le_of_lt H1.out.1.bN))))
      have HG := Lib.hid (And.intro hr (And.intro hnl (And.intro hrl (And.intro hVr (And.intro hbr2 (And.intro hne' hbr1))))))
      generalize hlen : (S.rows.getD n []).length = ml at kv
      obtain ⟨N1, hN1⟩ : ∃ N1, n + 1 = N1 := ⟨_, rfl⟩
      rw [hN1] at c5
      have himl : (i : Int) < ml := by rw [hlen] at hrl; omega
      have s0 : wr.drew.cell? ⟨b, 5, none⟩ = some (.slice (some ⟨bv, 0, none⟩) N1 cv2) ∧ wr.drew.cell? ⟨bv, n, none⟩ = some (.slice (some ⟨br, 0, none⟩) ml cr) ∧ Below base wr wr.drew ∧ base ≤ wr.drew.heap.size := ⟨c5, kv, (Below.refl _ _).drew, hr.r.base_le⟩
      have hnw : IntKind.i64.wrap ((N1 : Int) - 1) = (n : Int) := (i64_of (by omega)).trans (by omega)
      have hn0 : (0 : Int) ≤ n := by omega
      have hnn : (n : Int) < N1 := by omega
      clear hr hnl hrl hVr hbr1 hbr2 hbr3 hVv hbv1 hbv2 kv hne hne' c5 hlb hlen HB H1 hN1
      go_region_held3 (fun w' => w'.cell? ⟨b, 5, none⟩ = some (.slice (some ⟨bv, 0, none⟩) N1 cv2) ∧ w'.cell? ⟨bv, n, none⟩ = some (.slice (some ⟨br, 0, none⟩) ml cr) ∧ Below base wr w' ∧ base ≤ w'.heap.size)
        (first | assumption | exact chg_set HG.out.2.2.2.2.1 HG.out.2.2.2.2.2.1 HG.out.2.2.2.2.2.2 (chg_set HG.out.2.2.2.2.1 HG.out.2.2.2.2.2.1 HG.out.2.2.2.2.2.2 s6))
        (first
          | (go_at_call 46; refine (HOf.out _ (Below.refl _ _).drew).mono ?_; rintro e w6 ⟨v6, rfl, hv6, hb6, hf6⟩; obtain ⟨p6, c6, rfl, _⟩ := hv6.ex; have s6 := chg_step s0 hb6; have h6 := (HG.out.1.r.below (Below.refl wr.heap.size wr).drew).below hb6; have H6 := Lib.hid (And.intro h6 (And.intro hv6 (And.intro hb6 hf6))); obtain ⟨br', cr', hVr', _, _, _, e6, _, r0, r1, f0, f1⟩ := h6.rowAt HG.out.2.1 HG.out.2.2.1; rw [HG.out.2.2.2.1] at hVr'; cases hVr'; clear h6 hv6 hb6 hf6))
      clear r0 r1 f0 f1 s0 s6
      go_wp2_with fail
      go_end0
      have hsep : Sep w6.heap.size (Rof S V) b (.agg #[.int .i64 k, .slice p6 (wcount k) c6]) := Sep.of (w := wr.drew) (fun q g hg => (HG.out.1.r.mem.lts q g hg).2) HG.out.1.r.mem.lt H6.out.2.2.2 H6.out.2.1 HH.out.2.2.2.2.2.1
      have hput := H6.out.1.put (n := n) (i := i) HG.out.2.1 HG.out.2.2.1 ⟨k, p6, c6, x⟩ H6.out.2.1 hsep HH.out.1 HH.out.2.1.symm HG.out.2.2.2.1
      refine ⟨rfl, ⟨_, rfl, rfl, hput⟩, ?_⟩
      exact HBe.out.trans (((Below.refl base wr).drew.trans (H6.out.2.2.1.mono HG.out.1.r.base_le)).trans (H6.out.1.putB HG.out.2.1 HG.out.2.2.2.1 _ _ _ _))
end Go.Proofs.YtcdjkbgedmehjaaGreatDoor
namespace Go.Proofs.YtcdjkbgedmehjaaGreatDoor
set_option linter.unusedVariables false
open Go.RowKit Go.Sort

/-! # the reader: the changes of a time -/
/-- the rows' numbers -/
def nums (l : List (List VecE)) : List (List Nat) := l.map fun r => r.map VecE.x
def apTo (r : List Nat) (cs : List (Nat × Nat)) : List Nat := cs.foldl (fun r c => r.set c.1 c.2) r
theorem apTo_snoc (r : List Nat) (cs : List (Nat × Nat)) (c : Nat × Nat) : apTo r (cs ++ [c]) = (apTo r cs).set c.1 c.2 := by simp [apTo]
theorem nums_put (S : RdS) (n i : Nat) (e : VecE) (hn : n < S.rows.length) : nums (S.put n i e).rows = (nums S.rows).set n (((nums S.rows).getD n []).set i e.x) := by
  unfold RdS.put nums
  simp only [List.map_set]
  congr 1
  rw [List.getD_eq_getElem?_getD, List.getD_eq_getElem?_getD, List.getElem?_map, List.getElem?_eq_getElem hn]
  simp
/-- a text that begins with a letter -/
structure Hd (s : ByteArray) (c : UInt8) (t : ByteArray) : Prop where
  pos : 0 < s.size
  at0 : s[0] = c
  rest : s.extract 1 s.size = t
theorem bstr_extract (l : Bs) (a b : Nat) : (bstr l).extract a b = bstr ((l.take b).drop a) := by
  apply ByteArray.ext
  rw [ByteArray.data_extract]
  simp [bstr, List.extract_eq_take_drop, List.drop_take]
theorem Hd.of (c : UInt8) (r : Bs) : Hd (bstr (c :: r)) c (bstr r) := by
  have hsz : (bstr (c :: r)).size = r.length + 1 := by rw [bstr_size]; rfl
  refine ⟨by omega, rfl, ?_⟩
  rw [bstr_extract, bstr_size]
  simp
/-- the words of changes -/
structure ChAt (S : RdS) (m n : Nat) (cs : List (Nat × Nat)) : Prop where
  ids : S.ids = (List.range m).map idL
  vars : S.vars.length = m
  m : m ≤ 300
  wid : ∀ (i : Nat) (v : Bs × Nat), S.vars[i]? = some v → 1 ≤ v.2 ∧ v.2 ≤ 128
  rows : S.rows.length = n + 1
  n : n < 200
  N : (S.toks.length : Int) ≤ 3000000
  at_ : ∀ (j : Nat) (c : Nat × Nat), cs[j]? = some c → ∃ v, S.vars[c.1]? = some v ∧ c.2 < 2 ^ v.2 ∧ (∃ y, S.toks[S.pos + 2 * j]? = some (98 :: bitL v.2 c.2, y)) ∧ ∃ y, S.toks[S.pos + 2 * j + 1]? = some (idL c.1, y)
  end_ : ∀ t, S.toks[S.pos + 2 * cs.length]? = some t → ∃ r, t.1 = 35 :: r
theorem ChAt.nocom {S : RdS} {m n : Nat} {cs : List (Nat × Nat)} (h : ChAt S m n cs) {j : Nat} (hj : j ≤ cs.length) (S' : RdS) (ht : S'.toks = S.toks) (hp : S'.pos = S.pos + 2 * j) : NoCom S' := by
  intro t hto e
  rw [ht, hp] at hto
  rcases Nat.lt_or_ge j cs.length with h1 | h1
  · obtain ⟨v, _, _, ⟨y, hy⟩, _⟩ := h.at_ j _ (List.getElem?_eq_getElem h1)
    rw [hto] at hy
    cases hy
    have e' : (98 : UInt8) :: bitL v.2 cs[j].2 = [36, 99, 111, 109, 109, 101, 110, 116] := e
    simp only [List.cons.injEq] at e'
    exact absurd e'.1 (by decide)
  · obtain rfl : j = cs.length := by omega
    obtain ⟨r, hr⟩ := h.end_ t hto
    rw [hr] at e
    simp only [List.cons.injEq] at e
    exact absurd e.1 (by decide)
set_option maxRecDepth 100000 in
set_option maxHeartbeats 8000000 in
theorem changes_any {base b : Nat} {w : World} {S : RdS} {V : Key → Value} (h : Rdr base b w S V) {m n : Nat} {cs : List (Nat × Nat)} (hc : ChAt S m n cs) :
    Calls Tryz.prog 67 #[.pointer (some ⟨b, 0, none⟩)] w
      fun e w' => e = .returned (.tuple #[]) ∧ (∃ rows', nums rows' = (nums S.rows).set n (apTo ((nums S.rows).getD n []) cs) ∧ Rdr base b w' { S with pos := S.pos + 2 * cs.length, rows := rows' } V) ∧ Below base w w' := by
  have HC := Lib.hid hc
  have H0 := Lib.hid h
  clear h hc
  go_enter Tryz.func67, Tryz.ntmps67
  go_wp2_with fail
  refine (comments_none H0.out (HC.out.nocom (j := 0) (Nat.zero_le _) S rfl rfl)).mono ?_; rintro e w1 ⟨rfl, hr1, hb1⟩
  have H1 := Lib.hid (And.intro hr1 (hb1.mono H0.out.base_le))
  clear hr1 hb1
  go_wp2_with fail
  go_loopw [] (fun wr => ∃ (k : Nat) (rows' : List (List VecE)), k ≤ cs.length ∧ nums rows' = (nums S.rows).set n (apTo ((nums S.rows).getD n []) (cs.take k)) ∧ Rdr base b wr { S with pos := S.pos + 2 * k, rows := rows' } V ∧ Below base w wr) (fun wr => S.pos + 2 * cs.length - posOf wr b)
  case atStart =>
    refine ⟨0, S.rows, Nat.zero_le _, ?_, H1.out.1, H1.out.2⟩
    have hn : n < (nums S.rows).length := by unfold nums; rw [List.length_map, HC.out.rows]; exact Nat.lt_succ_self n
    rw [List.take_zero]
    unfold apTo
    simp only [List.foldl_nil]
    rw [List.getD_eq_getElem?_getD, List.getElem?_eq_getElem hn, Option.getD_some, List.set_getElem_self]
  case round =>
    obtain ⟨k, rows', hk, hnu, hr, hb⟩ := hrel
    have HL := Lib.hid (And.intro hr (And.intro hb hnu))
    have hN := HC.out.N
    clear hr hb hnu
    by_cases hlt : k < cs.length
    · obtain ⟨c, hcc⟩ : ∃ c, cs[k]? = some c := ⟨_, List.getElem?_eq_getElem hlt⟩
      obtain ⟨v, hv, hx, ⟨y, ht⟩, ⟨y', ht'⟩⟩ := HC.out.at_ k c hcc
      obtain ⟨pt, ct, hVt, hrt⟩ := HL.out.1.toks
      obtain ⟨bt, ot, rfl⟩ := hrt.sl (tokCells_at _ _ _ ht).1
      have k0 := (HL.out.1.tokAt hVt ht).1
      have c0 := HL.out.1.cell (i := 0) rfl
      have c1 := HL.out.1.cell (i := 1) rfl
      rw [hVt] at c0
      have htl : S.pos + 2 * k < S.toks.length := (List.getElem?_eq_some_iff.1 ht).1
      have hHd := Hd.of 98 (bitL v.2 c.2)
      have HHd := Lib.hid hHd
      simp only at k0 c0 c1
      obtain ⟨X, hX⟩ : ∃ X, bstr (98 :: bitL v.2 c.2) = X := ⟨_, rfl⟩
      rw [hX] at k0 hHd
      obtain ⟨hp0, ha0, hre⟩ := hHd
      obtain ⟨nt, hnn⟩ : ∃ nt, S.toks.length = nt := ⟨_, rfl⟩
      obtain ⟨kp, hkk⟩ : ∃ kp, S.pos + 2 * k = kp := ⟨_, rfl⟩
      rw [hnn] at c0 htl hN
      rw [hkk] at c1 k0 htl
      have hki : (kp : Int) < nt := by omega
      have hk0 : (0 : Int) ≤ kp := by omega
      have HM : Hid (∀ j, Calls Tryz.prog 36 #[.pointer (some ⟨b, 0, none⟩)] (wr.drewN j) fun e w' => e = .returned (.bool true) ∧ ∃ k, w' = (wr.drewN j).drewN k) := Lib.hid fun j => more_any (HL.out.1.below (below_drewN j)) (decide_eq_true (by show S.pos + 2 * k < S.toks.length; omega))
      have HX := Lib.hid (And.intro hlt (And.intro hkk (And.intro hv (And.intro hx (And.intro ht (And.intro ht' (And.intro hX hcc)))))))
      have hp1 : 1 ≤ X.size := hp0
      clear hVt hrt hnn hkk htl ht ht' hlt hv hx hk hN hX hcc
      go_wp2_with fail
      go_quiet (go_must (exact (HM.out _).mono fun e w' ⟨he, n, hn⟩ => ⟨he, _, hn.trans (World.drewN_drewN _ _ _)⟩))
      have H2 := Lib.hid (And.intro (HL.out.1.below (below_drewN nq)) (HL.out.2.1.trans ((below_drewN (B := wr.heap.size) nq).mono HL.out.1.base_le)))
      clear k0 c0 c1
      generalize wr.drewN nq = w2 at *
      have HNx := Lib.hid (next_any H2.out.1 (t := _) HX.out.2.2.2.2.1 HC.out.N)
      simp only [HX.out.2.2.2.2.2.2.1] at HNx
      go_wp2_with fail
      refine HNx.out.mono ?_; rintro e w3 ⟨rfl, hr3, ho3⟩
      have hbx := Below.new w3 (.cells #[.string X, .int .i64 y] 97)
      have hkx := Blk.new (w := w3) 97 [.string X, .int .i64 y]
      have H3 := Lib.hid (And.intro (hr3.below hbx) (And.intro (H2.out.2.trans ((Only.toB H2.out.1 ho3).trans (hbx.mono hr3.base_le))) hkx))
      have H2b := Lib.hid hr3.mem.lt
      clear hr3 ho3 hbx hkx HNx H2
      go_wp2_with fail
      have hvw := HC.out.wid c.1 v HX.out.2.2.1
      have HBn := Lib.hid (binary_yes (w := w3.alloc (.cells #[.string X, .int .i64 y] 97)) (bitL v.2 c.2) (by intro e; have := congrArg List.length e; rw [bitL_len] at this; simp at this; omega) (by rw [bitL_len]; omega) (bitL_bits _ _))
      clear hvw
      refine HBn.out.mono ?_; rintro e w4 ⟨rfl, hb4⟩
      obtain ⟨g3, hg3⟩ : ∃ g3, w3.heap.size = g3 := ⟨_, rfl⟩
      rw [hg3] at H3
      have hgb : g3 ≠ b := by have := H2b.out; omega
      have H4 := Lib.hid (And.intro (H3.out.1.below hb4) (And.intro (H3.out.2.1.trans (hb4.mono H3.out.1.base_le)) (And.intro (H3.out.2.2.next hb4) hgb)))
      rw [hg3]
      clear hb4 HBn H3 hg3 hgb H2b
      have HNy := Lib.hid (next_any H4.out.1 (t := _) HX.out.2.2.2.2.2.1 HC.out.N)
      go_wp2_with fail
      refine HNy.out.mono ?_; rintro e w5 ⟨rfl, hr5, ho5⟩
      have hbx := Below.new w5 (.cells #[.string (bstr (idL c.1)), .int .i64 y'] 97)
      have hk5 : Blk (w5.alloc (.cells #[.string (bstr (idL c.1)), .int .i64 y'] 97)) g3 97 [.string X, .int .i64 y] := by
        have hk := H4.out.2.2.1
        have h1 : Blk w5 g3 97 [.string X, .int .i64 y] := by
          unfold Blk at hk ⊢
          rw [ho5.block g3 (by rw [Array.getElem?_eq_some_iff] at hk; exact hk.1) H4.out.2.2.2]; exact hk
        exact h1.next hbx
      have H5 := Lib.hid (And.intro (hr5.below hbx) (H4.out.2.1.trans ((Only.toB H4.out.1 ho5).trans (hbx.mono hr5.base_le))))
      have d0 := hk5.cell (i := 0) rfl
      have d1 := hk5.cell (i := 1) rfl
      have c8 := H5.out.1.cell (i := 8) rfl
      clear hr5 ho5 hbx hk5 HNy H4
      have hrw : rows'.length = n + 1 := by
        have := congrArg List.length HL.out.2.2
        unfold nums at this
        simp only [List.length_map, List.length_set] at this
        rw [this]; exact HC.out.rows
      have hcm : c.1 < m := by rw [← HC.out.vars]; exact (List.getElem?_eq_some_iff.1 HX.out.2.2.1).1
      have HCh := Lib.hid (change_any (n := n) (x := c.2) H5.out.1 (v := v) HC.out.ids hcm HC.out.m HX.out.2.2.1 (HC.out.wid _ _ HX.out.2.2.1).1 (HC.out.wid _ _ HX.out.2.2.1).2 HX.out.2.2.2.1 hrw HC.out.n X y y')
      have HRW := Lib.hid (And.intro hrw hcm)
      clear hrw hcm
      simp only
      go_wp2_with fail
      refine HCh.out.mono ?_; rintro e w6 ⟨rfl, ⟨ve, hve1, hve2, hr6⟩, hb6⟩
      clear d0 d1 c8 HCh
      have hnn : n < rows'.length := by rw [HRW.out.1]; exact Nat.lt_succ_self n
      have hr6' : Rdr base b w6 { S with pos := S.pos + 2 * (k + 1), rows := rows'.set n ((rows'.getD n []).set c.1 ve) } V := by
        have e : ({ S with pos := S.pos + 2 * k + 1 + 1, rows := rows' } : RdS).put n c.1 ve = { S with pos := S.pos + 2 * (k + 1), rows := rows'.set n ((rows'.getD n []).set c.1 ve) } := by
          unfold RdS.put
          simp only [RdS.mk.injEq, true_and, and_true]
          omega
        rw [← e]; exact hr6
      have hnu : nums (rows'.set n ((rows'.getD n []).set c.1 ve)) = (nums S.rows).set n (apTo ((nums S.rows).getD n []) (cs.take (k + 1))) := by
        have e := nums_put { S with rows := rows' } n c.1 ve hnn
        have e' : (RdS.put { S with rows := rows' } n c.1 ve).rows = rows'.set n ((rows'.getD n []).set c.1 ve) := rfl
        have hnS : n < (nums S.rows).length := by unfold nums; rw [List.length_map, HC.out.rows]; exact Nat.lt_succ_self n
        rw [e'] at e
        rw [e]
        simp only
        rw [HL.out.2.2, List.set_set, List.getD_eq_getElem?_getD, List.getElem?_set_self hnS, Option.getD_some, hve2, List.take_add_one, HX.out.2.2.2.2.2.2.2]
        simp only [Option.toList_some]
        rw [apTo_snoc]
      have H6 := Lib.hid (And.intro hr6' (And.intro (H5.out.2.trans hb6) hnu))
      clear hr6 hr6' hb6 hnu hnn H5 HRW
      have NC := Lib.hid (comments_none H6.out.1 (HC.out.nocom (j := k + 1) HX.out.1 { S with pos := S.pos + 2 * (k + 1), rows := rows'.set n ((rows'.getD n []).set c.1 ve) } rfl rfl))
      go_wp2_with fail
      refine NC.out.mono ?_; rintro e w7 ⟨rfl, hr7, hb7⟩
      have H7 := Lib.hid (And.intro hr7 (H6.out.2.1.trans (hb7.mono H6.out.1.base_le)))
      clear hr7 hb7 NC
      go_wp2_with fail
      go_roundw
      case rel => exact ⟨k + 1, _, HX.out.1, H6.out.2.2, H7.out.1, H7.out.2⟩
      case measure =>
        have e1 := H7.out.1.posOf
        have e2 := HL.out.1.posOf
        have := HX.out.1
        simp only at e1 e2
        omega
    · obtain rfl : k = cs.length := by omega
      clear hk hlt
      by_cases htl : S.pos + 2 * cs.length < S.toks.length
      · obtain ⟨t, ht⟩ : ∃ t, S.toks[S.pos + 2 * cs.length]? = some t := ⟨_, List.getElem?_eq_getElem htl⟩
        obtain ⟨r, hr⟩ := HC.out.end_ t ht
        obtain ⟨pt, ct, hVt, hrt⟩ := HL.out.1.toks
        obtain ⟨bt, ot, rfl⟩ := hrt.sl (tokCells_at _ _ _ ht).1
        have k0 := (HL.out.1.tokAt hVt ht).1
        have c0 := HL.out.1.cell (i := 0) rfl
        have c1 := HL.out.1.cell (i := 1) rfl
        rw [hVt] at c0
        have hHd := Hd.of 35 r
        rw [← hr] at hHd
        simp only at k0 c0 c1
        generalize bstr t.1 = X at k0 hHd
        obtain ⟨hp0, ha0, hre⟩ := hHd
        obtain ⟨nt, hnn⟩ : ∃ nt, S.toks.length = nt := ⟨_, rfl⟩
        obtain ⟨kp, hkk⟩ : ∃ kp, S.pos + 2 * cs.length = kp := ⟨_, rfl⟩
        rw [hnn] at c0 htl hN
        rw [hkk] at c1 k0 htl
        have hki : (kp : Int) < nt := by omega
        have hk0 : (0 : Int) ≤ kp := by omega
        have HM : Hid (∀ j, Calls Tryz.prog 36 #[.pointer (some ⟨b, 0, none⟩)] (wr.drewN j) fun e w' => e = .returned (.bool true) ∧ ∃ k, w' = (wr.drewN j).drewN k) := Lib.hid fun j => more_any (HL.out.1.below (below_drewN j)) (decide_eq_true (by show S.pos + 2 * cs.length < S.toks.length; omega))
        clear hVt hrt hnn hkk htl ht hN hre hr
        go_wp2_with fail
        go_quiet (go_must (exact (HM.out _).mono fun e w' ⟨he, n, hn⟩ => ⟨he, _, hn.trans (World.drewN_drewN _ _ _)⟩))
        have H2 := Lib.hid (And.intro (HL.out.1.below (below_drewN nq)) (HL.out.2.1.trans ((below_drewN (B := wr.heap.size) nq).mono HL.out.1.base_le)))
        clear k0 c0 c1
        generalize wr.drewN nq = w2 at *
        go_wp2_with fail
        go_end0
        refine ⟨rfl, ⟨rows', ?_, H2.out.1⟩, H2.out.2⟩
        have := HL.out.2.2
        rwa [List.take_length] at this
      · have HM : Hid (∀ j, Calls Tryz.prog 36 #[.pointer (some ⟨b, 0, none⟩)] (wr.drewN j) fun e w' => e = .returned (.bool false) ∧ ∃ k, w' = (wr.drewN j).drewN k) := Lib.hid fun j => more_any (HL.out.1.below (below_drewN j)) (decide_eq_false (by show ¬ S.pos + 2 * cs.length < S.toks.length; omega))
        clear htl
        go_wp2_with fail
        go_quiet (go_must (exact (HM.out _).mono fun e w' ⟨he, n, hn⟩ => ⟨he, _, hn.trans (World.drewN_drewN _ _ _)⟩))
        have H2 := Lib.hid (And.intro (HL.out.1.below (below_drewN nq)) (HL.out.2.1.trans ((below_drewN (B := wr.heap.size) nq).mono HL.out.1.base_le)))
        generalize wr.drewN nq = w2 at *
        go_wp2_with fail
        go_end0
        refine ⟨rfl, ⟨rows', ?_, H2.out.1⟩, H2.out.2⟩
        have := HL.out.2.2
        rwa [List.take_length] at this
end Go.Proofs.YtcdjkbgedmehjaaGreatDoor
namespace Go.Proofs.YtcdjkbgedmehjaaGreatDoor
set_option linter.unusedVariables false
open Go.RowKit Go.Sort

/-! # the reader: a row that comes new -/
theorem rowCells_one (l : List VecE) : ∀ u ∈ rowCells l, u.oneCell' = true := by
  intro u hu
  obtain ⟨x, hx, hu⟩ := List.mem_flatten.1 hu
  obtain ⟨e, _, rfl⟩ := List.mem_map.1 hx
  simp only [List.mem_cons, List.not_mem_nil, or_false] at hu
  rcases hu with rfl | rfl <;> rfl
set_option maxRecDepth 100000 in
theorem clone_row {w : World} {v : Value} {m : Nat} {xs : List Value} (h : RO w v 2 m xs) (h1 : ∀ u ∈ xs, u.oneCell' = true) (hm : m ≤ 1000000) : Calls Tryz.prog 66 #[v] w fun e w' => ∃ v', e = .returned v' ∧ w'.ownsRow w.heap.size 46 2 v' m xs ∧ Below w.heap.size w w' := by
  have H := Lib.hid h
  have H1 := Lib.hid h1
  obtain ⟨hl, p, c, rfl, hcell⟩ := h
  cases p with
  | none =>
    have hx : xs = [] := by
      cases xs with
      | nil => rfl
      | cons u r => obtain ⟨b, o', hb, _⟩ := hcell 0 u rfl; cases hb
    subst hx
    obtain rfl : m = 0 := by simp at hl; omega
    have hnil := fun w' => Lib.run_eql_slice_nil (P := Tryz.prog) w' 52 46 none 0 c 0 0 Tryz.underlying52
    clear H H1 h1 hcell hl
    go_enter Tryz.func66, Tryz.ntmps66
    go_wp2_with fail
    go_ret
    exact ⟨_, rfl, ⟨rfl, .inl ⟨rfl, rfl⟩⟩, Below.refl _ _⟩
  | some ad =>
    have hnil := fun w' => Lib.run_eql_slice_nil (P := Tryz.prog) w' 52 46 (some ad) m c 0 0 Tryz.underlying52
    have hs0 := (Blk.new (w := w) 46 []).own (n := 0) (size := 2) (by simp) (Nat.zero_le _) w.heap.size (Nat.le_refl _)
    have HS := Lib.hid (And.intro hs0 (And.intro (H.out.below (Below.new w (.cells #[] 46))) (Below.new w (.cells #[] 46))))
    clear hcell hl h1 hs0
    go_enter Tryz.func66, Tryz.ntmps66
    go_wp2_with (at_builtin; go_must (refine wpList_appR rfl  _ _ 52 rfl TVecs w.heap.size (.slice (some ⟨w.heap.size, 0, none⟩) 0 0) 0 [] rfl HS.out.1 _ m xs rfl HS.out.2.1 H1.out (by omega) (by omega) (by simp) ?_); intro v4 w4 happ; have HP := Lib.hid happ; clear happ)
    have hf := ownsRow_le HP.out.own
    go_ret
    refine ⟨_, rfl, by have := HP.out.own; rwa [Nat.zero_add, List.nil_append] at this, HP.out.below HS.out.2.2 (by simp) ?_⟩
    intro k hk
    have : k = w.heap.size := by simpa [Value.ownBlock] using hk.symm
    omega
section
variable {base b : Nat} {w w1 w2 : World} {S : RdS} {V : Key → Value}
def addV (V : Key → Value) (n : Nat) (zv v' : Value) : Key → Value := updV (updV V .vals v') (.row n) zv
theorem Rof_add (es : List VecE) (zv v' : Value) : upd (upd (Rof S V) (.row S.rows.length) (zv, es.length, rowCells es)) .vals (v', S.rows.length + 1, ((List.range S.rows.length).map fun i => V (.row i)) ++ [zv]) = Rof { S with rows := S.rows ++ [es] } (addV V S.rows.length zv v') := by
  funext k
  cases k with
  | vals =>
    rw [upd_same]
    simp only [Rof, addV, updV, List.length_append, List.length_cons, List.length_nil, Nat.zero_add, List.range_succ, List.map_append, List.map_cons, List.map_nil]
    simp only [if_true]
    have e1 : (if (Key.vals : Key) = .row S.rows.length then zv else v') = v' := if_neg (by intro e; cases e)
    rw [e1]
    have e2 : ∀ i ∈ List.range S.rows.length, (if Key.row i = .row S.rows.length then zv else if Key.row i = .vals then v' else V (.row i)) = V (.row i) := fun i hi => by
      rw [if_neg (by intro e; cases e; exact absurd (List.mem_range.1 hi) (Nat.lt_irrefl _)), if_neg (by intro e; cases e)]
    rw [List.map_congr_left e2]
  | row j =>
    rw [upd_other _ _ (by intro e; cases e)]
    by_cases hj : j = S.rows.length
    · subst hj
      rw [upd_same]
      simp [Rof, addV, updV]
    · rw [upd_other _ _ (by intro e; cases e; exact hj rfl)]
      have e1 : addV V S.rows.length zv v' (.row j) = V (.row j) := by
        unfold addV updV
        rw [if_neg (by intro e; cases e; exact hj rfl), if_neg (by intro e; cases e)]
      simp only [Rof, e1, List.length_append, List.length_cons, List.length_nil, Nat.zero_add]
      by_cases h1 : j < S.rows.length
      · rw [if_pos h1, if_pos (by omega), List.getD_eq_getElem?_getD, List.getD_eq_getElem?_getD, List.getElem?_append_left h1]
      · rw [if_neg h1, if_neg (by omega)]
  | tok => simp [upd, Rof, addV, updV]
  | ids => simp [upd, Rof, addV, updV]
  | vars => simp [upd, Rof, addV, updV]
/-- a new row is appended to the rows -/
theorem Rdr.addRow (h : Rdr base b w S V) (es : List VecE) {zv v' : Value} {N : Nat} (hN : w.heap.size ≤ N) (hb : Below w.heap.size w w1) (hz : w1.ownsRow N 46 2 zv es.length (rowCells es)) (hl : es.length = S.vars.length)
    (hvec : ∀ (j : Nat) (e : VecE) (v : Bs × Nat), es[j]? = some e → S.vars[j]? = some v → e.w = v.2 ∧ VR w1 (vecV e) e.w e.x ∧ Sep w1.heap.size (upd (Rof S V) (.row S.rows.length) (zv, es.length, rowCells es)) b (vecV e))
    (ha : AppR base 52 1 w1 (V .vals) (S.rows.length + 1) (((List.range S.rows.length).map fun i => V (.row i)) ++ [zv]) v' w2) :
    Rdr base b (w2.setCell ⟨b, 5, none⟩ v') { S with rows := S.rows ++ [es] } (addV V S.rows.length zv v') := by
  have hz' : w1.ownsRow base 46 2 zv es.length (rowCells es) := by
    refine ⟨hz.1, ?_⟩
    rcases hz.2 with h0 | ⟨g, cap, cur, h1, h2, h3⟩
    · exact .inl h0
    · exact .inr ⟨g, cap, cur, h1, Nat.le_trans (Nat.le_trans h.base_le hN) h2, h3⟩
  have hzb : ∀ g, zv.ownBlock = some g → w.heap.size ≤ g := fun g hg => Nat.le_trans hN (own_lt hz g hg).1
  have hm1 := h.mem.put (.row S.rows.length) hz' hb.size (fun g hg => .inr (hzb g hg)) (fun g hg _ => hb.block g hg)
  have hq1 : (upd (Rof S V) (.row S.rows.length) (zv, es.length, rowCells es) .vals).1 = V .vals := by rw [upd_other _ _ (by intro e; cases e)]; rfl
  have hm2 := hm1.app .vals (by rw [hq1]; exact ha)
  rw [Rof_add] at hm2
  have hm3 : Mem kt ks base b (w2.setCell ⟨b, 5, none⟩ v') (Rof { S with rows := S.rows ++ [es] } (addV V S.rows.length zv v')) := hm2.keep (by simp) fun k g hg => Below.heap_setCell _ _ _ _ (fun e => hm2.nb k (by rw [hg, e]))
  have hnbv : (V .vals).ownBlock ≠ some b := h.mem.nb .vals
  have hbb : w2.heap[b]? = w.heap[b]? := by
    rw [ha.grown.block b (Nat.lt_of_lt_of_le h.mem.lt hb.size) (Ne.symm hnbv)]; exact hb.block b h.mem.lt
  have hown : ∀ q g, (Rof { S with rows := S.rows ++ [es] } (addV V S.rows.length zv v') q).1.ownBlock = some g → (∃ q', (upd (Rof S V) (.row S.rows.length) (zv, es.length, rowCells es) q').1.ownBlock = some g) ∨ w1.heap.size ≤ g := fun q g hg => by
    rw [← Rof_add] at hg
    by_cases hk : q = .vals
    · subst hk
      rw [upd_same] at hg
      rcases ha.at_ with e | e
      · exact .inl ⟨.vals, by rw [hq1, ← e]; exact hg⟩
      · rw [e] at hg; cases hg; exact .inr (Nat.le_refl _)
    · rw [upd_other _ _ hk] at hg; exact .inl ⟨q, hg⟩
  have hown0 : ∀ q g, (upd (Rof S V) (.row S.rows.length) (zv, es.length, rowCells es) q).1.ownBlock = some g → (∃ q', (Rof S V q').1.ownBlock = some g) ∨ w.heap.size ≤ g := fun q g hg => by
    by_cases hk : q = .row S.rows.length
    · subst hk; rw [upd_same] at hg; exact .inr (hzb g hg)
    · rw [upd_other _ _ hk] at hg; exact .inl ⟨q, hg⟩
  have hold1 : ∀ g, g < w1.heap.size → g ≠ b → (∀ q, (upd (Rof S V) (.row S.rows.length) (zv, es.length, rowCells es) q).1.ownBlock ≠ some g) → (w2.setCell ⟨b, 5, none⟩ v').heap[g]? = w1.heap[g]? := fun g hg hgb hq => by
    rw [Below.heap_setCell _ _ _ _ hgb]
    exact ha.grown.block g hg (Ne.symm (by rw [← hq1]; exact hq .vals))
  have hsz : w1.heap.size ≤ (w2.setCell ⟨b, 5, none⟩ v').heap.size := by simpa using ha.grown.size
  refine ⟨hm3, ?_, fun i r hi => ?_, fun i r hi j p v hp hv => ?_⟩
  · have h1 : Blk w2 b 82 (rdCells S V) := by have := h.blk; unfold Blk at this ⊢; rw [hbb]; exact this
    have h2 := h1.set 5 v'
    have e : (rdCells S V).set 5 v' = rdCells { S with rows := S.rows ++ [es] } (addV V S.rows.length zv v') := by simp [rdCells, addV, updV]
    rw [← e]; exact h2
  · simp only at hi
    rcases Nat.lt_or_ge i S.rows.length with h1 | h1
    · rw [List.getElem?_append_left h1] at hi; exact h.len i r hi
    · rw [List.getElem?_append_right h1] at hi
      obtain ⟨h2, rfl⟩ : i - S.rows.length = 0 ∧ es = r := by
        cases hh : i - S.rows.length with
        | zero => rw [hh] at hi; simp at hi; exact ⟨rfl, hi⟩
        | succ k => rw [hh] at hi; simp at hi
      exact hl
  · simp only at hi hv
    rcases Nat.lt_or_ge i S.rows.length with h1 | h1
    · rw [List.getElem?_append_left h1] at hi
      have hh := h.vec i r hi j p v hp hv
      have hs1 := hh.2.2.turn hb.size hown0
      exact ⟨hh.1, hs1.vr (hh.2.1.below hb) hold1, hs1.turn hsz hown⟩
    · rw [List.getElem?_append_right h1] at hi
      obtain ⟨h2, rfl⟩ : i - S.rows.length = 0 ∧ es = r := by
        cases hh : i - S.rows.length with
        | zero => rw [hh] at hi; simp at hi; exact ⟨rfl, hi⟩
        | succ k => rw [hh] at hi; simp at hi
      have hh := hvec j p v hp hv
      exact ⟨hh.1, hh.2.2.vr hh.2.1 hold1, hh.2.2.turn hsz hown⟩
end
end Go.Proofs.YtcdjkbgedmehjaaGreatDoor
