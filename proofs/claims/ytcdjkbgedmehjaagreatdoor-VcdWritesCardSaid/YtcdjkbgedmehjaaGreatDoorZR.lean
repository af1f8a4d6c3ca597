/- Texts of this claim, one behind another: W12, W13. They state lemmas; each names its own conditions. -/
import Derived.Test.YtcdjkbgedmehjaaGreatDoorZQ
namespace Go.Proofs.YtcdjkbgedmehjaaGreatDoor
set_option linter.unusedVariables false
open Go.RowKit Go.Sort

/-! # Told -/
structure FewI (T : TrcI) : Prop where
  vars : T.vars.length ≤ 12
  rows : T.rows.length ≤ 12
  row : ∀ r ∈ T.rows, r.length ≤ 14
def toldT (T : TrcI) : Trf := ⟨T.top, T.vars, T.rows.map fun r => r.map fun p => bitsOf p.1 p.2⟩
theorem TrR.toI {w : World} {tv : Value} {T : Trc} (h : TrR w tv T) : TrI w tv ⟨T.top, T.vars.map fun x => (x.1, (x.2 : Int)), T.rows⟩ := by
  obtain ⟨vv, rv, rvs, ess, h1, h2, h3, h4, h5, h6⟩ := h.ex
  refine ⟨⟨vv, rv, rvs, ess, h1, ?_, h3, h4, h5, h6⟩, h.cap⟩
  have e : icells (T.vars.map fun x => (x.1, (x.2 : Int))) = tokCells T.vars := by simp only [icells, tokCells, List.map_map]; rfl
  rw [e]
  simp only [List.length_map]
  exact h2
def rbEL (p : Nat × List Bool) : EL where
  F w := Blk w p.1 4 (bools p.2)
  bl := [p.1]
  keep w w' h hk := by unfold Blk at h ⊢; rw [hk p.1 (by simp)]; exact h
def bCells (es : List (Nat × List Bool)) : List Value := es.map fun p => .slice (some ⟨p.1, 0, none⟩) p.2.length p.2.length
theorem bCells_snoc (es : List (Nat × List Bool)) (p : Nat × List Bool) : bCells (es ++ [p]) = bCells es ++ [.slice (some ⟨p.1, 0, none⟩) p.2.length p.2.length] := by simp [bCells]
structure RowsB (rs : List RowV) (ess : List (List (Nat × List Bool))) (els : List EL) : Prop where
  len : rs.length = ess.length
  at_ : ∀ (i : Nat) (r : RowV) (es : List (Nat × List Bool)), rs[i]? = some r → ess[i]? = some es → r.2 = (es.length, bCells es)
  mem : ∀ es ∈ ess, ∀ e ∈ es, rbEL e ∈ els
theorem RowsB.nil (els : List EL) : RowsB [] [] els := ⟨rfl, fun i r es h => by simp at h, fun es h => by simp at h⟩
theorem RowsB.more {rs : List RowV} {ess : List (List (Nat × List Bool))} {els : List EL} (h : RowsB rs ess els) (e : EL) : RowsB rs ess (els ++ [e]) := ⟨h.len, h.at_, fun es he x hx => List.mem_append_left _ (h.mem es he x hx)⟩
theorem RowsB.snoc {rs : List RowV} {ess : List (List (Nat × List Bool))} {els : List EL} (h : RowsB rs ess els) {v : Value} {es : List (Nat × List Bool)} (he : ∀ e ∈ es, rbEL e ∈ els) : RowsB (rs ++ [(v, es.length, bCells es)]) (ess ++ [es]) els := by
  refine ⟨by simp [h.len], fun j r' es' h1 h2 => ?_, fun es' hm x hx => ?_⟩
  · have hlen := h.len
    by_cases hj : j < ess.length
    · exact h.at_ j r' es' (by rw [List.getElem?_append_left (by omega)] at h1; exact h1) (by rw [List.getElem?_append_left hj] at h2; exact h2)
    · rw [List.getElem?_append_right (by omega)] at h1 h2
      rw [hlen] at h1
      by_cases h0 : j - ess.length = 0
      · rw [h0] at h1 h2; cases h1; cases h2; rfl
      · obtain ⟨k, hk⟩ : ∃ k, j - ess.length = k + 1 := ⟨j - ess.length - 1, by omega⟩
        rw [hk] at h1; simp at h1
  · rcases List.mem_append.1 hm with hm | hm
    · exact h.mem es' hm x hx
    · simp only [List.mem_cons, List.not_mem_nil, or_false] at hm; subst hm; exact he x hx
theorem RowsB.rows {kt ks : GK → Nat} {TT BT : Nat} {top : Value} {W1 w w' : World} {vr cur : RowV} {tv : Value} {rs : List RowV} {els : List EL} {ess : List (List (Nat × List Bool))} (hr : RowsB rs ess els) (h : LG kt ks TT top BT W1 w vr tv rs cur els) (hold : ∀ g, BT ≤ g → w'.heap[g]? = w.heap[g]?) : RowsR w' rs (ess.map fun es => es.map Prod.snd) := by
  refine ⟨by rw [List.length_map]; exact hr.len, fun i r row h1 h2 => ?_⟩
  rw [List.getElem?_map] at h2
  obtain ⟨es, he, rfl⟩ := Option.map_eq_some_iff.1 h2
  have e2 := hr.at_ i r es h1 he
  refine ⟨by rw [e2]; simp, by rw [e2]; simp [bCells], fun j b l hb hl => ?_⟩
  rw [List.getElem?_map] at hl
  obtain ⟨p, hp, rfl⟩ := Option.map_eq_some_iff.1 hl
  rw [e2] at hb
  have hb' : (bCells es)[j]? = some b := hb
  unfold bCells at hb'
  rw [List.getElem?_map, hp] at hb'
  cases hb'
  obtain ⟨a, c⟩ := h.m.el _ (hr.mem es (List.mem_of_getElem? he) p (List.mem_of_getElem? hp))
  have hk : Blk w' p.1 4 (bools p.2) := (rbEL p).keep _ _ a fun g hg => hold g (c g hg).1.1
  exact ⟨⟨by simp [bools], _, _, rfl, fun j u hj => ⟨_, _, rfl, by rw [Nat.zero_add]; exact hk.cell hj⟩⟩, _, _, rfl, Nat.le_refl _⟩
set_option maxRecDepth 100000 in
set_option maxHeartbeats 4000000 in
theorem bits_new {w : World} {va : Value} {n A : Nat} (hA : VR w va n A) : Calls Tryz.prog 42 #[va] w fun e w' => ∃ g, e = .returned (.slice (some ⟨g, 0, none⟩) n n) ∧ w.heap.size ≤ g ∧ g < w'.heap.size ∧ Blk w' g 4 (bools (bitsOf n A)) ∧ Below w.heap.size w w' := by
  have hn128 := hA.le
  have hni : (n : Int) ≤ 128 := by omega
  have HBit : Hid (∀ w' (k : Nat), Below w.heap.size w w' → Calls Tryz.prog 52 #[va, .int .i64 k] w' fun e w'' => e = .returned (.bool (A.testBit k)) ∧ Below w'.heap.size w' w'') := Lib.hid fun w' k hb => by
    have := bit_any (hA.below hb) k
    rwa [show bitI A (k : Int) = A.testBit k by unfold bitI; simp] at this
  obtain ⟨pa, ca, rfl, ra⟩ := hA.ex
  have hmk := fun w => mk_bools n (by omega) w
  have HN := Lib.hid hn128
  clear hA ra hn128
  go_enter Tryz.func42, Tryz.ntmps42
  go_wp2_with fail
  have k0 := (Blk.new (w := w) 46 [.int .i64 n, .slice pa (wcount n) ca]).alloc (.cells (bools (List.replicate n false)).toArray 4)
  have k1 := Blk.new (w := w.alloc (.cells #[.int .i64 n, .slice pa (wcount n) ca] 46)) 4 (bools (List.replicate n false))
  have hb : Below w.heap.size w ((w.alloc (.cells #[.int .i64 n, .slice pa (wcount n) ca] 46)).alloc (.cells (bools (List.replicate n false)).toArray 4)) := (Below.new _ _).alloc (by simp) _
  rw [World.size_alloc] at k1
  have HK := Lib.hid (And.intro k0 (And.intro k1 hb))
  clear k0 k1 hb hmk
  generalize (w.alloc (.cells #[.int .i64 n, .slice pa (wcount n) ca] 46)).alloc (.cells (bools (List.replicate n false)).toArray 4) = W at *
  go_loopw [10] (fun i wr => ∃ k : Nat, k ≤ n ∧ i = .int .i64 k ∧ Blk wr w.heap.size 46 [.int .i64 n, .slice pa (wcount n) ca] ∧ Blk wr (w.heap.size + 1) 4 (bools (rl n fun j => decide (j < k) && A.testBit j)) ∧ Below w.heap.size w wr) (fun i _ => n - (intOf i).toNat)
  case atStart =>
    refine ⟨0, Nat.zero_le _, rfl, HK.out.1, ?_, HK.out.2.2⟩
    have : (rl n fun j => decide (j < 0) && A.testBit j) = List.replicate n false := by rw [← rl_false]; exact rl_congr fun i _ => by simp
    rw [this]; exact HK.out.2.1
  case round =>
    obtain ⟨k, hk, rfl, h0, h1, hbel⟩ := hrel
    have HR := Lib.hid (And.intro h0 (And.intro h1 hbel))
    have c0 := h0.cell (i := 0) rfl
    have c1 := h0.cell (i := 1) rfl
    by_cases hlt : k < n
    · have hki : (k : Int) < n := by omega
      have HC := Lib.hid (HBit.out wr k hbel)
      have HS : Hid ((bools (rl n fun j => decide (j < k) && A.testBit j)).set k (.bool (A.testBit k)) = bools (rl n fun j => decide (j < k + 1) && A.testBit j)) := Lib.hid (by
        rw [bools_set, rl_set]
        congr 1
        exact rl_congr fun i hi => by
          by_cases e : i = k
          · subst e; simp
          · by_cases e2 : i < k
            · have : i < k + 1 := by omega
              simp [e, e2, this]
            · have : ¬ i < k + 1 := by omega
              simp [e, e2, this])
      have hat := bools_at (rl n fun j => decide (j < k) && A.testBit j) k (by rw [rl_length]; exact hlt)
      have HAt := Lib.hid hat
      generalize A.testBit k = q at *
      clear h0 h1 hbel hat
      go_wp2_with fail
      refine HC.out.mono ?_; rintro e w2 ⟨rfl, hb2⟩
      have h1' := HR.out.2.1.next hb2
      have d0 := h1'.cell HAt.out
      have d1 := h1'.frz k
      have HR2 := Lib.hid (And.intro (HR.out.1.next hb2) (And.intro h1' (HR.out.2.2.trans (hb2.mono HR.out.2.2.size))))
      clear hb2 h1' c0 c1
      go_wp2_with fail
      go_roundw
      case rel => exact ⟨k + 1, by omega, by go_num, HR2.out.1.other _ (by show w.heap.size ≠ w.heap.size + 1; omega), by rw [← HS.out]; exact HR2.out.2.1.set k _, HR2.out.2.2.setCell (Nat.le_succ _) _⟩
      case measure => simp [intOf]; omega
    · obtain rfl : k = n := by omega
      have hfin : (rl k fun j => decide (j < k) && A.testBit j) = bitsOf k A := rl_congr fun i hi => by simp [hi]
      have HF := Lib.hid hfin
      clear h0 h1 hbel hlt hfin
      go_wp2_with fail
      go_ret
      have hk1 := HR.out.2.1
      rw [HF.out] at hk1
      exact ⟨_, rfl, Nat.le_succ _, hk1.lt, hk1, HR.out.2.2⟩
set_option maxRecDepth 100000 in
set_option maxHeartbeats 16000000 in
theorem told_any {w : World} {tv : Value} {T : TrcI} (h : TrI w tv T) (hf : FewI T) : Calls Tryz.prog 13 #[tv] w fun e w' => ∃ tv', e = .returned tv' ∧ RefR w' tv' (toldT T) ∧ Below w.heap.size w w' := by
  obtain ⟨vv, rv, rs, ess0, rfl, hvv, hrv, hel, hTr, hrow⟩ := h.ex
  obtain ⟨pv, cv, rfl⟩ := hvv.form
  obtain ⟨pr, cr, rfl⟩ := hrv.form
  have hrl : rs.length = T.rows.length := by rw [hTr, List.length_map, hel]
  have hw1 := Below.new w (.cells #[.string (bstr T.top), .slice pv T.vars.length cv, .slice pr rs.length cr] 31)
  have hk1 := Blk.new (w := w) 31 [.string (bstr T.top), .slice pv T.vars.length cv, .slice pr rs.length cr]
  obtain ⟨wa, hwa⟩ : ∃ wa, w.alloc (.cells #[.string (bstr T.top), .slice pv T.vars.length cv, .slice pr rs.length cr] 31) = wa := ⟨_, rfl⟩
  have hsa : wa.heap.size = w.heap.size + 1 := by rw [← hwa, World.size_alloc]
  have hw2 := Below.new wa (.cells #[.string ⟨#[]⟩, .slice none 0 0, .slice none 0 0] 25)
  have hk2 := Blk.new (w := wa) 25 [.string ⟨#[]⟩, .slice none 0 0, .slice none 0 0]
  obtain ⟨wb, hwb⟩ : ∃ wb, wa.alloc (.cells #[.string ⟨#[]⟩, .slice none 0 0, .slice none 0 0] 25) = wb := ⟨_, rfl⟩
  have hsb : wb.heap.size = w.heap.size + 1 + 1 := by rw [← hwb, World.size_alloc, hsa]
  have hw3 := Below.new wb (.cells #[.string (bstr T.top), .slice none 0 0, .slice none 0 0] 25)
  have hk3 := Blk.new (w := wb) 25 [.string (bstr T.top), .slice none 0 0, .slice none 0 0]
  have HZ := Lib.hid (LG.zero (kt := fkt) (ks := fks) hk3 hw3)
  rw [hwa] at hw1 hk1
  rw [hwb] at hw2 hk2
  have HS : Hid (∀ wx, Below wb.heap.size wb wx → Below w.heap.size w wx ∧ Blk wx w.heap.size 31 [.string (bstr T.top), .slice pv T.vars.length cv, .slice pr rs.length cr] ∧ Blk wx (w.heap.size + 1) 25 [.string ⟨#[]⟩, .slice none 0 0, .slice none 0 0]) := Lib.hid fun wx hb => by
    have hbb := hw2.trans (hb.mono hw2.size)
    refine ⟨hw1.trans (hbb.mono hw1.size), hk1.next hbb, ?_⟩
    rw [← hsa]; exact hk2.next hb
  have HT := Lib.hid (And.intro hvv (And.intro hrv (And.intro hrl (And.intro hel (And.intro hTr hrow)))))
  have HSB := Lib.hid hsb
  have HWA := Lib.hid hwa
  have HWB := Lib.hid hwb
  have HF := Lib.hid hf
  have hn12 := hf.vars
  have hm12 : rs.length ≤ 12 := by rw [hrl]; exact hf.rows
  clear h hvv hrv hrl hrow hel hTr hw1 hk1 hw2 hk2 hw3 hk3 hsa hsb hwa hwb hf
  generalize hn : T.vars.length = n at *
  generalize hm : rs.length = m at *
  generalize hX : bstr T.top = X at *
  go_enter Tryz.func13, Tryz.ntmps13
  go_upto_region 2 with fail
  rw [HWA.out, HWB.out]
  have hkb := (HS.out _ (Below.new wb (.cells #[.string X, .slice none 0 0, .slice none 0 0] 25))).2.1
  rw [HSB.out] at HZ HS
  generalize wb.alloc (.cells #[.string X, .slice none 0 0, .slice none 0 0] 25) = wc at *
  generalize hBT : w.heap.size + 1 + 1 = BT at *
  have hS1 : w.heap.size + 1 < BT := by omega
  generalize hSS : w.heap.size + 1 = S1 at *
  have hS0 : w.heap.size < BT := by omega
  obtain ⟨S, hS⟩ : ∃ S, w.heap.size = S := ⟨_, rfl⟩
  rw [hS] at hS0 HS hkb ⊢
  have q1 := hkb.cell (i := 1) rfl
  clear hkb
  go_wp2_with fail
  go_loopw [17] (fun iv wr => ∃ (i : Nat) (vv : Value), i ≤ n ∧ iv = .int .i64 i ∧ LG fkt fks 25 (.string X) BT wb wr (vv, i, icells (T.vars.take i)) (.slice none 0 0) [] nilR []) (fun iv _ => n - (intOf iv).toNat)
  case atStart => exact ⟨0, _, Nat.zero_le _, rfl, HZ.out⟩
  case round =>
    obtain ⟨i, ov, hi, rfl, hlg⟩ := hrel
    obtain ⟨pq, cq, e⟩ := ownsRow_form hlg.varsO
    simp only at e
    subst e
    have HL := Lib.hid hlg
    clear hlg
    obtain ⟨hbw, hkS, hkR⟩ := HS.out wr HL.out.bel
    have HB := Lib.hid (And.intro hbw (And.intro hkS hkR))
    clear hbw hkS hkR
    by_cases hin : i < n
    · have hvi : T.vars[i]? = some T.vars[i] := List.getElem?_eq_getElem (by omega)
      have hro := HT.out.1.below (by rw [hS]; exact HB.out.1)
      obtain ⟨vb, vo, rfl⟩ := hro.sl (icells_at _ _ _ hvi).1
      have q2 := hro.cell (icells_at _ _ _ hvi).1
      have q3 := hro.cell (icells_at _ _ _ hvi).2
      rw [← Nat.add_assoc] at q3
      have HV := Lib.hid (take_snoc' T.vars i _ hvi)
      obtain ⟨y, hy⟩ : ∃ y, T.vars[i] = y := ⟨_, rfl⟩
      rw [hy] at HV q2 q3
      clear hro hvi hy
      obtain ⟨A, hA⟩ : ∃ A, bstr y.1 = A := ⟨_, rfl⟩
      obtain ⟨D, hD⟩ : ∃ D, y.2 = D := ⟨_, rfl⟩
      rw [hA] at q2
      rw [hD] at q3
      have hii : (i : Int) < n := by omega
      have hi0 : (0 : Int) ≤ i := by omega
      have hiw : IntKind.i64.wrap ((i : Int) + 1) = (i : Int) + 1 := i64_of (by omega)
      have HX := Lib.hid (And.intro hin (And.intro hA hD))
      clear hin hi hA hD
      have hb1 := Below.new wr (.cells #[.string A, .int .i64 D] 51)
      have hl1 := HL.out.below hb1
      have hk1 := Blk.new (w := wr) 51 [.string A, .int .i64 D]
      have c1 := hl1.blk.cell (i := 1) rfl
      have f1 := hl1.blk.frz 1
      have d0 := hk1.cell (i := 0) rfl
      have d1 := hk1.cell (i := 1) rfl
      have hb2 := Below.new (wr.alloc (.cells #[.string A, .int .i64 D] 51)) (.cells #[.string A, .int .i64 D] 53)
      have hk2 := Blk.new (w := wr.alloc (.cells #[.string A, .int .i64 D] 51)) 53 [.string A, .int .i64 D]
      have hls := hl1.below hb2
      simp only [World.size_alloc] at hk2
      have HA := Lib.hid (And.intro hls.varsO (And.intro (RO.own (hk2.own (n := 1) (size := 2) rfl (by decide) 0 (Nat.zero_le _))) (And.intro hls.ge (And.intro hls (hb2.block BT hl1.blk.lt)))))
      clear hb1 hl1 hk1 hb2 hk2 hls
      go_upto_region 6 with (at_builtin; refine wpList_appR rfl _ _ 22 rfl FVars BT (.slice pq i cq) i _ rfl HA.out.1 _ 1 _ rfl HA.out.2.1 (by simp [Value.oneCell']) (by omega) (by omega) HA.out.2.2.1 ?_; intro v4 w4 happ; obtain ⟨p6, c6', ev4⟩ := ownsRow_form happ.own; subst ev4; have e6 := (HA.out.2.2.2.1.keepB .vars happ).trans HA.out.2.2.2.2; have c1' := (World.cell?_of_block (a := ⟨BT, 1, none⟩) e6).trans c1; have f1' := (World.frozen?_of_block (a := ⟨BT, 1, none⟩) e6).trans f1; have HP := Lib.hid happ; clear happ e6)
      have hq : AppR BT 53 2 ((wr.alloc (.cells #[.string A, .int .i64 D] 51)).alloc (.cells #[.string A, .int .i64 D] 53)) (.slice pq i cq) (i + 1) (icells (T.vars.take (i + 1))) (.slice p6 (i + 1) c6') w4 := by
        rw [HV.out, ← icells_snoc, HX.out.2.1, HX.out.2.2]
        exact HP.out
      have hls5 := HA.out.2.2.2.1.appV hq
      have H5 := Lib.hid hls5
      clear hq hls5 c1 f1 c1' f1' HP HA d0 d1
      generalize w4.setCell ⟨BT, 1, none⟩ (.slice p6 (i + 1) c6') = w5 at *
      go_wp2_with fail
      go_roundw
      case rel => exact ⟨i + 1, _, HX.out.1, by go_num, H5.out⟩
      case measure => have := HX.out.1; simp [intOf]; omega
    · obtain rfl : i = n := by omega
      have hst : T.vars.take i = T.vars := List.take_of_length_le (by omega)
      have hL := HL.out
      rw [hst] at hL
      have HL2 := Lib.hid hL
      have q1 := HB.out.2.1.cell (i := 2) rfl
      clear hst hL HL hin hi
      go_wp2_with fail
      go_loopw [35] (fun kv wr => ∃ (k : Nat) (tvv : Value) (rs' : List RowV) (ess : List (List (Nat × List Bool))) (els : List EL), k ≤ m ∧ kv = .int .i64 k ∧ LG fkt fks 25 (.string X) BT wb wr (.slice pq i cq, i, icells T.vars) tvv rs' nilR els ∧ RowsB rs' ess els ∧ ess.map (fun es => es.map Prod.snd) = (T.rows.take k).map (fun r => r.map fun l => bitsOf l.1 l.2)) (fun kv _ => m - (intOf kv).toNat)
      case atStart => exact ⟨0, _, [], [], [], Nat.zero_le _, rfl, HL2.out, RowsB.nil _, rfl⟩
      case round =>
        obtain ⟨k, tvv, rs', ess, els, hk, rfl, hlg, hrr, hes⟩ := hrel
        have hrl : rs'.length = k := by
          have h1 := congrArg List.length hes
          rw [List.length_map, List.length_map, List.length_take] at h1
          have h2 := hrr.len
          have h3 := HT.out.2.2.1
          omega
        obtain ⟨pt, ct, e⟩ := ownsRow_form hlg.valsO
        rw [hrl] at e
        subst e
        obtain ⟨hbw, hkS, hkR⟩ := HS.out _ hlg.bel
        have HB2 := Lib.hid (And.intro hbw (And.intro hkS hkR))
        have HR := Lib.hid (And.intro hlg (And.intro hrr (And.intro hrl hes)))
        clear hbw hkS hkR hlg hrr hrl hes
        by_cases hkm : k < m
        · have hkk : (k : Int) < m := by omega
          obtain ⟨r, hr⟩ : ∃ r, rs[k]? = some r := ⟨_, List.getElem?_eq_getElem (by omega)⟩
          obtain ⟨rc, hrc⟩ : ∃ es, ess0[k]? = some es := ⟨_, List.getElem?_eq_getElem (by have := HT.out.2.2.2.1; omega)⟩
          have hrr := HT.out.2.2.2.2.2 k r rc hr hrc
          have hrv := HT.out.2.1.below (by rw [hS]; exact HB2.out.1)
          obtain ⟨rb, ro, rfl⟩ := hrv.sl hr
          have q2 := hrv.cell hr
          obtain ⟨p1, c1, e⟩ := hrr.1.form
          (try simp only at e)
          subst e
          have hrow : T.rows[k]? = some (rc.map fun e => (e.w, e.x)) := by rw [HT.out.2.2.2.2.1, List.getElem?_map, hrc]; rfl
          have HV := Lib.hid (take_snoc' T.rows k _ hrow)
          have hN14 : rc.length ≤ 14 := by have := HF.out.row _ (List.mem_of_getElem? hrow); simpa using this
          have HE := Lib.hid (And.intro hrr.1 hrr.2)
          have hk0 : (0 : Int) ≤ k := by omega
          have hkw : IntKind.i64.wrap ((k : Int) + 1) = (k : Int) + 1 := i64_of (by omega)
          have HX := Lib.hid hkm
          clear hr hrow hrr hrc hrv hkm hk
          (try simp only at q2)
          generalize hN : rc.length = N at *
          go_wp2_with fail
          clear q2
          go_loopw [8, 41] (fun lv jv wr => ∃ (j : Nat) (es : List (Nat × List Bool)) (els : List EL), j ≤ N ∧ jv = .int .i64 j ∧ LG fkt fks 25 (.string X) BT wb wr (.slice pq i cq, i, icells T.vars) (.slice pt k ct) rs' (lv, es.length, bCells es) els ∧ RowsB rs' ess els ∧ (∀ e ∈ es, rbEL e ∈ els) ∧ es.map Prod.snd = (rc.take j).map fun e => bitsOf e.w e.x) (fun _ jv _ => N - (intOf jv).toNat)
          case atStart => exact ⟨0, [], _, Nat.zero_le _, rfl, HR.out.1, HR.out.2.1, fun e he => by simp at he, rfl⟩
          case round =>
            obtain ⟨j, es, els2, hj, rfl, hlg, hrs, hem, hev⟩ := hrel
            have hel : es.length = j := by
              have h1 := congrArg List.length hev
              rw [List.length_map, List.length_map, List.length_take] at h1
              omega
            rw [hel] at hlg
            obtain ⟨pc, ccap, e⟩ := ownsRow_form hlg.curO
            (try simp only at e)
            subst e
            obtain ⟨hbw, hkS, hkR⟩ := HS.out _ hlg.bel
            have HC := Lib.hid (And.intro hlg (And.intro hrs (And.intro hem (And.intro hev (And.intro hel hbw)))))
            clear hkS hkR hlg hrs hem hev hel hbw
            by_cases hjN : j < N
            · have hjj : (j : Int) < N := by omega
              obtain ⟨e, he⟩ : ∃ e, rc[j]? = some e := ⟨_, List.getElem?_eq_getElem (by omega)⟩
              have hve := HE.out.2 e (List.mem_of_getElem? he)
              have hrr1 := HE.out.1.below (by rw [hS]; exact HC.out.2.2.2.2.2)
              (try simp only at hrr1)
              obtain ⟨r1b, r1o, rfl⟩ := hrr1.sl (rowCells_at _ _ _ he).1
              have q3 := hrr1.cell (rowCells_at _ _ _ he).1
              have q4 := hrr1.cell (rowCells_at _ _ _ he).2
              rw [← Nat.add_assoc] at q4
              have HV2 := Lib.hid (take_snoc' rc j _ he)
              have hbv := Below.new wr (.cells #[.int .i64 e.w, .slice e.p (wcount e.w) e.c] 46)
              have hkv := Blk.new (w := wr) 46 [.int .i64 e.w, .slice e.p (wcount e.w) e.c]
              have HO := Lib.hid (bits_new ((hve.below (by rw [hS]; exact HC.out.2.2.2.2.2)).below hbv))
              obtain ⟨ew, ep, ec, ex⟩ := e
              unfold vecV at HO
              (try simp only at q3 q4 HO HV2 hbv hkv)
              have HVb := Lib.hid hbv
              have v0 := hkv.cell (i := 0) rfl
              have v1 := hkv.cell (i := 1) rfl
              have hj0 : (0 : Int) ≤ j := by omega
              have hjw : IntKind.i64.wrap ((j : Int) + 1) = (j : Int) + 1 := i64_of (by omega)
              have HX2 := Lib.hid hjN
              clear he hve hrr1 hbv hkv hjN hj
              go_wp2_with fail
              refine HO.out.mono ?_; rintro e w2 ⟨g, rfl, hg1, hg2, hkg, hb2⟩
              have hlv := HC.out.1.below HVb.out
              have hl2 := hlv.more (rbEL (g, bitsOf ew ex)) hb2 hkg (fun x hx => by
                have hx' : x ∈ [g] := hx
                simp only [List.mem_cons, List.not_mem_nil, or_false] at hx'
                subst hx'
                exact ⟨hg1, hg2⟩)
              have hbx := Below.new w2 (.cells #[.slice (some ⟨g, 0, none⟩) ew ew] 55)
              have hkx := Blk.new (w := w2) 55 [.slice (some ⟨g, 0, none⟩) ew ew]
              have hls := hl2.below hbx
              have HA := Lib.hid (And.intro hls.curO (And.intro (RO.own (hkx.own (n := 1) (size := 1) rfl (by decide) 0 (Nat.zero_le _))) (And.intro hls.ge hls)))
              clear hg1 hg2 hkg hb2 hlv hl2 hbx hkx hls HO q3 q4 v0 v1
              go_wp2_with (at_builtin; refine wpList_appR rfl _ _ 54 rfl FRow BT (.slice pc j ccap) j _ rfl HA.out.1 _ 1 _ rfl HA.out.2.1 (by simp [Value.oneCell']) (by omega) (by omega) HA.out.2.2.1 ?_; intro v8 w8 happ; obtain ⟨p8, c8, ev8⟩ := ownsRow_form happ.own; subst ev8; have HP := Lib.hid happ; clear happ)
              have hq : AppR BT 55 1 (w2.alloc (.cells #[.slice (some ⟨g, 0, none⟩) ew ew] 55)) (.slice pc j ccap) (es ++ [(g, bitsOf ew ex)]).length (bCells (es ++ [(g, bitsOf ew ex)])) (.slice p8 (j + 1) c8) w8 := by
                rw [List.length_append, HC.out.2.2.2.2.1, bCells_snoc, bitsOf_length]
                exact HP.out
              have hls8 := HA.out.2.2.2.appC hq
              have H8 := Lib.hid hls8
              clear hls8 hq HP
              go_roundw
              case rel =>
                refine ⟨j + 1, es ++ [(g, bitsOf ew ex)], _, HX2.out, by go_num, H8.out, HC.out.2.1.more _, fun e he => ?_, ?_⟩
                · rcases List.mem_append.1 he with he | he
                  · exact List.mem_append_left _ (HC.out.2.2.1 e he)
                  · simp only [List.mem_cons, List.not_mem_nil, or_false] at he; subst he; simp
                · rw [HV2.out, List.map_append, List.map_append, HC.out.2.2.2.1]; rfl
              case measure => have := HX2.out; simp [intOf]; omega
            · have hjj : ¬ (j : Int) < N := by omega
              obtain rfl : j = N := by omega
              have hst : rc.take j = rc := List.take_of_length_le (by omega)
              have hrs := HC.out.2.1.snoc (v := .slice pc j ccap) HC.out.2.2.1
              rw [HC.out.2.2.2.2.1] at hrs
              have hes : (ess ++ [es]).map (fun es => es.map Prod.snd) = (T.rows.take (k + 1)).map (fun r => r.map fun l => bitsOf l.1 l.2) := by
                have h1 := HC.out.2.2.2.1
                rw [hst] at h1
                rw [HV.out, List.map_append, List.map_append, HR.out.2.2.2]
                simp only [List.map_cons, List.map_nil, h1, List.map_map]; rfl
              have c2 := HC.out.1.blk.cell (i := 2) rfl
              have f2 := HC.out.1.blk.frz 2
              have hbx := Below.new wr (.cells #[.slice pc j ccap] 54)
              have hkx := Blk.new (w := wr) 54 [.slice pc j ccap]
              have hls := HC.out.1.below hbx
              have hvo := hls.valsO
              rw [HR.out.2.2.1] at hvo
              have HA := Lib.hid (And.intro hvo (And.intro (RO.own (hkx.own (n := 1) (size := 1) rfl (by decide) 0 (Nat.zero_le _))) (And.intro hls.ge (And.intro hls (And.intro (hbx.block BT HC.out.1.blk.lt) (And.intro hrs hes))))))
              clear hbx hkx hls hvo hrs hst hes
              go_upto_region 17 with (at_builtin; refine wpList_appR rfl _ _ 23 rfl FRows BT (.slice pt k ct) k _ rfl HA.out.1 _ 1 _ rfl HA.out.2.1 (by simp [Value.oneCell']) (by omega) (by omega) HA.out.2.2.1 ?_; intro v4 w4 happ; obtain ⟨p6, c6', ev4⟩ := ownsRow_form happ.own; subst ev4; have e6 := (HA.out.2.2.2.1.keepB .vals happ).trans HA.out.2.2.2.2.1; have c2' := (World.cell?_of_block (a := ⟨BT, 2, none⟩) e6).trans c2; have f2' := (World.frozen?_of_block (a := ⟨BT, 2, none⟩) e6).trans f2; have HP := Lib.hid happ; clear happ e6)
              have hq : AppR BT 54 1 (wr.alloc (.cells #[.slice pc j ccap] 54)) (.slice pt k ct) (rs'.length + 1) (rs'.map (·.1) ++ [.slice pc j ccap]) (.slice p6 (k + 1) c6') w4 := by
                rw [HR.out.2.2.1]
                exact HP.out
              have hls5 := HA.out.2.2.2.1.push hq
              have H5 := Lib.hid hls5
              clear hq hls5 c2 f2 c2' f2' HP
              generalize w4.setCell ⟨BT, 2, none⟩ (.slice p6 (k + 1) c6') = w5 at *
              go_wp2_with fail
              go_roundw
              case rel => exact ⟨k + 1, _, _, ess ++ [es], _, HX.out, by go_num, H5.out, HA.out.2.2.2.2.2.1, HA.out.2.2.2.2.2.2⟩
              case measure => have := HX.out; simp [intOf]; omega
        · have hkk : ¬ (k : Int) < m := by omega
          obtain rfl : k = m := by omega
          have hst2 : T.rows.take k = T.rows := List.take_of_length_le (by have := HT.out.2.2.1; omega)
          have c0 := HR.out.1.blk.cell (i := 0) rfl
          have c1 := HR.out.1.blk.cell (i := 1) rfl
          have c2 := HR.out.1.blk.cell (i := 2) rfl
          have f0 := HB2.out.2.2.frz 0
          have f1 := HB2.out.2.2.frz 1
          have f2 := HB2.out.2.2.frz 2
          have r0 := HB2.out.2.2.cell (i := 0) rfl
          have r1 := HB2.out.2.2.cell (i := 1) rfl
          have r2 := HB2.out.2.2.cell (i := 2) rfl
          have HST := Lib.hid hst2
          clear hst2 hkm hk
          go_wp2_with fail
          have HBel := Lib.hid (((HB2.out.1.setCell (show S ≤ (⟨S1, 0, none⟩ : Addr).block from by show S ≤ S1; omega) (.string X)).setCell (show S ≤ (⟨S1, 1, none⟩ : Addr).block from by show S ≤ S1; omega) (.slice pq i cq)).setCell (show S ≤ (⟨S1, 2, none⟩ : Addr).block from by show S ≤ S1; omega) (.slice pt k ct))
          have hold : ∀ g, BT ≤ g → (((wr.setCell ⟨S1, 0, none⟩ (.string X)).setCell ⟨S1, 1, none⟩ (.slice pq i cq)).setCell ⟨S1, 2, none⟩ (.slice pt k ct)).heap[g]? = wr.heap[g]? := fun g hg => by
            have hne : g ≠ S1 := by omega
            rw [Below.heap_setCell _ _ _ _ hne, Below.heap_setCell _ _ _ _ hne, Below.heap_setCell _ _ _ _ hne]
          have hrows := HR.out.2.1.rows HR.out.1 hold
          rw [HR.out.2.2.2, HST.out] at hrows
          have hti := HR.out.1.ref2 hn hold (show (.string X : Value) = .string (bstr T.top) by rw [hX]) hrows
          have HFi := Lib.hid hti
          have hkF := ((HB2.out.2.2.set 0 (.string X)).set 1 (.slice pq i cq)).set 2 (.slice pt k ct)
          have e0 := hkF.cell (i := 0) rfl
          have e1 := hkF.cell (i := 1) rfl
          have e2 := hkF.cell (i := 2) rfl
          clear hold hti hrows
          generalize ((wr.setCell ⟨S1, 0, none⟩ (.string X)).setCell ⟨S1, 1, none⟩ (.slice pq i cq)).setCell ⟨S1, 2, none⟩ (.slice pt k ct) = wF at *
          clear hkF
          (try simp only [Exit.inBlock, Exit.then])
          exact bodyPost_ret (v := .agg #[.string X, .slice pq i cq, .slice pt k ct]) (by simp [results, Tryz.results13, go_sem, e0, e1, e2]) rfl ⟨_, rfl, HFi.out, HBel.out⟩
end Go.Proofs.YtcdjkbgedmehjaaGreatDoor
namespace Go.Proofs.YtcdjkbgedmehjaaGreatDoor
set_option linter.unusedVariables false
open Go.RowKit Go.Sort

/-! # Same, of the same traces -/
set_option maxRecDepth 100000 in
set_option maxHeartbeats 16000000 in
theorem same_yes {w : World} {av bv : Value} {T : Trf} (h : RefR w av T) (h2 : RefR w bv T) (hf : FewT T) : Calls Tryz.prog 12 #[av, bv] w fun e w' => e = .returned (.bool true) ∧ Below w.heap.size w w' := by
  obtain ⟨vv, rv, rs, rfl, hvv, hrv, hrl, hrow⟩ := h.ex
  obtain ⟨vv2, rv2, rs2, rfl, hvv2, hrv2, hrl2, hrow2⟩ := h2.ex
  obtain ⟨pv, cv, rfl⟩ := hvv.form
  obtain ⟨pr, cr, rfl⟩ := hrv.form
  obtain ⟨pv2, cv2, rfl⟩ := hvv2.form
  obtain ⟨pr2, cr2, rfl⟩ := hrv2.form
  have hn : (T.vars.length : Int) ≤ 12 := by have := hf.vars; omega
  have hm : (rs.length : Int) ≤ 12 := by have := hf.rows; omega
  have hN14 := hf.row
  have hN128 := hf.bits
  have hm2 : rs2.length = rs.length := by omega
  rw [hm2] at hrv2 ⊢
  have hb1 := Below.new w (.cells #[.string (bstr T.top), .slice pv T.vars.length cv, .slice pr rs.length cr] 25)
  have hk1 := Blk.new (w := w) 25 [.string (bstr T.top), .slice pv T.vars.length cv, .slice pr rs.length cr]
  have hb2 := Below.new (w.alloc (.cells #[.string (bstr T.top), .slice pv T.vars.length cv, .slice pr rs.length cr] 25)) (.cells #[.string (bstr T.top), .slice pv2 T.vars.length cv2, .slice pr2 rs.length cr2] 25)
  have hk2 := Blk.new (w := w.alloc (.cells #[.string (bstr T.top), .slice pv T.vars.length cv, .slice pr rs.length cr] 25)) 25 [.string (bstr T.top), .slice pv2 T.vars.length cv2, .slice pr2 rs.length cr2]
  have hb := hb1.trans (hb2.mono hb1.size)
  have hk1' := hk1.next hb2
  rw [World.size_alloc] at hk2
  have HB := Lib.hid (And.intro hb (And.intro hk1' hk2))
  have HH := Lib.hid (And.intro hvv (And.intro hrv (And.intro hrl hrow)))
  have HH2 := Lib.hid (And.intro hvv2 (And.intro hrv2 (And.intro hrl2 hrow2)))
  have HF := Lib.hid (And.intro hN14 (And.intro hN128 hm2))
  generalize hnv : T.vars.length = n at *
  generalize hnr : rs.length = m at *
  have HNN := Lib.hid (And.intro hnv hnr)
  clear h h2 hvv hrv hrl hrow hvv2 hrv2 hrl2 hrow2 hf hb1 hk1 hb2 hk2 hb hk1' hnv hnr hm2 hN14 hN128
  generalize bstr T.top = X at *
  have hXX : (X.toList == X.toList) = true := by simp
  go_enter Tryz.func12, Tryz.ntmps12
  go_upto_region 1 with fail
  generalize (w.alloc (.cells #[.string X, .slice pv n cv, .slice pr m cr] 25)).alloc (.cells #[.string X, .slice pv2 n cv2, .slice pr2 m cr2] 25) = W at *
  have HBl : Hid (∀ w', Below W.heap.size W w' → (w'.cell? ⟨w.heap.size, 0, none⟩ = some (.string X) ∧ w'.cell? ⟨w.heap.size, 1, none⟩ = some (.slice pv n cv) ∧ w'.cell? ⟨w.heap.size, 2, none⟩ = some (.slice pr m cr)) ∧ (w'.cell? ⟨w.heap.size + 1, 0, none⟩ = some (.string X) ∧ w'.cell? ⟨w.heap.size + 1, 1, none⟩ = some (.slice pv2 n cv2) ∧ w'.cell? ⟨w.heap.size + 1, 2, none⟩ = some (.slice pr2 m cr2))) := Lib.hid fun w' hb' => by
    have a := HB.out.2.1.next hb'
    have b := HB.out.2.2.next hb'
    exact ⟨⟨a.cell (i := 0) rfl, a.cell (i := 1) rfl, a.cell (i := 2) rfl⟩, b.cell (i := 0) rfl, b.cell (i := 1) rfl, b.cell (i := 2) rfl⟩
  have HV : Hid (∀ w', Below W.heap.size W w' → RO w' (.slice pv n cv) 2 n (icells T.vars) ∧ RO w' (.slice pv2 n cv2) 2 n (icells T.vars)) := Lib.hid fun w' hb' => ⟨(HH.out.1.below HB.out.1).below hb', (HH2.out.1.below HB.out.1).below hb'⟩
  have HR : Hid (∀ w', Below W.heap.size W w' → RO w' (.slice pr m cr) 1 m (rs.map (·.1)) ∧ RO w' (.slice pr2 m cr2) 1 m (rs2.map (·.1))) := Lib.hid fun w' hb' => ⟨(HH.out.2.1.below HB.out.1).below hb', (HH2.out.2.1.below HB.out.1).below hb'⟩
  obtain ⟨⟨c0, c1, c2⟩, d0, d1, d2⟩ := HBl.out W (Below.refl _ _)
  go_wp2_with fail
  clear c0 c1 c2 d0 d1 d2
  go_loopw [5] (fun iv wr => ∃ i : Nat, i ≤ n ∧ iv = .int .i64 i ∧ Below W.heap.size W wr) (fun iv _ => n - (intOf iv).toNat)
  case atStart => exact ⟨0, Nat.zero_le _, rfl, Below.refl _ _⟩
  case round =>
    obtain ⟨i, hi, rfl, hbr⟩ := hrel
    have HL := Lib.hid hbr
    clear hbr
    obtain ⟨⟨c0, c1, c2⟩, d0, d1, d2⟩ := HBl.out wr HL.out
    by_cases hlt : i < n
    · obtain ⟨x, hx⟩ : ∃ x, T.vars[i]? = some x := ⟨_, List.getElem?_eq_getElem (by rw [HNN.out.1]; exact hlt)⟩
      obtain ⟨hro, hro2⟩ := HV.out wr HL.out
      obtain ⟨vb, vo, rfl⟩ := hro.sl (icells_at _ _ _ hx).1
      obtain ⟨vb2, vo2, rfl⟩ := hro2.sl (icells_at _ _ _ hx).1
      have k0 := hro.cell (icells_at _ _ _ hx).1
      have k1 := hro.cell (icells_at _ _ _ hx).2
      have l0 := hro2.cell (icells_at _ _ _ hx).1
      have l1 := hro2.cell (icells_at _ _ _ hx).2
      rw [← Nat.add_assoc] at k1 l1
      have HX := Lib.hid hlt
      have hii : (i : Int) < n := by omega
      have hi0 : (0 : Int) ≤ i := by omega
      have hiw : IntKind.i64.wrap ((i : Int) + 1) = (i : Int) + 1 := i64_of (by omega)
      generalize x.2 = D at *
      generalize bstr x.1 = Y at *
      have hYY : (Y.toList == Y.toList) = true := by simp
      have hDD : (D == D) = true := by simp
      clear hro hro2 hlt hi hx
      go_upto_region 6 with fail
      go_quiet (fail)
      go_wp2_with fail
      go_roundw
      case rel => exact ⟨i + 1, HX.out, by go_num, HL.out.trans ((below_drewN _).mono HL.out.size)⟩
      case measure => have := HX.out; simp [intOf]; omega
    · obtain rfl : i = n := by omega
      clear hlt hi
      go_wp2_with fail
      clear c0 c1 c2 d0 d1 d2
      go_loopw [6] (fun kv wr => ∃ k : Nat, k ≤ m ∧ kv = .int .i64 k ∧ Below W.heap.size W wr) (fun kv _ => m - (intOf kv).toNat)
      case atStart => exact ⟨0, Nat.zero_le _, rfl, HL.out⟩
      case round =>
        obtain ⟨k, hk, rfl, hbr⟩ := hrel
        have HL6 := Lib.hid hbr
        clear hbr
        obtain ⟨⟨c0, c1, c2⟩, d0, d1, d2⟩ := HBl.out wr HL6.out
        by_cases hlt : k < m
        · obtain ⟨row, hrow⟩ : ∃ row, T.rows[k]? = some row := ⟨_, List.getElem?_eq_getElem (by have := HH.out.2.2.1; have := HNN.out.2; omega)⟩
          obtain ⟨r, hr⟩ : ∃ r, rs[k]? = some r := ⟨_, List.getElem?_eq_getElem (by rw [HNN.out.2]; exact hlt)⟩
          obtain ⟨r', hr'⟩ : ∃ r, rs2[k]? = some r := ⟨_, List.getElem?_eq_getElem (by have := HF.out.2.2; rw [this]; exact hlt)⟩
          obtain ⟨hr1, hr2⟩ := HH.out.2.2.2 k r row hr hrow
          obtain ⟨hr1', hr2'⟩ := HH2.out.2.2.2 k r' row hr' hrow
          obtain ⟨hro, hro2⟩ := HR.out wr HL6.out
          obtain ⟨vb, vo, rfl⟩ := hro.sl (show (rs.map (·.1))[k]? = some r.1 by rw [List.getElem?_map, hr]; rfl)
          obtain ⟨vb2, vo2, rfl⟩ := hro2.sl (show (rs2.map (·.1))[k]? = some r'.1 by rw [List.getElem?_map, hr']; rfl)
          obtain ⟨r1, rn, rc⟩ := r
          obtain ⟨r1', rn', rc'⟩ := r'
          have hrn : rn = row.length := hr2.n
          have hrn' : rn' = row.length := hr2'.n
          subst hrn
          subst hrn'
          obtain ⟨p1, c1', e⟩ := hr1.form
          (try simp only at e)
          subst e
          obtain ⟨p2, c2', e⟩ := hr1'.form
          (try simp only at e)
          subst e
          have hkk : (k : Int) < m := by omega
          have hk0 : (0 : Int) ≤ k := by omega
          have hkw : IntKind.i64.wrap ((k : Int) + 1) = (k : Int) + 1 := i64_of (by omega)
          have hN14 : (row.length : Int) ≤ 14 := by have := HF.out.1 row (List.mem_of_getElem? hrow); omega
          have HX := Lib.hid (And.intro hlt (And.intro hrow (And.intro hr1 (And.intro hr1' (And.intro hr2 hr2')))))
          obtain ⟨N, hN⟩ : ∃ N, row.length = N := ⟨_, rfl⟩
          have HCk : Hid (∀ w', Below W.heap.size W w' → w'.cell? ⟨vb, vo + k, none⟩ = some (.slice p1 N c1') ∧ w'.cell? ⟨vb2, vo2 + k, none⟩ = some (.slice p2 N c2')) := Lib.hid fun w' hb' => by
            obtain ⟨a, b⟩ := HR.out w' hb'
            have a1 := a.cell (show (rs.map (·.1))[k]? = some (.slice p1 row.length c1') by rw [List.getElem?_map, hr]; rfl)
            have b1 := b.cell (show (rs2.map (·.1))[k]? = some (.slice p2 row.length c2') by rw [List.getElem?_map, hr']; rfl)
            rw [hN] at a1 b1
            exact ⟨a1, b1⟩
          obtain ⟨q2, q2'⟩ := HCk.out wr HL6.out
          have hNN : ((N : Int) == (N : Int)) = true := by simp
          rw [hN] at hN14
          have HNe := Lib.hid hN
          clear hrow hr hr' hr1 hr2 hr1' hr2' hro hro2 hlt hk hN
          go_upto_region 11 with fail
          go_quiet (fail)
          go_wp2_with fail
          clear c0 c1 c2 d0 d1 d2 q2 q2'
          go_loopw [7] (fun jv wr => ∃ j : Nat, j ≤ N ∧ jv = .int .i64 j ∧ Below W.heap.size W wr) (fun jv _ => N - (intOf jv).toNat)
          case atStart => exact ⟨0, Nat.zero_le _, rfl, HL6.out.trans ((below_drewN _).mono HL6.out.size)⟩
          case round =>
            obtain ⟨j, hj, rfl, hbr⟩ := hrel
            have HL7 := Lib.hid hbr
            clear hbr
            obtain ⟨⟨c0, c1, c2⟩, d0, d1, d2⟩ := HBl.out wr HL7.out
            obtain ⟨q2, q2'⟩ := HCk.out wr HL7.out
            by_cases hlt : j < N
            · obtain ⟨l, hl⟩ : ∃ l, row[j]? = some l := ⟨_, List.getElem?_eq_getElem (by rw [HNe.out]; exact hlt)⟩
              have hlen := HX.out.2.2.2.2.1.len
              have hlen' := HX.out.2.2.2.2.2.len
              (try simp only at hlen hlen')
              obtain ⟨u, hu⟩ : ∃ u, rc[j]? = some u := ⟨_, List.getElem?_eq_getElem (by rw [hlen, HNe.out]; exact hlt)⟩
              obtain ⟨u', hu'⟩ : ∃ u, rc'[j]? = some u := ⟨_, List.getElem?_eq_getElem (by rw [hlen', HNe.out]; exact hlt)⟩
              have hrb := HX.out.2.2.2.2.1.at_ j u l hu hl
              have hrb' := HX.out.2.2.2.2.2.at_ j u' l hu' hl
              obtain ⟨pb, cb, rfl, hcb⟩ := hrb.cap
              obtain ⟨pb', cb', rfl, hcb'⟩ := hrb'.cap
              have hr1 := (HX.out.2.2.1.below HB.out.1).below HL7.out
              have hr1' := (HX.out.2.2.2.1.below HB.out.1).below HL7.out
              (try simp only at hr1 hr1')
              obtain ⟨r1b, r1o, rfl⟩ := hr1.sl hu
              obtain ⟨r1b', r1o', rfl⟩ := hr1'.sl hu'
              have q3 := hr1.cell hu
              have q3' := hr1'.cell hu'
              have hl128 := HF.out.2.1 row (List.mem_of_getElem? HX.out.2.1) l (List.mem_of_getElem? hl)
              have hrbW := (hrb.below HB.out.1).below HL7.out
              have hrbW' := (hrb'.below HB.out.1).below HL7.out
              have HJE : Hid (∀ s : After wr, Calls Tryz.prog 40 #[.slice pb l.length cb, .slice pb' l.length cb'] s.val fun e w' => e = .returned (.bool true) ∧ Below s.val.heap.size s.val w') := Lib.hid fun s => by
                have := requal_any (rb_rl (hrbW.below s.below)) (rb_rl (hrbW'.below s.below)) (by omega)
                rw [decide_eq_true rfl] at this
                exact this
              have hjN : (j : Int) < N := by omega
              have hj0 : (0 : Int) ≤ j := by omega
              have hjw : IntKind.i64.wrap ((j : Int) + 1) = (j : Int) + 1 := i64_of (by omega)
              have HY := Lib.hid hlt
              generalize l.length = L at *
              clear hl hlen hlen' hu hu' hrb hrb' hcb hcb' hr1 hr1' hl128 hrbW hrbW' hlt hj
              go_upto_region 16 with fail
              have a2 := After.cell c2
              have b2 := After.cell d2
              have a3 := After.cell q2
              have b3 := After.cell q2'
              have a4 := After.cell q3
              have b4 := After.cell q3'
              clear c0 c1 c2 d0 d1 d2 q2 q2' q3 q3'
              refine wp_region_after (by kernel_rfl) (by kernel_rfl) ?_
              repeat (go_big_quiet_step ((first | (with_reducible exact Calls.after_of (HJE.out _)))))
              refine wpQuiet_nil ?_
              rintro _ ⟨s, rfl⟩
              have hs := Lib.hid (HL7.out.trans (s.below.mono HL7.out.size))
              generalize s.val = W1 at *
              clear a2 b2 a3 b3 a4 b4 HJE
              go_wp2_with fail
              go_roundw
              case rel => exact ⟨j + 1, HY.out, by go_num, hs.out⟩
              case measure => have := HY.out; simp [intOf]; omega
            · have hlt' : ¬ (j : Int) < N := by omega
              clear hlt
              go_wp2_with fail
              go_roundw
              case rel => exact ⟨k + 1, HX.out.1, by go_num, HL7.out⟩
              case measure => have := HX.out.1; simp [intOf]; omega
        · obtain rfl : k = m := by omega
          clear hlt hk
          go_wp2_with fail
          go_ret
          exact ⟨rfl, HB.out.1.trans (HL6.out.mono HB.out.1.size)⟩
end Go.Proofs.YtcdjkbgedmehjaaGreatDoor
