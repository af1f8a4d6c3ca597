/- Texts of this claim, one behind another: W6, W7, W8. They state lemmas; each names its own conditions. -/
import Derived.Test.YtcdjkbgedmehjaaGreatDoorZM
import Derived.Test.YtcdjkbgedmehjaaGreatDoorZJ
namespace Go.Proofs.YtcdjkbgedmehjaaGreatDoor
set_option linter.unusedVariables false
open Go.RowKit Go.Sort

/-! # the program's traces with any widths, in memory -/
structure TrcI where
  top : Bs
  vars : List (Bs × Int)
  rows : List (List (Nat × Nat))
structure TrI (w : World) (tv : Value) (T : TrcI) : Prop where
  ex : ∃ (vv rv : Value) (rvs : List Value) (ess : List (List VecE)), tv = .agg #[.string (bstr T.top), vv, rv] ∧ RO w vv 2 T.vars.length (icells T.vars) ∧ RO w rv 1 rvs.length rvs ∧ ess.length = rvs.length ∧ T.rows = ess.map (fun es => es.map fun e => (e.w, e.x)) ∧
    ∀ (i : Nat) (v : Value) (es : List VecE), rvs[i]? = some v → ess[i]? = some es → RO w v 2 es.length (rowCells es) ∧ ∀ e ∈ es, VR w (vecV e) e.w e.x
  cap : ∀ s p n c rv, tv = .agg #[.string s, .slice p n c, rv] → n ≤ c
theorem TrI.below {w w' : World} {tv : Value} {T : TrcI} (h : TrI w tv T) (hb : Below w.heap.size w w') : TrI w' tv T := by
  obtain ⟨vv, rv, rvs, ess, h1, h2, h3, h4, h5, h6⟩ := h.ex
  exact ⟨⟨vv, rv, rvs, ess, h1, h2.below hb, h3.below hb, h4, h5, fun i v es hv he => ⟨(h6 i v es hv he).1.below hb, fun e hm => ((h6 i v es hv he).2 e hm).below hb⟩⟩, h.cap⟩
def TrcI.nat (T : TrcI) : Trc := ⟨T.top, T.vars.map fun x => (x.1, x.2.toNat), T.rows⟩
theorem icells_nat (l : List (Bs × Int)) (h : ∀ x ∈ l, 0 ≤ x.2) : icells l = tokCells (l.map fun x => (x.1, x.2.toNat)) := by
  unfold icells tokCells
  rw [List.map_map]
  congr 1
  refine List.map_congr_left fun x hx => ?_
  have := h x hx
  show _ = [Value.string (bstr x.1), .int .i64 (x.2.toNat : Int)]
  rw [Int.toNat_of_nonneg this]
theorem TrI.nat {w : World} {tv : Value} {T : TrcI} (h : TrI w tv T) (hw : ∀ x ∈ T.vars, 0 ≤ x.2) : TrR w tv T.nat := by
  obtain ⟨vv, rv, rvs, ess, h1, h2, h3, h4, h5, h6⟩ := h.ex
  refine ⟨⟨vv, rv, rvs, ess, h1, ?_, h3, h4, h5, h6⟩, h.cap⟩
  rw [icells_nat _ hw] at h2
  have e : T.nat.vars.length = T.vars.length := by simp [TrcI.nat]
  rw [e]; exact h2
/-- what a vector in a row says of the world -/
def vecEL (e : VecE) : EL where
  F w := VR w (vecV e) e.w e.x
  bl := if 0 < e.w then (match e.p with | some a => [a.block] | none => []) else []
  keep w w' hv hk := by
    by_cases h0 : 0 < e.w
    · rw [if_pos h0] at hk
      refine hv.keepB fun k p m c bo o e' hp hlt => hk bo ?_
      simp only [vecV, Value.agg.injEq, Array.mk.injEq, List.cons.injEq, Value.slice.injEq, and_true] at e'
      rw [e'.2.1, hp]; simp
    · have hw : e.w = 0 := by omega
      obtain ⟨⟨p, c, e', hro⟩, h2, h3⟩ := hv
      refine ⟨⟨p, c, e', ?_⟩, h2, h3⟩
      obtain ⟨h4, p', c', e2, h5⟩ := hro
      refine ⟨h4, p', c', e2, fun j u hj => ?_⟩
      have h6 : j < (wordsV (wcount e.w) e.x).length := (List.getElem?_eq_some_iff.1 hj).1
      rw [h4, hw] at h6
      simp [wcount] at h6
theorem vecEL_bl {w w1 : World} {e : VecE} (hv : VR w1 (vecV e) e.w e.x) (hf : Far w (vecV e)) : ∀ g ∈ (vecEL e).bl, w.heap.size ≤ g ∧ g < w1.heap.size := fun g hg => by
  have hg' : g ∈ (if 0 < e.w then (match e.p with | some a => [a.block] | none => []) else []) := hg
  by_cases h0 : 0 < e.w
  · rw [if_pos h0] at hg'
    obtain ⟨b', o', c', e', hc⟩ := hv.word (i := 0) (by unfold wcount; omega)
    simp only [vecV, Value.agg.injEq, Array.mk.injEq, List.cons.injEq, Value.slice.injEq, and_true] at e'
    rw [e'.2.1] at hg'
    simp only [List.mem_cons, List.not_mem_nil, or_false] at hg'
    subst hg'
    exact ⟨hf _ _ _ _ _ _ rfl e'.2.1, World.block_lt_of_cell? _ _ hc⟩
  · rw [if_neg h0] at hg'; simp at hg'
def pkt : GK → Nat
  | .vars => 51
  | .vals => 52
  | .row _ => 46
def pks : GK → Nat
  | .vars => 2
  | .vals => 1
  | .row _ => 2
/-- rows of vectors that are built -/
structure RowsV (rs : List RowV) (ess : List (List VecE)) (els : List EL) : Prop where
  len : rs.length = ess.length
  at_ : ∀ (i : Nat) (r : RowV) (es : List VecE), rs[i]? = some r → ess[i]? = some es → r.2 = (es.length, rowCells es)
  mem : ∀ es ∈ ess, ∀ e ∈ es, vecEL e ∈ els
theorem RowsV.nil (els : List EL) : RowsV [] [] els := ⟨rfl, fun i r es h => by simp at h, fun es h => by simp at h⟩
theorem RowsV.more {rs : List RowV} {ess : List (List VecE)} {els : List EL} (h : RowsV rs ess els) (e : EL) : RowsV rs ess (els ++ [e]) := ⟨h.len, h.at_, fun es he x hx => List.mem_append_left _ (h.mem es he x hx)⟩
theorem RowsV.snoc {rs : List RowV} {ess : List (List VecE)} {els : List EL} (h : RowsV rs ess els) {v : Value} {es : List VecE} (he : ∀ e ∈ es, vecEL e ∈ els) : RowsV (rs ++ [(v, es.length, rowCells es)]) (ess ++ [es]) els := by
  refine ⟨by simp [h.len], fun j r' es' h1 h2 => ?_, fun es' hm x hx => ?_⟩
  · have hlen := h.len
    by_cases hj : j < ess.length
    · exact h.at_ j r' es' (by rw [List.getElem?_append_left (by omega)] at h1; exact h1) (by rw [List.getElem?_append_left hj] at h2; exact h2)
    · rw [List.getElem?_append_right (by omega)] at h1 h2
      rw [hlen] at h1
      by_cases h0 : j - ess.length = 0
      · rw [h0] at h1 h2; cases h1; cases h2; rfl
      · obtain ⟨k, hk⟩ : ∃ k, j - ess.length = k + 1 := ⟨j - ess.length - 1, by omega⟩
        rw [hk] at h1; simp at h1
  · rcases List.mem_append.1 hm with hm | hm
    · exact h.mem es' hm x hx
    · simp only [List.mem_cons, List.not_mem_nil, or_false] at hm; subst hm; exact he x hx
theorem LG.tri {BT : Nat} {W1 w w' : World} {top vv tv : Value} {tp : Bs} {vs : List (Bs × Int)} {n : Nat} {rs : List RowV} {cur : RowV} {els : List EL} {ess : List (List VecE)} (h : LG pkt pks 31 top BT W1 w (vv, n, icells vs) tv rs cur els) (hn : vs.length = n) (hold : ∀ g, BT ≤ g → w'.heap[g]? = w.heap[g]?) (ht : top = .string (bstr tp)) (hr : RowsV rs ess els) : TrI w' (.agg #[top, vv, tv]) ⟨tp, vs, ess.map (fun es => es.map fun e => (e.w, e.x))⟩ := by
  subst ht; subst hn
  have hV := ownsRow_keep h.varsO fun g hg => hold g (h.m.mem.lts .vars g hg).1
  have hL := ownsRow_keep h.valsO fun g hg => hold g (h.m.mem.lts .vals g hg).1
  refine ⟨⟨vv, tv, rs.map (·.1), ess, rfl, RO.own hV, by rw [List.length_map]; exact RO.own hL, by rw [List.length_map]; exact hr.len.symm, rfl, fun i v es hv he => ?_⟩, fun s p n c rv e => ?_⟩
  · rw [List.getElem?_map] at hv
    obtain ⟨r, hri, rfl⟩ := Option.map_eq_some_iff.1 hv
    have hro := RO.own (ownsRow_keep (h.rowO hri) fun g hg => hold g (own_lt (h.rowO hri) g hg).1)
    have e2 := hr.at_ i r es hri he
    rw [e2] at hro
    refine ⟨hro, fun e hm => ?_⟩
    obtain ⟨a, c⟩ := h.m.el _ (hr.mem es (List.mem_of_getElem? he) e hm)
    exact (vecEL e).keep _ _ a fun g hg => hold g (c g hg).1.1
  · obtain ⟨p', c', e', hle⟩ := ownsRow_le hV
    simp only [Value.agg.injEq, Array.mk.injEq, List.cons.injEq, and_true] at e
    obtain ⟨_, e3, _⟩ := e
    have e4 : vv = .slice p' vs.length c' := e'
    rw [e4] at e3
    simp only [Value.slice.injEq] at e3
    have hle' : vs.length ≤ c' := hle
    omega
/-- the program's trace of the document's -/
def ownT (T : Trf) : TrcI := ⟨T.top, T.vars, T.rows.map fun r => r.map fun l => (l.length, valB l)⟩
theorem own_bits {w : World} {v : Value} {l : List Bool} (h : RB w v l) (hl : l.length ≤ 128) : Calls Tryz.prog 15 #[v] w (RetV w l.length (valB l)) := by
  by_cases h1 : 1 ≤ l.length
  · exact own_of (err := 0) fun w' hb => of_good (h.ro.below hb) h1 hl
  · have h0 : l = [] := List.eq_nil_of_length_eq_zero (by omega)
    subst h0
    exact own_of (err := 2) fun w' hb => of_bad (l := []) (h.ro.below hb) (by decide) (Or.inl (by decide))
end Go.Proofs.YtcdjkbgedmehjaaGreatDoor
namespace Go.Proofs.YtcdjkbgedmehjaaGreatDoor
set_option linter.unusedVariables false
open Go.RowKit Go.Sort

/-! # Own -/
structure FewT (T : Trf) : Prop where
  vars : T.vars.length ≤ 12
  rows : T.rows.length ≤ 12
  row : ∀ r ∈ T.rows, r.length ≤ 14
  bits : ∀ r ∈ T.rows, ∀ l ∈ r, l.length ≤ 128
theorem fewT_few (T : Trf) : FewT (fewT T) := by
  refine ⟨by simp [fewT]; omega, by simp [fewT]; omega, fun r hr => ?_, fun r hr l hl => ?_⟩
  · simp only [fewT, List.mem_map] at hr
    obtain ⟨a, _, rfl⟩ := hr
    simp [fewRow]; omega
  · simp only [fewT, List.mem_map] at hr
    obtain ⟨a, _, rfl⟩ := hr
    simp only [fewRow, List.mem_map] at hl
    obtain ⟨b, _, rfl⟩ := hl
    simp; omega
set_option maxRecDepth 100000 in
set_option maxHeartbeats 16000000 in
theorem own_any {w : World} {tv : Value} {T : Trf} (h : RefR w tv T) (hf : FewT T) : Calls Tryz.prog 6 #[tv] w fun e w' => ∃ tv', e = .returned tv' ∧ TrI w' tv' (ownT T) ∧ Below w.heap.size w w' := by
  obtain ⟨vv, rv, rs, rfl, hvv, hrv, hrl, hrow⟩ := h.ex
  obtain ⟨pv, cv, rfl⟩ := hvv.form
  obtain ⟨pr, cr, rfl⟩ := hrv.form
  have hw1 := Below.new w (.cells #[.string (bstr T.top), .slice pv T.vars.length cv, .slice pr rs.length cr] 25)
  have hk1 := Blk.new (w := w) 25 [.string (bstr T.top), .slice pv T.vars.length cv, .slice pr rs.length cr]
  obtain ⟨wa, hwa⟩ : ∃ wa, w.alloc (.cells #[.string (bstr T.top), .slice pv T.vars.length cv, .slice pr rs.length cr] 25) = wa := ⟨_, rfl⟩
  have hsa : wa.heap.size = w.heap.size + 1 := by rw [← hwa, World.size_alloc]
  have hw2 := Below.new wa (.cells #[.string ⟨#[]⟩, .slice none 0 0, .slice none 0 0] 31)
  have hk2 := Blk.new (w := wa) 31 [.string ⟨#[]⟩, .slice none 0 0, .slice none 0 0]
  obtain ⟨wb, hwb⟩ : ∃ wb, wa.alloc (.cells #[.string ⟨#[]⟩, .slice none 0 0, .slice none 0 0] 31) = wb := ⟨_, rfl⟩
  have hsb : wb.heap.size = w.heap.size + 1 + 1 := by rw [← hwb, World.size_alloc, hsa]
  have hw3 := Below.new wb (.cells #[.string (bstr T.top), .slice none 0 0, .slice none 0 0] 31)
  have hk3 := Blk.new (w := wb) 31 [.string (bstr T.top), .slice none 0 0, .slice none 0 0]
  have HZ := Lib.hid (LG.zero (kt := pkt) (ks := pks) hk3 hw3)
  rw [hwa] at hw1 hk1
  rw [hwb] at hw2 hk2
  have HS : Hid (∀ wx, Below wb.heap.size wb wx → Below w.heap.size w wx ∧ Blk wx w.heap.size 25 [.string (bstr T.top), .slice pv T.vars.length cv, .slice pr rs.length cr] ∧ Blk wx (w.heap.size + 1) 31 [.string ⟨#[]⟩, .slice none 0 0, .slice none 0 0]) := Lib.hid fun wx hb => by
    have hbb := hw2.trans (hb.mono hw2.size)
    refine ⟨hw1.trans (hbb.mono hw1.size), hk1.next hbb, ?_⟩
    rw [← hsa]; exact hk2.next hb
  have HT := Lib.hid (And.intro hvv (And.intro hrv (And.intro hrl hrow)))
  have HSB := Lib.hid hsb
  have HWA := Lib.hid hwa
  have HWB := Lib.hid hwb
  have HF := Lib.hid hf
  have hn12 := hf.vars
  have hm12 : rs.length ≤ 12 := by rw [hrl]; exact hf.rows
  clear h hvv hrv hrl hrow hw1 hk1 hw2 hk2 hw3 hk3 hsa hsb hwa hwb hf
  generalize hn : T.vars.length = n at *
  generalize hm : rs.length = m at *
  generalize hX : bstr T.top = X at *
  go_enter Tryz.func6, Tryz.ntmps6
  go_upto_region 2 with fail
  rw [HWA.out, HWB.out]
  have hkb := (HS.out _ (Below.new wb (.cells #[.string X, .slice none 0 0, .slice none 0 0] 31))).2.1
  rw [HSB.out] at HZ HS
  generalize wb.alloc (.cells #[.string X, .slice none 0 0, .slice none 0 0] 31) = wc at *
  generalize hBT : w.heap.size + 1 + 1 = BT at *
  have hS1 : w.heap.size + 1 < BT := by omega
  generalize hSS : w.heap.size + 1 = S1 at *
  have hS0 : w.heap.size < BT := by omega
  obtain ⟨S, hS⟩ : ∃ S, w.heap.size = S := ⟨_, rfl⟩
  rw [hS] at hS0 HS hkb ⊢
  have q1 := hkb.cell (i := 1) rfl
  clear hkb
  go_wp2_with fail
  go_loopw [17] (fun iv wr => ∃ (i : Nat) (vv : Value), i ≤ n ∧ iv = .int .i64 i ∧ LG pkt pks 31 (.string X) BT wb wr (vv, i, icells (T.vars.take i)) (.slice none 0 0) [] nilR []) (fun iv _ => n - (intOf iv).toNat)
  case atStart => exact ⟨0, _, Nat.zero_le _, rfl, HZ.out⟩
  case round =>
    obtain ⟨i, ov, hi, rfl, hlg⟩ := hrel
    obtain ⟨pq, cq, e⟩ := ownsRow_form hlg.varsO
    simp only at e
    subst e
    have HL := Lib.hid hlg
    clear hlg
    obtain ⟨hbw, hkS, hkR⟩ := HS.out wr HL.out.bel
    have HB := Lib.hid (And.intro hbw (And.intro hkS hkR))
    clear hbw hkS hkR
    by_cases hin : i < n
    · have hvi : T.vars[i]? = some T.vars[i] := List.getElem?_eq_getElem (by omega)
      have hro := HT.out.1.below (by rw [hS]; exact HB.out.1)
      obtain ⟨vb, vo, rfl⟩ := hro.sl (icells_at _ _ _ hvi).1
      have q2 := hro.cell (icells_at _ _ _ hvi).1
      have q3 := hro.cell (icells_at _ _ _ hvi).2
      rw [← Nat.add_assoc] at q3
      have HV := Lib.hid (take_snoc' T.vars i _ hvi)
      obtain ⟨y, hy⟩ : ∃ y, T.vars[i] = y := ⟨_, rfl⟩
      rw [hy] at HV q2 q3
      clear hro hvi hy
      obtain ⟨A, hA⟩ : ∃ A, bstr y.1 = A := ⟨_, rfl⟩
      obtain ⟨D, hD⟩ : ∃ D, y.2 = D := ⟨_, rfl⟩
      rw [hA] at q2
      rw [hD] at q3
      have hii : (i : Int) < n := by omega
      have hi0 : (0 : Int) ≤ i := by omega
      have hiw : IntKind.i64.wrap ((i : Int) + 1) = (i : Int) + 1 := i64_of (by omega)
      have HX := Lib.hid (And.intro hin (And.intro hA hD))
      clear hin hi hA hD
      have hb1 := Below.new wr (.cells #[.string A, .int .i64 D] 53)
      have hl1 := HL.out.below hb1
      have hk1 := Blk.new (w := wr) 53 [.string A, .int .i64 D]
      have c1 := hl1.blk.cell (i := 1) rfl
      have f1 := hl1.blk.frz 1
      have d0 := hk1.cell (i := 0) rfl
      have d1 := hk1.cell (i := 1) rfl
      have hb2 := Below.new (wr.alloc (.cells #[.string A, .int .i64 D] 53)) (.cells #[.string A, .int .i64 D] 51)
      have hk2 := Blk.new (w := wr.alloc (.cells #[.string A, .int .i64 D] 53)) 51 [.string A, .int .i64 D]
      have hls := hl1.below hb2
      simp only [World.size_alloc] at hk2
      have HA := Lib.hid (And.intro hls.varsO (And.intro (RO.own (hk2.own (n := 1) (size := 2) rfl (by decide) 0 (Nat.zero_le _))) (And.intro hls.ge (And.intro hls (hb2.block BT hl1.blk.lt)))))
      clear hb1 hl1 hk1 hb2 hk2 hls
      go_upto_region 6 with (at_builtin; refine wpList_appR rfl _ _ 28 rfl TVars BT (.slice pq i cq) i _ rfl HA.out.1 _ 1 _ rfl HA.out.2.1 (by simp [Value.oneCell']) (by omega) (by omega) HA.out.2.2.1 ?_; intro v4 w4 happ; obtain ⟨p6, c6', ev4⟩ := ownsRow_form happ.own; subst ev4; have e6 := (HA.out.2.2.2.1.keepB .vars happ).trans HA.out.2.2.2.2; have c1' := (World.cell?_of_block (a := ⟨BT, 1, none⟩) e6).trans c1; have f1' := (World.frozen?_of_block (a := ⟨BT, 1, none⟩) e6).trans f1; have HP := Lib.hid happ; clear happ e6)
      have hq : AppR BT 51 2 ((wr.alloc (.cells #[.string A, .int .i64 D] 53)).alloc (.cells #[.string A, .int .i64 D] 51)) (.slice pq i cq) (i + 1) (icells (T.vars.take (i + 1))) (.slice p6 (i + 1) c6') w4 := by
        rw [HV.out, ← icells_snoc, HX.out.2.1, HX.out.2.2]
        exact HP.out
      have hls5 := HA.out.2.2.2.1.appV hq
      have H5 := Lib.hid hls5
      clear hq hls5 c1 f1 c1' f1' HP HA d0 d1
      generalize w4.setCell ⟨BT, 1, none⟩ (.slice p6 (i + 1) c6') = w5 at *
      go_wp2_with fail
      go_roundw
      case rel => exact ⟨i + 1, _, HX.out.1, by go_num, H5.out⟩
      case measure => have := HX.out.1; simp [intOf]; omega
    · obtain rfl : i = n := by omega
      have hst : T.vars.take i = T.vars := List.take_of_length_le (by omega)
      have hL := HL.out
      rw [hst] at hL
      have HL2 := Lib.hid hL
      have q1 := HB.out.2.1.cell (i := 2) rfl
      clear hst hL HL hin hi
      go_wp2_with fail
      go_loopw [35] (fun kv wr => ∃ (k : Nat) (tvv : Value) (rs' : List RowV) (ess : List (List VecE)) (els : List EL), k ≤ m ∧ kv = .int .i64 k ∧ LG pkt pks 31 (.string X) BT wb wr (.slice pq i cq, i, icells T.vars) tvv rs' nilR els ∧ RowsV rs' ess els ∧ ess.map (fun es => es.map fun e => (e.w, e.x)) = (T.rows.take k).map (fun r => r.map fun l => (l.length, valB l))) (fun kv _ => m - (intOf kv).toNat)
      case atStart => exact ⟨0, _, [], [], [], Nat.zero_le _, rfl, HL2.out, RowsV.nil _, rfl⟩
      case round =>
        obtain ⟨k, tvv, rs', ess, els, hk, rfl, hlg, hrr, hes⟩ := hrel
        have hrl : rs'.length = k := by
          have h1 := congrArg List.length hes
          rw [List.length_map, List.length_map, List.length_take] at h1
          have h2 := hrr.len
          have h3 := HT.out.2.2.1
          omega
        obtain ⟨pt, ct, e⟩ := ownsRow_form hlg.valsO
        rw [hrl] at e
        subst e
        obtain ⟨hbw, hkS, hkR⟩ := HS.out _ hlg.bel
        have HB2 := Lib.hid (And.intro hbw (And.intro hkS hkR))
        have HR := Lib.hid (And.intro hlg (And.intro hrr (And.intro hrl hes)))
        clear hbw hkS hkR hlg hrr hrl hes
        by_cases hkm : k < m
        · have hkk : (k : Int) < m := by omega
          obtain ⟨r, hr⟩ : ∃ r, rs[k]? = some r := ⟨_, List.getElem?_eq_getElem (by omega)⟩
          obtain ⟨row, hrow⟩ : ∃ row, T.rows[k]? = some row := ⟨_, List.getElem?_eq_getElem (by have := HT.out.2.2.1; omega)⟩
          obtain ⟨hrr1, hrr2⟩ := HT.out.2.2.2 k r row hr hrow
          have hrv := HT.out.2.1.below (by rw [hS]; exact HB2.out.1)
          obtain ⟨rb, ro, rfl⟩ := hrv.sl (show (rs.map (·.1))[k]? = some r.1 by rw [List.getElem?_map, hr]; rfl)
          have q2 := hrv.cell (show (rs.map (·.1))[k]? = some r.1 by rw [List.getElem?_map, hr]; rfl)
          obtain ⟨r1, rn, rc⟩ := r
          have hrn : rn = row.length := hrr2.n
          subst hrn
          obtain ⟨p1, c1, e⟩ := hrr1.form
          (try simp only at e)
          subst e
          have HV := Lib.hid (take_snoc' T.rows k _ hrow)
          have hN14 : row.length ≤ 14 := HF.out.row row (List.mem_of_getElem? hrow)
          have HE := Lib.hid (And.intro hrr1 (And.intro hrr2 (And.intro hrow (fun l hl => HF.out.bits row (List.mem_of_getElem? hrow) l hl))))
          have hk0 : (0 : Int) ≤ k := by omega
          have hkw : IntKind.i64.wrap ((k : Int) + 1) = (k : Int) + 1 := i64_of (by omega)
          have HX := Lib.hid hkm
          clear hr hrow hrr1 hrr2 hrv hkm hk
          (try simp only at q2)
          generalize hN : row.length = N at *
          go_wp2_with fail
          clear q2
          go_loopw [8, 41] (fun lv jv wr => ∃ (j : Nat) (es : List VecE) (els : List EL), j ≤ N ∧ jv = .int .i64 j ∧ LG pkt pks 31 (.string X) BT wb wr (.slice pq i cq, i, icells T.vars) (.slice pt k ct) rs' (lv, es.length, rowCells es) els ∧ RowsV rs' ess els ∧ (∀ e ∈ es, vecEL e ∈ els) ∧ es.map (fun e => (e.w, e.x)) = (row.take j).map fun l => (l.length, valB l)) (fun _ jv _ => N - (intOf jv).toNat)
          case atStart => exact ⟨0, [], _, Nat.zero_le _, rfl, HR.out.1, HR.out.2.1, fun e he => by simp at he, rfl⟩
          case round =>
            obtain ⟨j, es, els2, hj, rfl, hlg, hrs, hem, hev⟩ := hrel
            have hel : es.length = j := by
              have h1 := congrArg List.length hev
              rw [List.length_map, List.length_map, List.length_take] at h1
              omega
            rw [hel] at hlg
            obtain ⟨pc, ccap, e⟩ := ownsRow_form hlg.curO
            (try simp only at e)
            subst e
            obtain ⟨hbw, hkS, hkR⟩ := HS.out _ hlg.bel
            have HC := Lib.hid (And.intro hlg (And.intro hrs (And.intro hem (And.intro hev (And.intro hel hbw)))))
            clear hkS hkR hlg hrs hem hev hel hbw
            by_cases hjN : j < N
            · have hjj : (j : Int) < N := by omega
              obtain ⟨b, hb⟩ : ∃ b, rc[j]? = some b := ⟨_, List.getElem?_eq_getElem (by have h0 : rc.length = row.length := HE.out.2.1.len; omega)⟩
              obtain ⟨l, hl⟩ : ∃ l, row[j]? = some l := ⟨_, List.getElem?_eq_getElem (by omega)⟩
              have hbl := HE.out.2.1.at_ j b l hb hl
              have hl128 := HE.out.2.2.2 l (List.mem_of_getElem? hl)
              have hrr1 := HE.out.1.below (by rw [hS]; exact HC.out.2.2.2.2.2)
              (try simp only at hrr1)
              obtain ⟨r1b, r1o, rfl⟩ := hrr1.sl hb
              have q3 := hrr1.cell hb
              have HV2 := Lib.hid (take_snoc' row j _ hl)
              have HO := Lib.hid (own_bits (hbl.below (by rw [hS]; exact HC.out.2.2.2.2.2)) hl128)
              have hj0 : (0 : Int) ≤ j := by omega
              have hjw : IntKind.i64.wrap ((j : Int) + 1) = (j : Int) + 1 := i64_of (by omega)
              have HX2 := Lib.hid hjN
              clear hb hl hbl hrr1 hl128 hjN hj
              go_wp2_with fail
              refine HO.out.mono ?_; rintro e w2 ⟨v2, rfl, hv2, hb2, hf2⟩
              obtain ⟨p7, c7, rfl, _⟩ := hv2.ex
              have hl2 := HC.out.1.more (vecEL ⟨l.length, p7, c7, valB l⟩) hb2 hv2 (vecEL_bl (e := ⟨l.length, p7, c7, valB l⟩) hv2 hf2)
              have hbx := Below.new w2 (.cells #[.int .i64 l.length, .slice p7 (wcount l.length) c7] 46)
              have hkx := Blk.new (w := w2) 46 [.int .i64 l.length, .slice p7 (wcount l.length) c7]
              have hls := hl2.below hbx
              have HA := Lib.hid (And.intro hls.curO (And.intro (RO.own (hkx.own (n := 1) (size := 2) rfl (by decide) 0 (Nat.zero_le _))) (And.intro hls.ge hls)))
              clear hv2 hb2 hf2 hl2 hbx hkx hls HO q3
              go_wp2_with (at_builtin; refine wpList_appR rfl _ _ 52 rfl TVecs BT (.slice pc j ccap) j _ rfl HA.out.1 _ 1 _ rfl HA.out.2.1 (by simp [Value.oneCell']) (by omega) (by omega) HA.out.2.2.1 ?_; intro v8 w8 happ; obtain ⟨p8, c8, ev8⟩ := ownsRow_form happ.own; subst ev8; have HP := Lib.hid happ; clear happ)
              have hq : AppR BT 46 2 (w2.alloc (.cells #[.int .i64 l.length, .slice p7 (wcount l.length) c7] 46)) (.slice pc j ccap) (es ++ [(⟨l.length, p7, c7, valB l⟩ : VecE)]).length (rowCells (es ++ [(⟨l.length, p7, c7, valB l⟩ : VecE)])) (.slice p8 (j + 1) c8) w8 := by
                rw [List.length_append, HC.out.2.2.2.2.1, ← rowCells_snoc]
                exact HP.out
              have hls8 := HA.out.2.2.2.appC hq
              have H8 := Lib.hid hls8
              clear hls8 hq HP
              go_roundw
              case rel =>
                refine ⟨j + 1, es ++ [⟨l.length, p7, c7, valB l⟩], _, HX2.out, by go_num, H8.out, HC.out.2.1.more _, fun e he => ?_, ?_⟩
                · rcases List.mem_append.1 he with he | he
                  · exact List.mem_append_left _ (HC.out.2.2.1 e he)
                  · simp only [List.mem_cons, List.not_mem_nil, or_false] at he; subst he; simp
                · rw [HV2.out, List.map_append, List.map_append, HC.out.2.2.2.1]; rfl
              case measure => have := HX2.out; simp [intOf]; omega
            · have hjj : ¬ (j : Int) < N := by omega
              obtain rfl : j = N := by omega
              have hst : row.take j = row := List.take_of_length_le (by omega)
              have hrs := HC.out.2.1.snoc (v := .slice pc j ccap) HC.out.2.2.1
              rw [HC.out.2.2.2.2.1] at hrs
              have hes : (ess ++ [es]).map (fun es => es.map fun e => (e.w, e.x)) = (T.rows.take (k + 1)).map (fun r => r.map fun l => (l.length, valB l)) := by
                have h1 := HC.out.2.2.2.1
                rw [hst] at h1
                rw [HV.out, List.map_append, List.map_append, HR.out.2.2.2]
                simp only [List.map_cons, List.map_nil, h1]
              have c2 := HC.out.1.blk.cell (i := 2) rfl
              have f2 := HC.out.1.blk.frz 2
              have hbx := Below.new wr (.cells #[.slice pc j ccap] 52)
              have hkx := Blk.new (w := wr) 52 [.slice pc j ccap]
              have hls := HC.out.1.below hbx
              have hvo := hls.valsO
              rw [HR.out.2.2.1] at hvo
              have HA := Lib.hid (And.intro hvo (And.intro (RO.own (hkx.own (n := 1) (size := 1) rfl (by decide) 0 (Nat.zero_le _))) (And.intro hls.ge (And.intro hls (And.intro (hbx.block BT HC.out.1.blk.lt) (And.intro hrs hes))))))
              clear hbx hkx hls hvo hrs hst hes
              go_upto_region 17 with (at_builtin; refine wpList_appR rfl _ _ 29 rfl TRows BT (.slice pt k ct) k _ rfl HA.out.1 _ 1 _ rfl HA.out.2.1 (by simp [Value.oneCell']) (by omega) (by omega) HA.out.2.2.1 ?_; intro v4 w4 happ; obtain ⟨p6, c6', ev4⟩ := ownsRow_form happ.own; subst ev4; have e6 := (HA.out.2.2.2.1.keepB .vals happ).trans HA.out.2.2.2.2.1; have c2' := (World.cell?_of_block (a := ⟨BT, 2, none⟩) e6).trans c2; have f2' := (World.frozen?_of_block (a := ⟨BT, 2, none⟩) e6).trans f2; have HP := Lib.hid happ; clear happ e6)
              have hq : AppR BT 52 1 (wr.alloc (.cells #[.slice pc j ccap] 52)) (.slice pt k ct) (rs'.length + 1) (rs'.map (·.1) ++ [.slice pc j ccap]) (.slice p6 (k + 1) c6') w4 := by
                rw [HR.out.2.2.1]
                exact HP.out
              have hls5 := HA.out.2.2.2.1.push hq
              have H5 := Lib.hid hls5
              clear hq hls5 c2 f2 c2' f2' HP
              generalize w4.setCell ⟨BT, 2, none⟩ (.slice p6 (k + 1) c6') = w5 at *
              go_wp2_with fail
              go_roundw
              case rel => exact ⟨k + 1, _, _, ess ++ [es], _, HX.out, by go_num, H5.out, HA.out.2.2.2.2.2.1, HA.out.2.2.2.2.2.2⟩
              case measure => have := HX.out; simp [intOf]; omega
        · have hkk : ¬ (k : Int) < m := by omega
          obtain rfl : k = m := by omega
          have hst2 : T.rows.take k = T.rows := List.take_of_length_le (by have := HT.out.2.2.1; omega)
          have c0 := HR.out.1.blk.cell (i := 0) rfl
          have c1 := HR.out.1.blk.cell (i := 1) rfl
          have c2 := HR.out.1.blk.cell (i := 2) rfl
          have f0 := HB2.out.2.2.frz 0
          have f1 := HB2.out.2.2.frz 1
          have f2 := HB2.out.2.2.frz 2
          have r0 := HB2.out.2.2.cell (i := 0) rfl
          have r1 := HB2.out.2.2.cell (i := 1) rfl
          have r2 := HB2.out.2.2.cell (i := 2) rfl
          have HST := Lib.hid hst2
          clear hst2 hkm hk
          go_wp2_with fail
          have HBel := Lib.hid (((HB2.out.1.setCell (show S ≤ (⟨S1, 0, none⟩ : Addr).block from by show S ≤ S1; omega) (.string X)).setCell (show S ≤ (⟨S1, 1, none⟩ : Addr).block from by show S ≤ S1; omega) (.slice pq i cq)).setCell (show S ≤ (⟨S1, 2, none⟩ : Addr).block from by show S ≤ S1; omega) (.slice pt k ct))
          have hold : ∀ g, BT ≤ g → (((wr.setCell ⟨S1, 0, none⟩ (.string X)).setCell ⟨S1, 1, none⟩ (.slice pq i cq)).setCell ⟨S1, 2, none⟩ (.slice pt k ct)).heap[g]? = wr.heap[g]? := fun g hg => by
            have hne : g ≠ S1 := by omega
            rw [Below.heap_setCell _ _ _ _ hne, Below.heap_setCell _ _ _ _ hne, Below.heap_setCell _ _ _ _ hne]
          have hti := HR.out.1.tri hn hold (show (.string X : Value) = .string (bstr T.top) by rw [hX]) HR.out.2.1
          rw [HR.out.2.2.2, HST.out] at hti
          have HFi := Lib.hid hti
          have hkF := ((HB2.out.2.2.set 0 (.string X)).set 1 (.slice pq i cq)).set 2 (.slice pt k ct)
          have e0 := hkF.cell (i := 0) rfl
          have e1 := hkF.cell (i := 1) rfl
          have e2 := hkF.cell (i := 2) rfl
          clear hold hti
          generalize ((wr.setCell ⟨S1, 0, none⟩ (.string X)).setCell ⟨S1, 1, none⟩ (.slice pq i cq)).setCell ⟨S1, 2, none⟩ (.slice pt k ct) = wF at *
          clear hkF
          (try simp only [Exit.inBlock, Exit.then])
          exact bodyPost_ret (v := .agg #[.string X, .slice pq i cq, .slice pt k ct]) (by simp [results, Tryz.results6, go_sem, e0, e1, e2]) rfl ⟨_, rfl, HFi.out, HBel.out⟩
end Go.Proofs.YtcdjkbgedmehjaaGreatDoor
namespace Go.Proofs.YtcdjkbgedmehjaaGreatDoor
set_option linter.unusedVariables false
open Go.RowKit Go.Sort

/-! # the document's Check -/
def dupI (l : List (Bs × Int)) : Bool := (List.range l.length).any fun i => (l.take i).any fun x => decide (x.1 = (l.getD i default).1)
def wideI (n : Int) : Bool := decide (1 ≤ n) && decide (n ≤ 128)
def rowI (l : List (Bs × Int)) (r : List Nat) : Bool := decide (r.map (fun n : Nat => (n : Int)) = l.map Prod.snd)
/-- the error's number of a trace with any widths -/
def checkI (top : Bs) (vars : List (Bs × Int)) (lens : List (List Nat)) : Nat :=
  if (!wordB (bstr top) || vars.any fun x => !wordB (bstr x.1)) then 9
  else if dupI vars then 10
  else if vars.any (fun x => !wideI x.2) then 2
  else if (decide (300 < vars.length) || decide (200 < lens.length)) then 19
  else if lens.all (rowI vars) then 0 else 3
/-- the same number, by natural widths -/
theorem dupI_nat (l : List (Bs × Int)) : dupI l = dupB (l.map fun x => (x.1, x.2.toNat)) := by
  unfold dupI dupB
  rw [List.length_map]
  rw [Bool.eq_iff_iff, List.any_eq_true, List.any_eq_true]
  refine exists_congr fun i => and_congr_right fun hi => ?_
  have hi' : i < l.length := List.mem_range.1 hi
  rw [← List.map_take, List.any_map]
  have e : ((l.map fun x => (x.1, x.2.toNat)).getD i default).1 = (l.getD i default).1 := by
    rw [List.getD_eq_getElem?_getD, List.getD_eq_getElem?_getD, List.getElem?_map, List.getElem?_eq_getElem hi']; rfl
  rw [e]; rfl
theorem checkI_nat (T : TrcI) (h : checkI T.top T.vars (T.rows.map fun r => r.map Prod.fst) = 0) : checkN T.nat = 0 ∧ ∀ x ∈ T.vars, 1 ≤ x.2 ∧ x.2 ≤ 128 := by
  unfold checkI at h
  split at h
  · cases h
  rename_i h1
  split at h
  · cases h
  rename_i h2
  split at h
  · cases h
  rename_i h3
  split at h
  · cases h
  rename_i h4
  split at h
  · rename_i h5
    have hw : ∀ x ∈ T.vars, 1 ≤ x.2 ∧ x.2 ≤ 128 := fun x hx => by
      rw [Bool.not_eq_true] at h3
      have := List.any_eq_false.1 h3 x hx
      unfold wideI at this
      simp only [Bool.not_eq_true, Bool.not_eq_false', Bool.and_eq_true, decide_eq_true_eq] at this
      exact this
    refine ⟨?_, hw⟩
    unfold checkN
    have e1 : (!wordB (bstr T.nat.top) || T.nat.vars.any fun x => !wordB (bstr x.1)) = (!wordB (bstr T.top) || T.vars.any fun x => !wordB (bstr x.1)) := by
      simp only [TrcI.nat, List.any_map]; rfl
    have e3 : (T.nat.vars.any fun x => !wideB x.2) = false := by
      rw [List.any_eq_false]
      intro x hx
      simp only [TrcI.nat, List.mem_map] at hx
      obtain ⟨y, hy, rfl⟩ := hx
      have := hw y hy
      unfold wideB
      simp only [Bool.not_eq_true, Bool.not_eq_false', Bool.and_eq_true, decide_eq_true_eq]
      omega
    have e4 : (decide (300 < T.nat.vars.length) || decide (200 < T.nat.rows.length)) = (decide (300 < T.vars.length) || decide (200 < (T.rows.map fun r => r.map Prod.fst).length)) := by
      show (decide (300 < (T.vars.map fun x => (x.1, x.2.toNat)).length) || decide (200 < T.rows.length)) = _
      rw [List.length_map, List.length_map]
    have e5 : T.nat.rows.all (rowB T.nat.vars) = true := by
      rw [List.all_eq_true]
      intro r hr
      have hr' : r ∈ T.rows := hr
      have h6 := List.all_eq_true.1 h5 (r.map Prod.fst) (List.mem_map_of_mem hr')
      unfold rowI at h6
      have h7 := of_decide_eq_true h6
      unfold rowB
      refine decide_eq_true ?_
      simp only [TrcI.nat, List.map_map]
      have h8 := congrArg (List.map Int.toNat) h7
      rw [List.map_map, List.map_map, List.map_map] at h8
      have e : ((Int.toNat ∘ fun n : Nat => (n : Int)) ∘ Prod.fst : Nat × Nat → Nat) = Prod.fst := by funext p; simp
      rw [e] at h8
      exact h8
    rw [if_neg (by rw [e1]; exact h1), if_neg (by show ¬ dupB (T.vars.map fun x => (x.1, x.2.toNat)) = true; rw [← dupI_nat]; exact h2), if_neg (by rw [e3]; decide), if_neg (by rw [e4]; exact h4), if_pos e5]
  · cases h
end Go.Proofs.YtcdjkbgedmehjaaGreatDoor
