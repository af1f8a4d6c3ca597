import Derived.Test.YtcifiibpiooeiaaDoorC3
namespace Go.Proofs.YtcifiibpiooeiaaDoor
set_option linter.unusedVariables false
open Go.RowKit Go.Sort

theorem Nest.below {w w' : World} {sls : List (Option Addr × Nat × Nat)} {ll : List (List Int)} (h : Nest w sls ll) (hb : Below w.heap.size w w') : Nest w' sls ll :=
  ⟨h.1, fun i hi => ⟨(h.2 i hi).1, (h.2 i hi).2.1, (h.2 i hi).2.2.below hb⟩⟩

theorem own_blk {w : World} {base e n c : Nat} {p : Option Addr} {xs : List Value} (h : w.ownsRow base e 1 (.slice p n c) n xs) (hn : 0 < n) : ∃ g lst, p = some ⟨g, 0, none⟩ ∧ base ≤ g ∧ Blk w g e lst ∧ n ≤ lst.length := by
  rcases h.2 with ⟨_, rfl⟩ | ⟨g, cap, cur, hv, hb, hg, hc, _, hs, _⟩
  · omega
  · cases hv
    exact ⟨g, cur.toList, rfl, hb, by unfold Blk; simpa using hg, by simp; omega⟩
theorem addC_len (v : Nat) (cls : List (List Int)) (l : List Int) : (addC v cls l).1.length ≤ cls.length + 1 := by
  unfold addC
  split
  · simp
  · split
    · simp
    · split
      · simp
      · simp
theorem makeC_len (v : Nat) (ll : List (List Int)) : ∀ k, (makeC v ll k).length ≤ k
  | 0 => by simp [makeC]
  | k + 1 => by
    by_cases h : k < ll.length
    · rw [makeC_succ v ll k h]
      have h1 := addC_len v (makeC v ll k) ((ll.getD k []).take 30)
      have h2 := makeC_len v ll k
      omega
    · have : makeC v ll (k + 1) = makeC v ll k := by unfold makeC; rw [List.take_of_length_le (by omega), List.take_of_length_le (by omega)]
      rw [this]
      have := makeC_len v ll k
      omega
theorem makeAll_len (n : Int) (ll : List (List Int)) : (makeAll n ll).length ≤ 200 := by
  have h := makeC_len (makeV n) ll (min ll.length 200)
  unfold makeAll
  omega
theorem WFC.more {v : Nat} {cls : List (List Int)} (h : WFC v cls) (hv : v < 60000) : WFC (v + 1) cls :=
  ⟨by omega, h.n, fun i hi => by
    obtain ⟨a, b, c, d⟩ := h.l i hi
    exact ⟨a, fun x hx => ⟨(b x hx).1, by have := (b x hx).2; omega⟩, c, d⟩⟩
theorem addC_one {v : Nat} {cls : List (List Int)} (h : cls.length ≤ 1000) : addC (v + 1) cls [((v + 1 : Nat) : Int)] = (cls ++ [[((v + 1 : Nat) : Int)]], 0) := by
  have hk : known (v + 1) ((v + 1 : Nat) : Int) = true := by rw [known_iff]; omega
  have ht : taut [((v + 1 : Nat) : Int)] = false := by simp [taut]; omega
  have hn : norm [((v + 1 : Nat) : Int)] = [((v + 1 : Nat) : Int)] := by simp [norm, insU]
  unfold addC
  rw [if_neg (by simp only [List.any_cons, List.any_nil, hk]; simp), if_neg (by simp; omega), if_neg (by rw [ht]; simp), hn]

set_option maxRecDepth 100000 in
set_option maxHeartbeats 16000000 in
theorem adds_law {w : World} {pl : Option Addr} {cl : Nat} {sls : List (Option Addr × Nat × Nat)} {ll : List (List Int)} {mv : Value} {mb : List Bool} (n : Int) (hl : RO w (.slice pl ll.length cl) 1 ll.length (slvs sls)) (hn : Nest w sls ll) (hb : ll.length ≤ 9223372036854775807) (hm : RO w mv 1 mb.length (bools mb)) (htab : Lib.TabIs Tryd.prog w "internal/strconv.uint64pow10" .u64 Lib.pow10Tab) :
    Calls Tryd.prog 6 #[.int .i64 n, .slice pl ll.length cl, mv] w fun e w' => e = .returned (.bool true) ∧ Below w.heap.size w w' := by
  obtain ⟨pm, cm, rfl⟩ := hm.form
  obtain ⟨m, hml⟩ : ∃ m, mb.length = m := ⟨_, rfl⟩
  obtain ⟨N, hN⟩ : ∃ N, ll.length = N := ⟨_, rfl⟩
  have HAw := Lib.hid (awake_any htab)
  have H := Lib.hid (And.intro hl (And.intro hn (And.intro hb (And.intro hm (And.intro hml hN)))))
  rw [hml, hN]
  clear hl hn hb hm htab hml hN
  go_enter Tryd.func6, Tryd.ntmps6
  go_wp2_with fail
  refine HAw.out.mono ?_
  rintro e w1 ⟨rfl, hb1⟩
  have hmk := make_any n (H.out.1.below hb1) (H.out.2.1.below hb1) H.out.2.2.1
  rw [H.out.2.2.2.2.2] at hmk
  have HMk := Lib.hid hmk
  have HB1 := Lib.hid hb1
  clear hmk hb1 HAw
  go_wp2_with fail
  refine HMk.out.mono ?_
  rintro e w2 ⟨bc, F, sv, rfl, hC, hR, hF, hb2⟩
  obtain ⟨ps, cs, ev⟩ := hR.form
  subst ev
  have hwf := makeAll_wf n ll
  have hv60 : makeV n ≤ 60 := by unfold makeV; omega
  have hlen : (makeAll n ll).length ≤ 200 := makeAll_len n ll
  generalize makeV n = v at *
  generalize makeAll n ll = cls at *
  have hbo := Below.new w2 (.cells #[.int .i64 v, .slice ps cls.length cs] 39)
  have hBo : Blk (w2.alloc (.cells #[.int .i64 v, .slice ps cls.length cs] 39)) w2.heap.size 39 [.int .i64 v, .slice ps cls.length cs] := Blk.new _ _
  have hCo := hC.below hbo
  have hRo := hR.below hbo
  have hb02 := HB1.out.trans (hb2.mono HB1.out.size)
  have hmo := H.out.2.2.2.1.below (hb02.trans (hbo.mono hb02.size))
  have hbo2 := hb02.trans (hbo.mono hb02.size)
  obtain ⟨W, hW⟩ : ∃ W, w2.alloc (.cells #[.int .i64 v, .slice ps cls.length cs] 39) = W := ⟨_, rfl⟩
  have hs12 : w1.heap.size ≤ W.heap.size := by rw [← hW]; have h := hb2.size; simp only [World.size_alloc]; omega
  rw [hW] at hCo hRo hmo hBo hbo2
  have HX := Lib.hid (And.intro hCo (And.intro hRo (And.intro hwf (And.intro hBo hbo2))))
  have HI : Hid (∀ s : After W, Calls Tryd.prog 18 #[.pointer (some ⟨bc, 0, none⟩), .agg #[.int .i64 v, .slice ps cls.length cs]] s.val fun e w' => e = .returned (.bool true) ∧ Below s.val.heap.size s.val w') := Lib.hid fun s => is_any (hCo.below s.below) hwf (hRo.below s.below)
  have HH : Hid (∀ s : After W, Calls Tryd.prog 17 #[.pointer (some ⟨bc, 0, none⟩), .slice pm mb.length cm] s.val fun e w' => e = .returned (.bool (holdsB mb cls)) ∧ Below s.val.heap.size s.val w') := Lib.hid fun s => holds_any (hCo.below s.below) hwf (hmo.below s.below)
  have HR : Hid (∀ s : After W, Calls Tryd.prog 19 #[.agg #[.int .i64 v, .slice ps cls.length cs], .slice pm mb.length cm] s.val fun e w' => e = .returned (.bool (holdsB mb cls)) ∧ Below s.val.heap.size s.val w') := Lib.hid fun s => rholds_any (hRo.below s.below) hwf (hmo.below s.below)
  have c0 := fun s : After W => After.cell (hBo.cell (i := 0) rfl) s
  have c1 := fun s : After W => After.cell (hBo.cell (i := 1) rfl) s
  rw [H.out.2.2.2.2.1] at HH HR
  obtain ⟨M, hM⟩ : ∃ M, cls.length = M := ⟨_, rfl⟩
  have HM := Lib.hid hM
  simp only [hM] at HI HR c1 hlen hW ⊢
  obtain ⟨q, hq⟩ : ∃ q, holdsB mb cls = q := ⟨_, rfl⟩
  rw [hq] at HH HR
  clear hC hR hwf hBo hCo hRo hmo hbo hbo2 hb02 hb2 hM hq HMk
  go_upto_region 4 with fail
  clear hW
  refine wp_region_after (by kernel_rfl) (by kernel_rfl) ?_
  repeat (go_big_quiet_step ((first | (with_reducible exact Calls.after_of (HI.out _)) | (with_reducible exact Calls.after_of (HH.out _)) | (with_reducible exact Calls.after_of (HR.out _)))))
  refine wpQuiet_nil ?_
  rintro _ ⟨s, rfl⟩
  go_wp2_with fail
  have hS0 := s.below
  generalize s.val = W1 at *
  have hS1 := Lib.hid hS0
  refine (cclone_any (HX.out.1.below hS0) HX.out.2.2.1).mono ?_
  rintro e w3 ⟨bd, Fd, rfl, hd, hFd, hb3⟩
  have hWs := hS0.size
  have hbW3 := hS0.trans (hb3.mono hWs)
  have HD := Lib.hid (And.intro hd (And.intro hFd hbW3))
  have HV := Lib.hid (var_any hd (by omega))
  clear hd hFd hb3 hS0 hbW3 c0 c1 HI HH HR
  go_wp2_with fail
  refine HV.out.mono ?_
  rintro e w4 hv4
  obtain ⟨rfl, hd4, hu4⟩ := hv4.2 (by omega)
  have hbW4 := HD.out.2.2.trans (hu4.toBelow (fun j hj => Nat.le_trans hWs (HD.out.2.1 j hj)) HD.out.2.2.size)
  have HB4 := Lib.hid hbW4
  have x0 := (HX.out.2.2.2.1.next hbW4).cell (i := 0) rfl
  have hvw : IntKind.i64.wrap ((v : Int) + 1) = (v : Int) + 1 := i64_of (by omega)
  have HD4 := Lib.hid hd4
  clear hd4 hu4 hv4 hbW4 HV
  go_wp2_with fail
  have hb4 := HB4.out
  have hbn := Below.new w4 (.cells #[.int .i64 ((v : Int) + 1)] 3)
  have hro : RO (w4.alloc (.cells #[.int .i64 ((v : Int) + 1)] 3)) (.slice (some ⟨w4.heap.size, 0, none⟩) 1 1) 1 [((v : Int) + 1)].length (ints [(v : Int) + 1]) := ro_one _ _
  have hone : addC (v + 1) cls [((v : Int) + 1)] = (cls ++ [[((v : Int) + 1)]], 0) := by
    have h := addC_one (v := v) (cls := cls) (by rw [HM.out]; omega)
    rwa [show ((v + 1 : Nat) : Int) = (v : Int) + 1 from by omega] at h
  refine (add_any (l := [((v : Int) + 1)]) (fun k hk => by have h1 := hb4.size; have h2 := hbn.size; omega) (HD4.out.below hbn) (HX.out.2.2.1.more (by omega)) hro (by simp)).mono ?_
  rintro e w5 ⟨rfl, F5, hc5, hu5⟩
  rw [hone] at hc5 ⊢
  have hb5a := hb4.trans (hbn.mono hb4.size)
  have hb5 := hb5a.trans (hu5.toBelow (fun j hj => Nat.le_trans hWs (HD.out.2.1 j hj)) hb5a.size)
  have HLd := Lib.hid (len_any hc5)
  have HLc := Lib.hid (len_any (HX.out.1.below hb5))
  have H5 := Lib.hid (And.intro hc5 hb5)
  have hel : ((cls ++ [[((v : Int) + 1)]]).length : Int) = (M : Int) + 1 := by simp [HM.out]
  rw [hel] at HLd
  have hMw : IntKind.i64.wrap ((M : Int) + 1) = (M : Int) + 1 := i64_of (by omega)
  rw [HM.out] at HLc
  have HCl := Lib.hid (clause_any (HX.out.1.below hb5) HX.out.2.2.1 0)
  clear hc5 hb5 hb5a hu5 hel hone hro hbn hb4
  go_wp2_with (first | (go_at_call 12; first | (refine HLd.out.mono ?_; rintro e w6 ⟨rfl, rfl⟩) | (refine HLc.out.mono ?_; rintro e w6 ⟨rfl, rfl⟩)))
  refine HCl.out.mono ?_
  rintro e w6 ⟨v6, rfl, ho6, hb6⟩
  obtain ⟨p6, c6, ev⟩ := ownsRow_form ho6
  subst ev
  obtain ⟨z, hz⟩ : ∃ z, (clsI cls 0).length = z := ⟨_, rfl⟩
  rw [hz] at ho6
  have H6 := Lib.hid (And.intro ho6 (And.intro hb6 hz))
  clear ho6 hb6
  rw [hz]
  clear hz
  go_wp2_with fail
  have hz6 : (z : Int) ≤ 1000000 := by
    have h : (clsI cls 0).length ≤ 1000 := by
      by_cases h0 : 0 < cls.length
      · have hc := clsI_nat cls 0 h0
        have hl := HX.out.2.2.1.l 0 h0
        rw [show (0 : Int) = ((0 : Nat) : Int) from rfl, hc]; exact hl.2.2.2
      · unfold clsI
        rw [List.eq_nil_of_length_eq_zero (show cls.length = 0 by omega)]
        simp
    rw [H6.out.2.2] at h
    omega
  go_loopw [76] (fun iv wr => ∃ i : Nat, i ≤ z ∧ iv = .int .i64 i ∧ Below w5.heap.size w5 wr ∧ (0 < z → ∃ g lst, p6 = some ⟨g, 0, none⟩ ∧ w5.heap.size ≤ g ∧ Blk wr g 3 lst ∧ z ≤ lst.length)) (fun iv _ => z - (intOf iv).toNat)
  case atStart => exact ⟨0, Nat.zero_le _, rfl, H6.out.2.1, fun h => own_blk H6.out.1 h⟩
  case round =>
    obtain ⟨i, hi, rfl, hbr, hg⟩ := hrel
    by_cases hlt : i < z
    · obtain ⟨g, lst, rfl, hge, hB, hls⟩ := hg (by omega)
      obtain ⟨u, hu⟩ : ∃ u, lst[i]? = some u := ⟨lst[i], List.getElem?_eq_getElem (by omega)⟩
      have g0 := hB.cell hu
      have gf := hB.frz i
      have hii : (i : Int) < z := by omega
      have hiw : IntKind.i64.wrap ((i : Int) + 1) = (i : Int) + 1 := i64_of (by omega)
      have hB2 := hB.set i (.int .i64 99)
      have hb2 := hbr.trans ((upd_set (w := wr) (i := i) (F := fun k => k = g) (.int .i64 99) rfl).toBelow (fun j e => by omega) hbr.size)
      have HZ := Lib.hid (And.intro hB2 (And.intro hb2 (And.intro hls (And.intro hge hlt))))
      clear hB2 hb2 hls hge hlt hB hu hbr hg hi
      go_wp2_with fail
      go_roundw
      case rel => exact ⟨i + 1, HZ.out.2.2.2.2, by go_num, HZ.out.2.1, fun _ => ⟨g, _, rfl, HZ.out.2.2.2.1, HZ.out.1, by simpa using HZ.out.2.2.1⟩⟩
      case measure => have := HZ.out.2.2.2.2; simp [intOf]; omega
    · obtain rfl : i = z := by omega
      clear hlt hi hg
      have hbW := H5.out.2.trans (hbr.mono H5.out.2.size)
      have HIs := Lib.hid (is_any (HX.out.1.below hbW) HX.out.2.2.1 (HX.out.2.1.below hbW))
      rw [HM.out] at HIs
      have hbx := HX.out.2.2.2.1.next hbW
      have y0 := hbx.cell (i := 0) rfl
      have y1 := hbx.cell (i := 1) rfl
      rw [HM.out] at y1
      have HBr := Lib.hid (And.intro hbr hbW)
      clear hbr hbW hbx
      go_wp2_with fail
      refine HIs.out.mono ?_
      rintro e w7 ⟨rfl, hb7⟩
      have HVd := Lib.hid (vars_any ((H5.out.1.below HBr.out.1).below hb7))
      have HB7 := Lib.hid (HX.out.2.2.2.2.trans ((HBr.out.2.trans (hb7.mono HBr.out.2.size)).mono HX.out.2.2.2.2.size))
      clear hb7
      go_wp2_with fail
      refine HVd.out.mono ?_
      rintro e w8 ⟨rfl, rfl⟩
      go_wp2_with fail
      go_ret
      exact ⟨rfl, HB7.out⟩
end Go.Proofs.YtcifiibpiooeiaaDoor
