import Derived.Test.YtcifiibpiooeiaaRP9
namespace Go.Proofs.Ytcifiibpiooeiaa
set_option linter.unusedVariables false
open Go Go.Lib Go.RowKit Go.Sort

theorem Upd.fresh {A A' : Nat → Prop} {w w' : World} (hb : Below w.heap.size w w') (hA : ∀ k, A' k → w.heap.size ≤ k) : Upd A A' w w' :=
  ⟨hb.os, hb.tape, hb.output, hb.size, fun k hk _ => hb.block k hk, fun k hk => .inr (hA k hk)⟩
theorem Stp.nil (base : Nat) (wc : World) (e : Nat) : Stp base wc wc e (.slice none 0 0) 0 [] := ⟨World.ownsRow_nil _ _ _ _, fun j hj => (by cases hj), Below.refl _ _⟩
theorem nest_below {w w' : World} {sls : List (Option Addr × Nat × Nat)} {ll : List (List Int)} (h : Nest w sls ll) (hb : Below w.heap.size w w') : Nest w' sls ll :=
  ⟨h.1, fun i hi => ⟨(h.2 i hi).1, (h.2 i hi).2.1, (h.2 i hi).2.2.below hb⟩⟩
/-- the loop that adds single literals to d: d at bd, extra's value ev -/
structure LoopX (wc : World) (bd v : Nat) (s : List (List Int) × List Int) (ev : Value) (wr : World) : Prop where
  own : Stp wc.heap.size wc wr 3 ev s.2.length (ints s.2)
  hd : ∃ F, HasC (fun k => ev.ownBlock = some k) wr bd F v s.1 ∧ ∀ k, F k → wc.heap.size ≤ k ∧ ev.ownBlock ≠ some k
/-- after Add -/
theorem LoopX.add {wc wr w' : World} {bd v : Nat} {s : List (List Int) × List Int} {ev : Value} {F' F : Nat → Prop} {cls' : List (List Int)} (h : LoopX wc bd v s ev wr) (hF : ∀ k, F k → wc.heap.size ≤ k ∧ ev.ownBlock ≠ some k) (hc : HasC (fun k => ev.ownBlock = some k) w' bd F' v cls') (hu : Upd F F' wr w') : LoopX wc bd v (cls', s.2) ev w' := by
  have hlt : ∀ k, ev.ownBlock = some k → k < wr.heap.size := fun k hk => (own_lt h.own.own k hk).2
  refine ⟨⟨ownsRow_keep h.own.own fun k hk => hu.block k (hlt k hk) fun hf => (hF k hf).2 hk, h.own.ge, h.own.bel.trans (hu.toBelow (fun j hj => (hF j hj).1) h.own.bel.size)⟩, F', hc, fun k hk => ?_⟩
  rcases hu.sub k hk with h' | h'
  · exact hF k h'
  · exact ⟨Nat.le_trans h.own.bel.size h', fun e => by have := hlt k e; omega⟩
/-- after an append to extra -/
theorem LoopX.app {wc wr w' : World} {bd v : Nat} {s : List (List Int) × List Int} {ev v' : Value} {m : Nat} {l : List Int} {o : Obj} (h : LoopX wc bd v s ev wr) (ha : AppR wc.heap.size 3 1 (wr.alloc o) ev m (ints l) v' w') (hm : m = l.length) : LoopX wc bd v (s.1, l) v' w' := by
  obtain ⟨F, hc, hF⟩ := h.hd
  have hs := (h.own.alloc o).app ha
  subst hm
  have hc1 := (hc.below (Below.new wr o)).move ha.upd (fun k hk e => (hF k hk).2 e)
  refine ⟨hs, F, hc1, fun k hk => ⟨(hF k hk).1, fun e => ?_⟩⟩
  have hlt := hc.lt k hk
  rcases ha.at_ with e' | e'
  · rw [e'] at e; exact (hF k hk).2 e
  · rw [e', Option.some.injEq] at e
    rw [World.size_alloc] at e
    omega
theorem LoopX.below {wc wr w' : World} {bd v : Nat} {s : List (List Int) × List Int} {ev : Value} (h : LoopX wc bd v s ev wr) (hb : Below wr.heap.size wr w') : LoopX wc bd v s ev w' := by
  obtain ⟨F, hc, hF⟩ := h.hd
  exact ⟨h.own.below hb, F, hc.below hb, hF⟩
theorem Stp.back {base : Nat} {wc0 wc w : World} {e : Nat} {v : Value} {n : Nat} {cs : List Value} (h : Stp base wc w e v n cs) (hb : Below wc0.heap.size wc0 wc) : Stp base wc0 w e v n cs :=
  ⟨h.own, fun j hj => Nat.le_trans hb.size (h.ge j hj), hb.trans (h.bel.mono hb.size)⟩
theorem LoopX.start {wc w5 w8 : World} {bd v m : Nat} {A Fd : Nat → Prop} {cls : List (List Int)} {L : List Int} {v8 : Value} (hd : HasC A w5 bd Fd v cls) (hFd : ∀ k, Fd k → wc.heap.size ≤ k) (hb : Below wc.heap.size wc w5) (hs : Stp wc.heap.size w5 w8 3 v8 m (ints L)) (hm : L.length = m) : LoopX wc bd v (cls, L) v8 w8 := by
  subst hm
  refine ⟨hs.back hb, Fd, ((hd.avoidA (A' := fun _ => False) (fun _ h => h.elim)).move (Upd.fresh hs.bel (fun k hk => hs.ge k hk)) (fun _ _ h => h)), fun k hk => ⟨hFd k hk, fun e => ?_⟩⟩
  have h1 := hs.ge k e
  have h2 := hd.lt k hk
  omega
set_option maxRecDepth 100000 in
set_option maxHeartbeats 16000000 in
theorem more_law {w : World} {pl : Option Addr} {cl : Nat} {sls : List (Option Addr × Nat × Nat)} {ll : List (List Int)} {pa pb : Option Addr} {ca cb : Nat} {la lb : List Int} (n : Int) (hl : RO w (.slice pl ll.length cl) 1 ll.length (slvs sls)) (hn : Nest w sls ll) (hb : ll.length ≤ 9223372036854775807)
    (hA : RO w (.slice pa la.length ca) 1 la.length (ints la)) (hAl : la.length ≤ 9223372036854775807) (hB : RO w (.slice pb lb.length cb) 1 lb.length (ints lb)) (hBl : lb.length ≤ 9223372036854775807) :
    Calls Try.prog 3 #[.int .i64 n, .slice pl ll.length cl, .agg #[.slice pa la.length ca, .slice pb lb.length cb]] w fun e w' => e = .returned (.bool true) ∧ Below w.heap.size w w' := by
  obtain ⟨N, hN⟩ : ∃ N, ll.length = N := ⟨_, rfl⟩
  obtain ⟨NA, hNA⟩ : ∃ N, la.length = N := ⟨_, rfl⟩
  obtain ⟨NB, hNB⟩ : ∃ N, lb.length = N := ⟨_, rfl⟩
  obtain ⟨w0, hw0⟩ : ∃ W, w.alloc (.cells #[.slice pa la.length ca, .slice pb lb.length cb] 24) = W := ⟨_, rfl⟩
  have hb0 : Below w.heap.size w w0 := by rw [← hw0]; exact Below.new _ _
  have hk0 : Blk w0 w.heap.size 24 [.slice pa la.length ca, .slice pb lb.length cb] := by rw [← hw0]; exact Blk.new _ _
  have HMk := Lib.hid (fun (w1 : World) (h : Below w.heap.size w w1) => make_any n (hl.below h) (nest_below hn h) hb)
  have H := Lib.hid (And.intro hA (And.intro hB (And.intro hNA (And.intro hNB (And.intro hAl hBl)))))
  have hs0 : w0.heap.size = w.heap.size + 1 := by rw [← hw0, World.size_alloc]
  have HB0 := Lib.hid (And.intro hb0 (And.intro hk0 hs0))
  rw [hN] at HMk ⊢
  rw [hNA, hNB] at hw0 ⊢
  rw [hNA, hNB] at HB0
  have hNAi : (NA : Int) ≤ 9223372036854775807 := by omega
  have hNBi : (NB : Int) ≤ 9223372036854775807 := by omega
  clear hl hn hb hA hB hN hNA hNB hb0 hk0 hAl hBl hs0
  go_enter Try.func3, Try.ntmps3
  go_upto_region 1 with fail
  clear hw0
  go_wp2_with fail
  refine kawake_any.mono ?_
  rintro e w1 ⟨rfl, hb1⟩
  have hbw1 := HB0.out.1.trans (hb1.mono (by have := HB0.out.2.2; omega))
  have HMk1 := Lib.hid (HMk.out w1 hbw1)
  have HB1 := Lib.hid (And.intro hbw1 hb1)
  clear hbw1 hb1 HMk
  go_wp2_with fail
  refine HMk1.out.mono ?_
  rintro e w2 ⟨bc, F, sv, rfl, hC, hR, hF, hb2⟩
  obtain ⟨ps, cs, ev⟩ := hR.form
  subst ev
  have hwf := makeAll_wf n ll
  have hv60 : makeV n ≤ 60 := by unfold makeV; omega
  generalize makeV n = v at *
  generalize makeAll n ll = cls at *
  have hbw2 := HB1.out.1.trans (hb2.mono HB1.out.1.size)
  have hk2 := (HB0.out.2.1.next HB1.out.2).next hb2
  have HX := Lib.hid (And.intro hC (And.intro hwf (And.intro hbw2 hk2)))
  have hvi : (v : Int) ≤ 60 := by omega
  clear hC hR hwf hF hb2 hbw2 hk2 HMk1 HB0 HB1 hv60
  go_upto_region 4 with fail
  obtain ⟨W, hW⟩ : ∃ W, w2.alloc (.cells #[.int .i64 v, .slice ps cls.length cs] 28) = W := ⟨_, rfl⟩
  have hbw := Below.new w2 (.cells #[.int .i64 v, .slice ps cls.length cs] 28)
  have hkw := Blk.new (w := w2) 28 [.int .i64 v, .slice ps cls.length cs]
  rw [hW] at hbw
  have hkw : Blk W w2.heap.size 28 [.int .i64 v, .slice ps cls.length cs] := by rw [← hW]; exact hkw
  rw [hW]
  have HY := Lib.hid (And.intro (HX.out.1.below hbw) (And.intro HX.out.2.1 (And.intro (HX.out.2.2.1.trans (hbw.mono HX.out.2.2.1.size)) (And.intro (HX.out.2.2.2.next hbw) hkw))))
  have b0 := (HX.out.2.2.2.next hbw).cell (i := 0) rfl
  have b1 := (HX.out.2.2.2.next hbw).cell (i := 1) rfl
  obtain ⟨g8, hg8⟩ : ∃ g, w2.heap.size = g := ⟨_, rfl⟩
  rw [hg8] at HY ⊢
  clear hbw hkw hW hg8 HX
  go_wp2_with fail
  have hvn : IntKind.i64.wrap (-(v : Int)) = -(v : Int) := i64_of (by omega)
  clear b0 b1 hkw
  go_loopw [33, 10] (fun iv ov wr => ∃ i : Nat, i ≤ NA ∧ iv = .int .i64 i ∧ Stp W.heap.size W wr 3 ov (litsM v (la.take i)).length (ints (litsM v (la.take i)))) (fun iv _ _ => NA - (intOf iv).toNat)
  case atStart => exact ⟨0, Nat.zero_le _, rfl, Stp.nil _ _ _⟩
  case round =>
    obtain ⟨i, hi, rfl, hS⟩ := hrel
    obtain ⟨po, co, rfl⟩ := ownsRow_form hS.own
    by_cases hlt : i < NA
    · have hil : i < la.length := by have := H.out.2.2.1; omega
      have hat := ints_at la i hil
      have hro := H.out.1.below (HY.out.2.2.1.trans (hS.bel.mono HY.out.2.2.1.size))
      obtain ⟨bb, o, hp⟩ := hro.sl hat
      subst hp
      have hc := hro.cell hat
      have htk := litsM_take v la hil
      have hok := (litsM_ok v la i (by omega)).1
      have e0 := (HY.out.2.2.2.2.next hS.bel).cell (i := 0) rfl
      generalize la.getD i 0 = x at *
      obtain ⟨L, hL⟩ : ∃ L, litsM v (la.take i) = L := ⟨_, rfl⟩
      rw [hL] at hS htk hok
      rw [hL]
      obtain ⟨m, hm⟩ : ∃ m, L.length = m := ⟨_, rfl⟩
      rw [hm] at hS htk hok ⊢
      have hii : (i : Int) < NA := by omega
      have hiw : IntKind.i64.wrap ((i : Int) + 1) = (i : Int) + 1 := i64_of (by omega)
      have hmi : (m : Int) ≤ 10 := by omega
      have HS := Lib.hid (And.intro hS (And.intro hlt hm))
      clear hS hat hro hil hi hlt hL hm hok
      have hskip : ¬ (x ≠ 0 ∧ x ≤ (v : Int) ∧ -(v : Int) ≤ x ∧ m < 10) → litsM v (la.take (i + 1)) = L := fun h => by rw [htk, if_neg h]
      have HSk := Lib.hid hskip
      have HTk := Lib.hid htk
      clear hskip htk
      by_cases c1 : x = 0
      · subst c1
        go_wp2_with fail
        go_roundw
        case rel => exact ⟨i + 1, HS.out.2.1, by go_num, by rw [HSk.out (by simp), HS.out.2.2]; exact HS.out.1⟩
        case measure => have := HS.out.2.1; simp [intOf]; omega
      · have c1b : (x != 0) = true := by simp [c1]
        have C1 := Lib.hid c1
        clear c1
        by_cases c2 : x ≤ (v : Int)
        · by_cases c3 : -(v : Int) ≤ x
          · by_cases c4 : m < 10
            · have c4i : (m : Int) < 10 := by omega
              have HTk2 : Hid (litsM v (la.take (i + 1)) = L ++ [x]) := Lib.hid (by rw [HTk.out, if_pos ⟨C1.out, c2, c3, c4⟩])
              clear c4
              go_upto_region 11 with fail
              have hs1 := HS.out.1.alloc (.cells #[.int .i64 x] 3)
              have hr1 : RO (wr.alloc (.cells #[.int .i64 x] 3)) (.slice (some ⟨wr.heap.size, 0, none⟩) 1 1) 1 1 [.int .i64 x] := ro_one _ _
              have hsz := hs1.bel.size
              have HP := Lib.hid (And.intro hs1 hr1)
              clear hs1 hr1
              go_wp2_with (at_builtin; refine wpList_appR rfl _ _ 23 rfl TInts W.heap.size (.slice po m co) m _ rfl HP.out.1.own _ 1 _ rfl HP.out.2 (by simp [Value.oneCell']) (by omega) (by omega) hsz ?_; intro v8 w8 happ; have hs8 := HP.out.1.app happ; obtain ⟨p8, c8, ev8⟩ := ownsRow_form hs8.own; subst ev8; have H8 := Lib.hid hs8; clear happ hs8 hsz)
              go_roundw
              case rel =>
                refine ⟨i + 1, HS.out.2.1, by go_num, ?_⟩
                have h8 := H8.out
                rw [HTk2.out, List.length_append, HS.out.2.2, ints_snoc]
                exact h8
              case measure => have := HS.out.2.1; simp [intOf]; omega
            · have c4i : decide ((m : Int) < 10) = false := decide_eq_false (by omega)
              have C4 := Lib.hid c4
              clear c4
              go_wp2_with fail
              go_roundw
              case rel => exact ⟨i + 1, HS.out.2.1, by go_num, by rw [HSk.out (fun h => C4.out h.2.2.2), HS.out.2.2]; exact HS.out.1⟩
              case measure => have := HS.out.2.1; simp [intOf]; omega
          · have c3i : decide (-(v : Int) ≤ x) = false := decide_eq_false c3
            have C3 := Lib.hid c3
            clear c3
            go_wp2_with fail
            go_roundw
            case rel => exact ⟨i + 1, HS.out.2.1, by go_num, by rw [HSk.out (fun h => C3.out h.2.2.1), HS.out.2.2]; exact HS.out.1⟩
            case measure => have := HS.out.2.1; simp [intOf]; omega
        · have c2i : decide (x ≤ (v : Int)) = false := decide_eq_false c2
          have C2 := Lib.hid c2
          clear c2
          go_wp2_with fail
          go_roundw
          case rel => exact ⟨i + 1, HS.out.2.1, by go_num, by rw [HSk.out (fun h => C2.out h.2.1), HS.out.2.2]; exact HS.out.1⟩
          case measure => have := HS.out.2.1; simp [intOf]; omega
    · obtain rfl : i = NA := by omega
      rw [List.take_of_length_le (by have := H.out.2.2.1; omega)] at hS ⊢
      have hok := litsM_ok v la la.length (Nat.le_refl _)
      rw [List.take_length] at hok
      obtain ⟨L, hL⟩ : ∃ L, litsM v la = L := ⟨_, rfl⟩
      rw [hL] at hS hok ⊢
      obtain ⟨m, hm⟩ : ∃ m, L.length = m := ⟨_, rfl⟩
      have hm10 : (m : Int) ≤ 10 := by have := hok.1; omega
      rw [hm] at hS ⊢
      have hc1 := HY.out.1.below hS.bel
      have hF0 := kfollows_any hc1 HY.out.2.1 (lv := .slice po m co) (l := L) (by rw [hm]; exact RO.own hS.own) (by have := hok.1; omega)
      have HF := Lib.hid hF0
      have HL := Lib.hid (And.intro hS (And.intro hm (And.intro hok.2 hc1)))
      clear hF0 hS hok hL hm hc1 hi hlt
      go_wp2_with fail
      refine HF.out.mono ?_; rintro e w4 ⟨f, rfl, hb4, hiff⟩
      have hc4 := HL.out.2.2.2.below hb4
      have hcl := cclone_any hc4 HY.out.2.1
      have hS4 := HL.out.1.below hb4
      have HCl := Lib.hid hcl
      have hfp : FolP v cls L f := hiff
      have H4 := Lib.hid (And.intro hS4 (And.intro hc4 hfp))
      clear hcl hc4 hiff hfp hS4 hb4 HF
      go_wp2_with fail
      refine HCl.out.mono ?_; rintro e w5 ⟨bd, Fd, rfl, hd, hFd, hb5⟩
      have H5 := Lib.hid (And.intro hd (And.intro hFd hb5))
      clear hd hFd hb5 HCl
      go_upto_region 15 with fail
      have hs0 := Stp.new (base := w4.heap.size) (wc := w5) 3 H5.out.2.2.size
      have hrl := ((RO.own H4.out.1.own).below H5.out.2.2).below hs0.bel
      have hsz := Nat.le_trans H5.out.2.2.size hs0.bel.size
      have HP := Lib.hid (And.intro hs0 hrl)
      clear hs0 hrl
      go_wp2_with (at_builtin; refine wpList_appR rfl _ _ 23 rfl TInts w4.heap.size (.slice (some ⟨w5.heap.size, 0, none⟩) 0 0) 0 [] rfl HP.out.1.own _ m _ rfl HP.out.2 (ints_one _) (by omega) (by omega) hsz ?_; intro v8 w8 happ; have hs8 := HP.out.1.app happ; rw [Nat.zero_add, List.nil_append] at hs8; obtain ⟨p8, c8, ev8⟩ := ownsRow_form hs8.own; subst ev8; have H8 := Lib.hid hs8; clear happ hs8 hsz)
      have hX0 := LoopX.start H5.out.1 H5.out.2.1 H5.out.2.2 H8.out HL.out.2.1
      have HX0 := Lib.hid hX0
      obtain ⟨K, hK⟩ : ∃ K, min NB 10 = K := ⟨_, rfl⟩
      have hK10 : K ≤ 10 := by omega
      have hKB : K ≤ NB := by omega
      have HK := Lib.hid (And.intro hK (And.intro hK10 hKB))
      clear hX0 H8 H5 hK hK10 hKB
      go_loopw [16, 15] (fun iv ev wr => ∃ k : Nat, k ≤ K ∧ iv = .int .i64 k ∧ LoopX w4 bd v (moreM v cls L (lb.take k)) ev wr) (fun iv _ _ => K - (intOf iv).toNat)
      case atStart => exact ⟨0, Nat.zero_le _, rfl, HX0.out⟩
      case round =>
        clear HX0
        obtain ⟨k, hk, rfl, hX⟩ := hrel
        have hk10 := HK.out.2.1
        have hkB := HK.out.2.2
        have b1 := ((HY.out.2.2.2.1.next H4.out.1.bel).next hX.own.bel).cell (i := 1) rfl
        have hok := moreM_ok HY.out.2.1 HL.out.2.2.1 lb k (by have := H.out.2.2.2.1; omega)
        by_cases hlt : k < K
        · have hkl : k < lb.length := by have := H.out.2.2.2.1; omega
          have hat := ints_at lb k hkl
          have hro := H.out.2.1.below (HY.out.2.2.1.trans ((H4.out.1.bel.trans (hX.own.bel.mono H4.out.1.bel.size)).mono HY.out.2.2.1.size))
          obtain ⟨bb, o, hp⟩ := hro.sl hat
          subst hp
          have hc := hro.cell hat
          have htk := moreM_take v cls L lb hkl
          generalize lb.getD k 0 = x at *
          obtain ⟨s, hs⟩ : ∃ s, moreM v cls L (lb.take k) = s := ⟨_, rfl⟩
          rw [hs] at hX htk hok
          obtain ⟨pe, ce, rfl⟩ := ownsRow_form hX.own.own
          have hX1 := hX.below (Below.new wr (.cells #[.int .i64 x] 3))
          obtain ⟨Fk, hc1, hF1⟩ := hX1.hd
          have hadd := add_any (l := [x]) (fun k hk => (own_lt hX1.own.own k hk).2) hc1 hok.wf (ro_one _ _) (by simp)
          have hme2 := hok.l2
          have hLm := HL.out.2.1
          have hadd2 : ∀ F6 w6, HasC (fun k => (Value.slice pe s.2.length ce).ownBlock = some k) w6 bd F6 v (addC v s.1 [x]).1 → Upd Fk F6 (wr.alloc (.cells #[.int .i64 x] 3)) w6 → LoopX w4 bd v ((addC v s.1 [x]).1, s.2) (.slice pe s.2.length ce) w6 := fun F6 w6 hc6 hu6 => hX1.add hF1 hc6 hu6
          have hone : moreM v cls L (lb.take (k + 1)) = ((addC v s.1 [x]).1, if (addC v s.1 [x]).2 = 0 ∧ x ≠ 0 then s.2 ++ [x] else s.2) := htk
          have hq1 : (addC v s.1 [x]).2 = 0 → x ≠ 0 := fun h => (addC_ok h).1
          obtain ⟨q, hq⟩ : ∃ q, (addC v s.1 [x]).2 = q := ⟨_, rfl⟩
          unfold AddR at hadd
          rw [hq] at hone hq1 hadd
          obtain ⟨cls', hcls'⟩ : ∃ c, (addC v s.1 [x]).1 = c := ⟨_, rfl⟩
          rw [hcls'] at hone hadd hadd2
          obtain ⟨me, hme⟩ : ∃ me, s.2.length = me := ⟨_, rfl⟩
          rw [hme] at hadd hadd2 hX hme2 ⊢
          have hmei : (me : Int) ≤ 20 := by omega
          have HAdd := Lib.hid hadd
          have HA2 := Lib.hid (And.intro hadd2 (And.intro hone (And.intro hq1 (And.intro hme hlt))))
          have hii : (k : Int) < NB := by omega
          have hi10 : (k : Int) < 10 := by omega
          have hiw : IntKind.i64.wrap ((k : Int) + 1) = (k : Int) + 1 := i64_of (by omega)
          clear hX hX1 hadd hadd2 hone hq1 hq hcls' hme hlt hok hat hro hkl hk hc1 hF1 hs htk hme2 hLm
          go_wp2_with fail
          refine HAdd.out.mono ?_
          rintro e w6 ⟨rfl, F6, hc6, hu6⟩
          have h6 := HA2.out.1 F6 w6 hc6 hu6
          have ho6 : Stp w4.heap.size w4 w6 3 (.slice pe me ce) me (ints s.2) := by have := h6.own; rw [HA2.out.2.2.2.1] at this; exact this
          have happ6 : ∀ v8 w8 (o : Obj), AppR w4.heap.size 3 1 (w6.alloc o) (.slice pe me ce) (me + 1) (ints s.2 ++ [.int .i64 x]) v8 w8 → LoopX w4 bd v (cls', s.2 ++ [x]) v8 w8 := fun v8 w8 o ha => h6.app (l := s.2 ++ [x]) (by rw [ints_snoc]; exact ha) (by rw [List.length_append, HA2.out.2.2.2.1]; rfl)
          have H6 := Lib.hid h6
          have HO6 := Lib.hid ho6
          have HApp := Lib.hid happ6
          clear h6 ho6 happ6 hc6 hu6 HAdd
          by_cases hq0 : q = 0
          · have hx0 := HA2.out.2.2.1 hq0
            have hn : moreM v cls L (lb.take (k + 1)) = (cls', s.2 ++ [x]) := by rw [HA2.out.2.1, if_pos ⟨hq0, hx0⟩]
            subst hq0
            have hxb : (x != 0) = true := by simp [hx0]
            have HN := Lib.hid hn
            clear hx0 hn
            go_wp2_with (at_builtin; go_must (refine wpList_appR rfl _ _ 23 rfl TInts w4.heap.size (.slice pe me ce) me _ rfl (HO6.out.alloc _).own _ 1 _ rfl (ro_one _ _) (by simp [Value.oneCell']) (by omega) (by omega) (HO6.out.alloc _).bel.size ?_); intro v8 w8 happ; have hl8 := HApp.out v8 w8 _ happ; obtain ⟨p8, c8, ev8⟩ := ownsRow_form happ.own; subst ev8; have H8 := Lib.hid hl8; clear happ hl8)
            go_roundw
            case rel => exact ⟨k + 1, HA2.out.2.2.2.2, by go_num, by rw [HN.out]; exact H8.out⟩
            case measure => have := HA2.out.2.2.2.2; simp [intOf]; omega
          · have hn : moreM v cls L (lb.take (k + 1)) = (cls', s.2) := by rw [HA2.out.2.1, if_neg (fun h => hq0 h.1)]
            have hqb : (q == 0) = false := by simp [hq0]
            have HN := Lib.hid hn
            clear hq0 hn
            go_wp2_with fail
            go_roundw
            case rel => exact ⟨k + 1, HA2.out.2.2.2.2, by go_num, by rw [HN.out]; exact H6.out⟩
            case measure => have := HA2.out.2.2.2.2; simp [intOf]; omega
        · obtain rfl : k = K := by omega
          obtain ⟨s, hs⟩ : ∃ s, moreM v cls L (lb.take k) = s := ⟨_, rfl⟩
          rw [hs] at hX hok
          obtain ⟨pe, ce, rfl⟩ := ownsRow_form hX.own.own
          obtain ⟨me, hme⟩ : ∃ me, s.2.length = me := ⟨_, rfl⟩
          have HM := Lib.hid hme
          have HX := Lib.hid (And.intro hX hok)
          have hrl : ∀ W', Below wr.heap.size wr W' → RO W' (.slice po m co) 1 m (ints L) := fun W' hb => ((RO.own H4.out.1.own).below (hX.own.bel)).below hb
          have HRL := Lib.hid hrl
          have HEnd : Hid (∀ W', Below w4.heap.size w4 W' → Below w.heap.size w W') := Lib.hid fun W' hb => HY.out.2.2.1.trans ((H4.out.1.bel.trans (hb.mono H4.out.1.bel.size)).mono HY.out.2.2.1.size)
          rw [hme]
          clear hs hX hok hme hrl hk hlt
          by_cases hNB : k < NB
          · have hki : (k : Int) < NB := by omega
            have hk10i : decide ((k : Int) < 10) = false := decide_eq_false (by have := HK.out.1; omega)
            clear hNB
            go_upto_region 22 with fail
            have hs0 := Stp.new (base := wr.heap.size) (wc := wr) 3 (Nat.le_refl _)
            have HP := Lib.hid hs0
            clear hs0
            go_wp2_with (first
                          | (at_builtin; refine wpList_appR rfl _ _ 23 rfl TInts wr.heap.size (.slice p8 m c8) m _ rfl H8.out.own _ m _ rfl (HRL.out _ H8.out.bel) (ints_one _) (by omega) (by omega) H8.out.bel.size ?_; intro v9 w9 happ; have hs9 := H8.out.app happ; obtain ⟨p9, c9, ev9⟩ := ownsRow_form hs9.own; subst ev9; have H9 := Lib.hid hs9; clear happ hs9)
                          | (at_builtin; refine wpList_appR rfl _ _ 23 rfl TInts wr.heap.size (.slice (some ⟨wr.heap.size, 0, none⟩) 0 0) 0 [] rfl HP.out.own _ m _ rfl (HRL.out _ HP.out.bel) (ints_one _) (by omega) (by omega) HP.out.bel.size ?_; intro v8 w8 happ; have hs8 := HP.out.app happ; rw [Nat.zero_add, List.nil_append] at hs8; obtain ⟨p8, c8, ev8⟩ := ownsRow_form hs8.own; subst ev8; have H8 := Lib.hid hs8; clear happ hs8))
            have hbw9 := HX.out.1.own.bel.trans (H9.out.bel.mono HX.out.1.own.bel.size)
            have hall := kfollows_any (H4.out.2.1.below hbw9) HY.out.2.1 (lv := .slice p9 (m + m) c9) (l := L ++ L) (by rw [List.length_append, HL.out.2.1, ← ints_app]; exact RO.own H9.out.own) (by rw [List.length_append, HL.out.2.1]; omega)
            have HAll := Lib.hid hall
            have HB9 := Lib.hid hbw9
            clear hall hbw9
            go_upto_region 23 with fail
            cases f with
            | false =>
              go_wp2_with fail
              refine HAll.out.mono ?_; rintro e w10 ⟨g, rfl, hb10, hg⟩
              obtain rfl : g = false := fol_same (l := L) (l' := L ++ L) (fun x => by simp) H4.out.2.2 hg
              have H10 := Lib.hid hb10
              clear hb10 hg HAll
              go_wp2_with fail
              go_ret
              exact ⟨rfl, HEnd.out _ (HB9.out.trans (H10.out.mono HB9.out.size))⟩
            | true =>
              go_wp2_with fail
              refine HAll.out.mono ?_; rintro e w10 ⟨g, rfl, hb10, hg⟩
              obtain rfl : g = true := fol_same (l := L) (l' := L ++ L) (fun x => by simp) H4.out.2.2 hg
              have hb4 := HB9.out.trans (hb10.mono HB9.out.size)
              obtain ⟨Fd2, hd2, _⟩ := (HX.out.1.below (H9.out.bel.trans (hb10.mono H9.out.bel.size))).hd
              have hd3 := kfollows_any hd2 HX.out.2.wf (lv := .slice po m co) (l := L) (by rw [HL.out.2.1]; exact (RO.own H4.out.1.own).below hb4) (by rw [HL.out.2.1]; omega)
              have HD3 := Lib.hid hd3
              have H10 := Lib.hid (And.intro hb4 hb10)
              clear hb4 hd2 hd3 hb10 hg HAll
              go_wp2_with fail
              refine HD3.out.mono ?_; rintro e w11 ⟨g, rfl, hb11, hg⟩
              obtain rfl : g = true := fol_more (l := L) (l' := L) H4.out.2.2 HX.out.2.keep (fun x h => h) (none_bad HL.out.2.2.1) hg
              have hb5 := H10.out.1.trans (hb11.mono H10.out.1.size)
              have hX9 := (HX.out.1.below (H9.out.bel.trans (H10.out.2.mono H9.out.bel.size))).below hb11
              have hd5 := kfollows_any (H4.out.2.1.below hb5) HY.out.2.1 (lv := .slice pe s.2.length ce) (l := s.2) (RO.own hX9.own.own) (by have := HX.out.2.l2; have := HL.out.2.1; have := HK.out.2.1; omega)
              rw [HM.out] at hd5
              have HD5 := Lib.hid hd5
              have H11 := Lib.hid hb5
              clear hb5 hX9 hd5 hb11 hg HD3
              go_wp2_with fail
              refine HD5.out.mono ?_; rintro e w12 ⟨g, rfl, hb12, hg⟩
              obtain rfl : g = true := fol_more (l := L) (l' := s.2) H4.out.2.2 (fun c h => h) HX.out.2.lit (none_bad HX.out.2.ok) hg
              have H12 := Lib.hid hb12
              clear hb12 hg HD5
              go_wp2_with fail
              go_ret
              exact ⟨rfl, HEnd.out _ (H11.out.trans (H12.out.mono H11.out.size))⟩
          · have hki : decide (k < NB) = false := decide_eq_false hNB
            clear hNB
            go_upto_region 22 with fail
            have hs0 := Stp.new (base := wr.heap.size) (wc := wr) 3 (Nat.le_refl _)
            have HP := Lib.hid hs0
            clear hs0
            go_wp2_with (first
                          | (at_builtin; refine wpList_appR rfl _ _ 23 rfl TInts wr.heap.size (.slice p8 m c8) m _ rfl H8.out.own _ m _ rfl (HRL.out _ H8.out.bel) (ints_one _) (by omega) (by omega) H8.out.bel.size ?_; intro v9 w9 happ; have hs9 := H8.out.app happ; obtain ⟨p9, c9, ev9⟩ := ownsRow_form hs9.own; subst ev9; have H9 := Lib.hid hs9; clear happ hs9)
                          | (at_builtin; refine wpList_appR rfl _ _ 23 rfl TInts wr.heap.size (.slice (some ⟨wr.heap.size, 0, none⟩) 0 0) 0 [] rfl HP.out.own _ m _ rfl (HRL.out _ HP.out.bel) (ints_one _) (by omega) (by omega) HP.out.bel.size ?_; intro v8 w8 happ; have hs8 := HP.out.app happ; rw [Nat.zero_add, List.nil_append] at hs8; obtain ⟨p8, c8, ev8⟩ := ownsRow_form hs8.own; subst ev8; have H8 := Lib.hid hs8; clear happ hs8))
            have hbw9 := HX.out.1.own.bel.trans (H9.out.bel.mono HX.out.1.own.bel.size)
            have hall := kfollows_any (H4.out.2.1.below hbw9) HY.out.2.1 (lv := .slice p9 (m + m) c9) (l := L ++ L) (by rw [List.length_append, HL.out.2.1, ← ints_app]; exact RO.own H9.out.own) (by rw [List.length_append, HL.out.2.1]; omega)
            have HAll := Lib.hid hall
            have HB9 := Lib.hid hbw9
            clear hall hbw9
            go_upto_region 23 with fail
            cases f with
            | false =>
              go_wp2_with fail
              refine HAll.out.mono ?_; rintro e w10 ⟨g, rfl, hb10, hg⟩
              obtain rfl : g = false := fol_same (l := L) (l' := L ++ L) (fun x => by simp) H4.out.2.2 hg
              have H10 := Lib.hid hb10
              clear hb10 hg HAll
              go_wp2_with fail
              go_ret
              exact ⟨rfl, HEnd.out _ (HB9.out.trans (H10.out.mono HB9.out.size))⟩
            | true =>
              go_wp2_with fail
              refine HAll.out.mono ?_; rintro e w10 ⟨g, rfl, hb10, hg⟩
              obtain rfl : g = true := fol_same (l := L) (l' := L ++ L) (fun x => by simp) H4.out.2.2 hg
              have hb4 := HB9.out.trans (hb10.mono HB9.out.size)
              obtain ⟨Fd2, hd2, _⟩ := (HX.out.1.below (H9.out.bel.trans (hb10.mono H9.out.bel.size))).hd
              have hd3 := kfollows_any hd2 HX.out.2.wf (lv := .slice po m co) (l := L) (by rw [HL.out.2.1]; exact (RO.own H4.out.1.own).below hb4) (by rw [HL.out.2.1]; omega)
              have HD3 := Lib.hid hd3
              have H10 := Lib.hid (And.intro hb4 hb10)
              clear hb4 hd2 hd3 hb10 hg HAll
              go_wp2_with fail
              refine HD3.out.mono ?_; rintro e w11 ⟨g, rfl, hb11, hg⟩
              obtain rfl : g = true := fol_more (l := L) (l' := L) H4.out.2.2 HX.out.2.keep (fun x h => h) (none_bad HL.out.2.2.1) hg
              have hb5 := H10.out.1.trans (hb11.mono H10.out.1.size)
              have hX9 := (HX.out.1.below (H9.out.bel.trans (H10.out.2.mono H9.out.bel.size))).below hb11
              have hd5 := kfollows_any (H4.out.2.1.below hb5) HY.out.2.1 (lv := .slice pe s.2.length ce) (l := s.2) (RO.own hX9.own.own) (by have := HX.out.2.l2; have := HL.out.2.1; have := HK.out.2.1; omega)
              rw [HM.out] at hd5
              have HD5 := Lib.hid hd5
              have H11 := Lib.hid hb5
              clear hb5 hX9 hd5 hb11 hg HD3
              go_wp2_with fail
              refine HD5.out.mono ?_; rintro e w12 ⟨g, rfl, hb12, hg⟩
              obtain rfl : g = true := fol_more (l := L) (l' := s.2) H4.out.2.2 (fun c h => h) HX.out.2.lit (none_bad HX.out.2.ok) hg
              have H12 := Lib.hid hb12
              clear hb12 hg HD5
              go_wp2_with fail
              go_ret
              exact ⟨rfl, HEnd.out _ (H11.out.trans (H12.out.mono H11.out.size))⟩
end Go.Proofs.Ytcifiibpiooeiaa
