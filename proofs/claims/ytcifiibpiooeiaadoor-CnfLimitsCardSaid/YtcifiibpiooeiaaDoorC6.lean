import Derived.Test.YtcifiibpiooeiaaDoorP4
namespace Go.Proofs.YtcifiibpiooeiaaDoor
set_option linter.unusedVariables false
open Go.RowKit Go.Sort

theorem Upd.flat {F F' : Nat → Prop} {w w' : World} (h : Upd F F' w w') : Upd F F w w' := ⟨h.1, h.2, h.3, h.size, h.block, fun _ hk => .inl hk⟩
theorem has_nil (A : Nat → Prop) {w : World} {b v : Nat} (h : Blk w b 49 [.int .i64 v, .slice none 0 0]) : HasC A w b (foot b (.slice none 0 0)) v [] :=
  ⟨.slice none 0 0, [], ⟨h, World.ownsRow_nil _ _ _ _, (by intro h; cases h), rfl, fun i hi => absurd hi (by simp)⟩, rfl, fun i hi => absurd hi (by simp)⟩

set_option maxRecDepth 100000 in
set_option maxHeartbeats 16000000 in
theorem order_law {w : World} {pl : Option Addr} {cl : Nat} {ll : List Int} (n t : Int) (hl : RO w (.slice pl ll.length cl) 1 ll.length (ints ll)) (hcap : ll.length ≤ cl) (hb : ll.length ≤ 9223372036854775807) (htab : Lib.TabIs Tryd.prog w "internal/strconv.uint64pow10" .u64 Lib.pow10Tab) :
    Calls Tryd.prog 3 #[.int .i64 n, .slice pl ll.length cl, .int .i64 t] w fun e w' => e = .returned (.bool true) ∧ Below w.heap.size w w' := by
  obtain ⟨v, hv⟩ : ∃ v, makeV n = v := ⟨_, rfl⟩
  have hvi : (v : Int) = max 0 (min n 60) := by rw [← hv, makeV_int]
  have hv60 : v ≤ 60 := by omega
  have hnv : newV (v : Int) = v := by unfold newV; omega
  have HNew := Lib.hid (fun W => by have h := new_any (v : Int) W; rw [hnv] at h; exact h)
  have HAw := Lib.hid (awake_any htab)
  have HT := Lib.hid htab
  obtain ⟨N, hN⟩ : ∃ N, ll.length = N := ⟨_, rfl⟩
  rw [hN] at hl hcap hb ⊢
  have H := Lib.hid (And.intro hl (And.intro hN hcap))
  have HV := Lib.hid (And.intro hvi hv60)
  have hNi : (N : Int) ≤ 9223372036854775807 := by omega
  clear hv hvi hv60 hnv htab hN hl hb hcap
  go_enter Tryd.func3, Tryd.ntmps3
  go_wp2_with fail
  refine HAw.out.mono ?_
  rintro e w1 ⟨rfl, hb1⟩
  have HB1 := Lib.hid hb1
  clear hb1 HAw
  go_upto_if 22 with fail
  rw [← HV.out.1]
  go_cut [1] from 15 (fun s1 wx => ∃ (p : Option Addr) (c : Nat), s1 = .slice p (min N 30) c ∧ RO wx s1 1 (min N 30) (ints (ll.take 30)) ∧ wx = w1)
  case first =>
    by_cases h30 : N ≤ 30
    · have h30i : decide ((30 : Int) < N) = false := decide_eq_false (by omega)
      go_wp2_with fail
      go_meet
      exact ⟨pl, cl, by rw [Nat.min_eq_left h30], by rw [Nat.min_eq_left h30, List.take_of_length_le (by rw [H.out.2.1]; exact h30)]; exact H.out.1.below HB1.out, rfl⟩
    · have h30i : decide ((30 : Int) < N) = true := decide_eq_true (by omega)
      have hs30 : 30 ≤ cl := by have := H.out.2.2; omega
      go_wp2_with fail
      go_meet
      exact ⟨pl, cl, by rw [Nat.min_eq_right (by omega)], by rw [Nat.min_eq_right (by omega), ← ints_take]; exact (H.out.1.below HB1.out).takeS (by omega), rfl⟩
  case rest =>
    obtain ⟨p, c, rfl, hr, rfl⟩ := hcut
    obtain ⟨L, hL⟩ : ∃ L, ll.take 30 = L := ⟨_, rfl⟩
    have hLl : L.length = min N 30 := by rw [← hL, List.length_take, H.out.2.1, Nat.min_comm]
    rw [hL] at hr
    obtain ⟨K, hK⟩ : ∃ K, min N 30 = K := ⟨_, rfl⟩
    rw [hK] at hr hLl ⊢
    have hK30 : K ≤ 30 := by omega
    have HL := Lib.hid (And.intro hr hLl)
    clear hL hr hLl hK hNi
    go_wp2_with fail
    go_loopw [28, 8] (fun iv ov wr => ∃ i : Nat, i ≤ K ∧ iv = .int .i64 i ∧ Stp wc.heap.size wc wr 3 ov (2 * i) (ints (turned L t i))) (fun iv _ _ => K - (intOf iv).toNat)
    case atStart => exact ⟨0, Nat.zero_le _, rfl, World.ownsRow_nil _ _ _ _, (fun j hj => by cases hj), Below.refl _ _⟩
    case round =>
      obtain ⟨i, hi, rfl, hS⟩ := hrel
      obtain ⟨po, co, rfl⟩ := ownsRow_form hS.own
      have HS := Lib.hid hS
      clear hS
      by_cases hlt : i < K
      · have hii : (i : Int) < K := by omega
        have hmx : max (K : Int) 1 = K := by omega
        have hK0 : (0 : Int) < K := by omega
        have hR1 := Int.tmod_lt_of_pos t hK0
        have hR2 := Int.lt_tmod_of_pos t hK0
        have hwr1 : IntKind.i64.wrap (t.tmod K) = t.tmod K := i64_of (by omega)
        obtain ⟨R, hR⟩ : ∃ R, t.tmod (K : Int) = R := ⟨_, rfl⟩
        have hQ1 := Int.tmod_lt_of_pos ((i : Int) + R) hK0
        have hQ2 := Int.lt_tmod_of_pos ((i : Int) + R) hK0
        have hpl := turn_place (n := K) (by omega) i t
        rw [hR] at hpl hR1 hR2
        obtain ⟨Q, hQ⟩ : ∃ Q, ((i : Int) + R).tmod (K : Int) = Q := ⟨_, rfl⟩
        rw [hQ] at hpl hQ1 hQ2
        have hJ0 : 0 ≤ ((i : Int) + t) % K := Int.emod_nonneg _ (by omega)
        have hJ1 : ((i : Int) + t) % K < K := Int.emod_lt_of_pos _ hK0
        obtain ⟨J, hJ⟩ : ∃ J : Nat, ((i : Int) + t) % K = J := ⟨(((i : Int) + t) % K).toNat, by omega⟩
        rw [hJ] at hpl hJ0 hJ1
        have hJK : J < L.length := by rw [HL.out.2]; omega
        have hat := ints_at L J hJK
        have hrr := HL.out.1.below HS.out.bel
        obtain ⟨b, o, rfl⟩ := HL.out.1.sl hat
        have cJ := hrr.cell hat
        have hJ63 : (J : Int) < K := by omega
        have hiw : IntKind.i64.wrap ((i : Int) + 1) = (i : Int) + 1 := i64_of (by omega)
        have HJ := Lib.hid hJ
        have hK30i : (K : Int) ≤ 30 := by omega
        obtain ⟨x, hx⟩ : ∃ x, L.getD J 0 = x := ⟨_, rfl⟩
        rw [hx] at cJ
        have HX := Lib.hid hx
        clear hi hat hrr hJ hwr1 hK30 hJK hx
        go_upto_region 12 with fail
        have hs1 := HS.out.alloc (.cells #[.int .i64 x, .int .i64 x] 3)
        have hr1 : RO (wr.alloc (.cells #[.int .i64 x, .int .i64 x] 3)) (.slice (some ⟨wr.heap.size, 0, none⟩) 2 2) 1 2 [.int .i64 x, .int .i64 x] := RO.ofCells (Blk.new 3 [.int .i64 x, .int .i64 x]) rfl
        have hsz := hs1.bel.size
        have HP := Lib.hid (And.intro hs1 hr1)
        clear hs1 hr1 hmx hR hQ hpl hR1 hR2 hQ1 hQ2 hJ0 hJ1 cJ hJ63
        go_wp2_with (at_builtin; refine wpList_appR rfl _ _ 22 rfl TInts wc.heap.size (.slice po (2 * i) co) (2 * i) _ rfl HP.out.1.own _ 2 _ rfl HP.out.2 (by simp [Value.oneCell']) (by omega) (by omega) hsz ?_; intro v8 w8 happ; have hs8 := HP.out.1.app happ; obtain ⟨p8, c8, ev8⟩ := ownsRow_form hs8.own; subst ev8; have H8 := Lib.hid hs8; clear happ hs8 hsz)
        go_roundw
        case rel =>
          refine ⟨i + 1, hlt, by go_num, ?_⟩
          have h8 := H8.out
          rw [turned_succ, HL.out.2, HJ.out, Int.toNat_natCast, HX.out]
          rw [show 2 * (i + 1) = 2 * i + 2 by omega, show ints (turned L t i ++ [x, x]) = ints (turned L t i) ++ [.int .i64 x, .int .i64 x] by simp [ints]]
          exact h8
        case measure => simp [intOf]; omega
      · obtain rfl : i = K := by omega
        clear hlt hi
        go_wp2_with fail
        refine (HNew.out wr).mono ?_
        rintro e w2 ⟨rfl, rfl⟩
        have hcc := Blk.new (w := wr) 49 [.int .i64 v, .slice none 0 0]
        have hb2 := Below.new wr (.cells #[.int .i64 v, .slice none 0 0] 49)
        go_wp2_with fail
        refine (HNew.out _).mono ?_
        rintro e w3 ⟨rfl, rfl⟩
        have hdd := Blk.new (w := wr.alloc (.cells #[.int .i64 v, .slice none 0 0] 49)) 49 [.int .i64 v, .slice none 0 0]
        have hb3 := Below.new (wr.alloc (.cells #[.int .i64 v, .slice none 0 0] 49)) (.cells #[.int .i64 v, .slice none 0 0] 49)
        have hc3 := hcc.next hb3
        have hb23 := Below.next hb2 hb3
        have hne : wr.heap.size < (wr.alloc (.cells #[.int .i64 v, .slice none 0 0] 49)).heap.size := by simp
        have hsS := HS.out.below hb23
        have hpo : ∀ j, (Value.slice po (2 * i) co).ownBlock = some j → j < wr.heap.size := fun j hj => by
          rcases HS.out.own.2 with ⟨e, _⟩ | ⟨g', cap, cur, e, _, hg, _⟩
          · rw [e] at hj; cases hj
          · rw [e] at hj; cases hj; exact some_lt hg
        have hge := HS.out.bel.size
        have HC := Lib.hid (And.intro hc3 (And.intro hdd (And.intro hsS (And.intro hne (And.intro hpo hge)))))
        clear hcc hb2 hdd hb3 hc3 hb23 hsS hne hpo hge
        go_upto_region 15 with fail
        simp only [World.size_alloc] at HC ⊢
        obtain ⟨g, hg⟩ : ∃ g, wr.heap.size = g := ⟨_, rfl⟩
        obtain ⟨W3, hW3⟩ : ∃ W3, (wr.alloc (.cells #[.int .i64 v, .slice none 0 0] 49)).alloc (.cells #[.int .i64 v, .slice none 0 0] 49) = W3 := ⟨_, rfl⟩
        rw [hW3, hg] at HC ⊢
        clear hW3 hg HS
        have hs0 := Stp.new (base := W3.heap.size) (wc := W3) 3 (Nat.le_refl _)
        have hrl := (HL.out.1.below HC.out.2.2.1.bel).below hs0.bel
        have HP := Lib.hid (And.intro hs0 hrl)
        clear hs0 hrl
        go_wp2_with (at_builtin; refine wpList_appR rfl _ _ 22 rfl TInts W3.heap.size (.slice (some ⟨W3.heap.size, 0, none⟩) 0 0) 0 [] rfl HP.out.1.own _ i _ rfl HP.out.2 (ints_one _) (by omega) (by omega) (by simp) ?_; intro v8 w8 happ; have hs8 := HP.out.1.app happ; rw [Nat.zero_add, List.nil_append] at hs8; obtain ⟨p8, c8, ev8⟩ := ownsRow_form hs8.own; subst ev8; have H8 := Lib.hid hs8; clear happ hs8)
        have hwf : WFC v [] := ⟨by have := HV.out.2; omega, by simp, fun j hj => absurd hj (by simp)⟩
        have hcW := HC.out.1.next H8.out.bel
        have hdW := HC.out.2.1.next H8.out.bel
        have hro8 : RO w8 (.slice p8 i c8) 1 L.length (ints L) := by rw [HL.out.2]; exact RO.own H8.out.own
        refine (add_any (A := fun k => k = g + 1) (fun k hk => by rw [hk]; exact hdW.lt) (has_nil _ hcW) hwf hro8 (by rw [HL.out.2]; omega)).mono ?_
        rintro e w9 ⟨rfl, F9, hc9, hu9⟩
        have hd9 := hu9.blk hdW (by rintro (hk | hk) <;> first | omega | cases hk)
        have hF9 : ∀ k, F9 k → k ≠ g + 1 := fun k hk => by
          rcases hu9.sub k hk with (hh | hh) | hh
          · omega
          · cases hh
          · have := hdW.lt; omega
        have hro9 := (RO.own (HC.out.2.2.1.below H8.out.bel).own).upd hu9 (fun k hk => by
          have h1 := HC.out.2.2.2.2.1 k hk
          rintro (hh | hh)
          · omega
          · cases hh)
        have hB3 := HB1.out.trans (HC.out.2.2.1.bel.mono HB1.out.size)
        have hB8 := hB3.trans (H8.out.bel.mono hB3.size)
        have hB9 := hB8.trans (hu9.toBelow (fun k hk => by
          have h1 := HC.out.2.2.2.2.2
          rcases hk with hh | hh
          · have := HB1.out.size; omega
          · cases hh) hB8.size)
        have hcg : addC v [] (turned L t i) = addC v [] L := by
          have h := addC_congr (v := v) (cls := []) (turned_mem (l := L) t) (by rw [turned_len, HL.out.2]; omega) (by rw [HL.out.2]; omega)
          rw [HL.out.2] at h
          exact h
        have hlt : (turned L t i).length = 2 * i := turned_len L t i
        rw [← hlt] at hro9
        have had2 := add_any (A := fun _ => False) (fun k hk => hk.elim) (has_nil _ hd9) hwf hro9 (by rw [hlt]; omega)
        rw [hlt] at had2
        have HA2 := Lib.hid had2
        have H9 := Lib.hid (And.intro hc9 (And.intro hF9 (And.intro hB9 (And.intro hcg (And.intro hwf hd9)))))
        clear hcW hdW hro8 hc9 hd9 hF9 hro9 hB3 hB8 hB9 hcg hlt had2 hu9 hwf
        obtain ⟨q, hq⟩ : ∃ q, (addC v [] L).2 = q := ⟨_, rfl⟩
        have HQ := Lib.hid hq
        rw [hq]
        clear hq
        go_wp2_with fail
        refine HA2.out.mono ?_
        rintro e w10 ⟨rfl, F10, hc10, hu10⟩
        rw [H9.out.2.2.2.1] at hc10 ⊢
        rw [HQ.out]
        have hwf2 := addC_wf H9.out.2.2.2.2.1 L
        have hcc := H9.out.1.keep hu10.flat (fun k hk => by
          have := H9.out.2.1 k hk
          rintro (hh | hh)
          · exact this hh
          · cases hh) (fun k hk => by
          rcases hk with hh | hh
          · exact hh
          · cases hh)
        have hB10 := H9.out.2.2.1.trans (hu10.toBelow (fun k hk => by
          have h1 := HC.out.2.2.2.2.2
          rcases hk with hh | hh
          · have := HB1.out.size; omega
          · cases hh) H9.out.2.2.1.size)
        obtain ⟨s, hs⟩ : ∃ s, textC v (addC v [] L).1 = s := ⟨_, rfl⟩
        have htx := fun W (hW : Below w10.heap.size w10 W) => text_any (hcc.below hW) hwf2 (tab_below HT.out (hB10.trans (hW.mono hB10.size)))
        have hty := fun W (hW : Below w10.heap.size w10 W) => text_any (hc10.below hW) hwf2 (tab_below HT.out (hB10.trans (hW.mono hB10.size)))
        rw [hs] at htx hty
        have HX := Lib.hid (And.intro htx (And.intro hty hB10))
        clear hc10 hu10 hwf2 hcc hB10 hs htx hty
        go_wp2_with fail
        refine (HX.out.1 w10 (Below.refl _ _)).mono ?_
        rintro e w11 ⟨rfl, hb11⟩
        have HB11 := Lib.hid hb11
        clear hb11
        go_wp2_with fail
        refine (HX.out.2.1 w11 HB11.out).mono ?_
        rintro e w12 ⟨rfl, hb12⟩
        have HB12 := Lib.hid (HX.out.2.2.trans ((Below.next HB11.out hb12).mono HX.out.2.2.size))
        clear hb12
        go_wp2_with fail
        go_ret
        exact ⟨rfl, HB12.out⟩
end Go.Proofs.YtcifiibpiooeiaaDoor
