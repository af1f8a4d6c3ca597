import Derived.Test.YtcifiibpiooeiaaDoorP4
import Derived.Test.YtcifiibpiooeiaaDoorK4
namespace Go.Proofs.YtcifiibpiooeiaaDoor
set_option linter.unusedVariables false
open Go.RowKit Go.Sort

/-- the state of the loop that adds b's clauses to a's clone -/
structure BothS (A : Nat → Prop) (W wr : World) (bd : Nat) (F : Nat → Prop) (v : Nat) (a b : List (List Int)) (i : Nat) : Prop where
  hc : HasC A wr bd F v (a ++ b.take i)
  ge : ∀ k, F k → W.heap.size ≤ k
  bel : Below W.heap.size W wr
theorem BothS.add {A : Nat → Prop} {W wr w' : World} {bd : Nat} {F : Nat → Prop} {v : Nat} {a b : List (List Int)} {i : Nat} {l : List Int} {e : Ending} {w1 : World} (h : BothS A W wr bd F v a b i) (ha : WFC v a) (hb : WFC v b) (hn : a.length + b.length < 200000) (hi : i < b.length)
    (hb1 : Below wr.heap.size wr w1) (hl : b.getD i [] = l) (had : AddR A w1 bd F v (a ++ b.take i) l e w') : e = .returned (.int .i64 0) ∧ ∃ F', BothS A W w' bd F' v a b (i + 1) := by
  obtain ⟨he, F', hc, hu⟩ := had
  rw [← hl, addC_next ha hb hn hi] at he hc
  have hb2 := h.bel.trans (hb1.mono h.bel.size)
  exact ⟨he, F', hc, fun k hk => by
    rcases hu.sub k hk with hh | hh
    · exact h.ge k hh
    · have := hb2.size; omega, hb2.trans (hu.toBelow h.ge hb2.size)⟩

theorem WFC.nil {v : Nat} (hv : v ≤ 60000) : WFC v [] := ⟨hv, by simp, fun i hi => absurd hi (by simp)⟩
theorem RO.nil0 (w : World) : RO w (.slice none 0 0) 1 ([] : List Bool).length (bools []) := ⟨rfl, none, 0, rfl, fun j u hj => by simp [bools] at hj⟩

set_option maxRecDepth 100000 in
set_option maxHeartbeats 16000000 in
theorem holdsl_law {w : World} {pa pb : Option Addr} {ca cb : Nat} {sa sb : List (Option Addr × Nat × Nat)} {la lb : List (List Int)} {mv : Value} {mb : List Bool} (n : Int)
    (ha : RO w (.slice pa la.length ca) 1 la.length (slvs sa)) (hna : Nest w sa la) (hba : la.length ≤ 9223372036854775807)
    (hb : RO w (.slice pb lb.length cb) 1 lb.length (slvs sb)) (hnb : Nest w sb lb) (hbb : lb.length ≤ 9223372036854775807)
    (hm : RO w mv 1 mb.length (bools mb)) (htab : Lib.TabIs Tryd.prog w "internal/strconv.uint64pow10" .u64 Lib.pow10Tab) :
    Calls Tryd.prog 5 #[.int .i64 n, .agg #[.slice pa la.length ca, .slice pb lb.length cb], mv] w fun e w' => e = .returned (.bool true) ∧ Below w.heap.size w w' := by
  obtain ⟨pm, cm, rfl⟩ := hm.form
  have hb0 := Below.new w (.cells #[.slice pa la.length ca, .slice pb lb.length cb] 36)
  have hB0 : Blk (w.alloc (.cells #[.slice pa la.length ca, .slice pb lb.length cb] 36)) w.heap.size 36 [.slice pa la.length ca, .slice pb lb.length cb] := Blk.new _ _
  have hmk0 := fun W (hW : Below w.heap.size w W) => make_any n (ha.below hW) (hna.below hW) hba
  have hmk1 := fun W (hW : Below w.heap.size w W) => make_any n (hb.below hW) (hnb.below hW) hbb
  have hmm := fun W (hW : Below w.heap.size w W) => hm.below hW
  have htt := fun W (hW : Below w.heap.size w W) => tab_below htab hW
  obtain ⟨m, hml⟩ : ∃ m, mb.length = m := ⟨_, rfl⟩
  obtain ⟨N, hN⟩ : ∃ N, la.length = N := ⟨_, rfl⟩
  obtain ⟨M, hM⟩ : ∃ M, lb.length = M := ⟨_, rfl⟩
  rw [hN] at hmk0
  rw [hM] at hmk1
  rw [hN, hM] at hb0 hB0 ⊢
  have HM := Lib.hid (And.intro hmk0 (And.intro hmk1 (And.intro hmm htt)))
  have H0 := Lib.hid (And.intro hb0 (And.intro hB0 hml))
  clear ha hna hba hb hnb hbb hm htab hmk0 hmk1 hmm htt hb0 hB0 hN hM
  rw [hml]
  clear hml
  go_enter Tryd.func5, Tryd.ntmps5
  go_wp2_with fail
  generalize w.alloc (.cells #[.slice pa N ca, .slice pb M cb] 36) = W0 at *
  refine (awake_any (HM.out.2.2.2 W0 H0.out.1)).mono ?_
  rintro e w1 ⟨rfl, hb1⟩
  have H1 := Lib.hid (And.intro (H0.out.1.trans (hb1.mono H0.out.1.size)) (And.intro (H0.out.2.1.next hb1) hb1))
  clear hb1
  have c0 := H1.out.2.1.cell (i := 0) rfl
  have c1 := H1.out.2.1.cell (i := 1) rfl
  go_wp2_with fail
  refine (HM.out.1 w1 H1.out.1).mono ?_
  rintro e w2 ⟨ba, Fa, sva, rfl, hCa, hRa, hFa, hb2⟩
  obtain ⟨psa, csa, ev⟩ := hRa.form
  subst ev
  have hwa := makeAll_wf n la
  have hla : (makeAll n la).length ≤ 200 := makeAll_len n la
  have hwb := makeAll_wf n lb
  have hlb : (makeAll n lb).length ≤ 200 := makeAll_len n lb
  have HM1 := Lib.hid (HM.out.2.1)
  have hv60 : makeV n ≤ 60 := by unfold makeV; omega
  clear hRa
  unfold MakeR at HM1
  generalize makeV n = v at *
  generalize makeAll n la = A at *
  generalize makeAll n lb = B at *
  have hboA := Below.new w2 (.cells #[.int .i64 v, .slice psa A.length csa] 39)
  have hBoA : Blk (w2.alloc (.cells #[.int .i64 v, .slice psa A.length csa] 39)) w2.heap.size 39 [.int .i64 v, .slice psa A.length csa] := Blk.new _ _
  have hb02 := H1.out.1.trans (hb2.mono H1.out.1.size)
  have hCa2 := hCa.below hboA
  have hbW2 := hb02.trans (hboA.mono hb02.size)
  have hB2 := (H1.out.2.1.next hb2).next hboA
  have H2S := Lib.hid (show w1.heap.size ≤ (w2.alloc (.cells #[.int .i64 v, .slice psa A.length csa] 39)).heap.size from Nat.le_trans hb2.size hboA.size)
  have H2 := Lib.hid (And.intro hCa2 (And.intro hBoA (And.intro hbW2 (And.intro hB2 (And.intro hwa (And.intro hla (And.intro hwb (And.intro hlb hv60))))))))
  clear hCa hFa hb2 hwa hla hwb hlb hboA hBoA hb02 hCa2 hbW2 hB2 c0 c1
  have c1 := H2.out.2.2.2.1.cell (i := 1) rfl
  go_wp2_with fail
  generalize w2.alloc (.cells #[.int .i64 v, .slice psa A.length csa] 39) = W2 at *
  generalize w2.heap.size = ga at *
  refine (HM1.out W2 H2.out.2.2.1).mono ?_
  rintro e w3 ⟨bb, Fb, svb, rfl, hCb, hRb, hFb, hb3⟩
  obtain ⟨psb, csb, ev⟩ := hRb.form
  subst ev
  have hboB := Below.new w3 (.cells #[.int .i64 v, .slice psb B.length csb] 39)
  have hBoB : Blk (w3.alloc (.cells #[.int .i64 v, .slice psb B.length csb] 39)) w3.heap.size 39 [.int .i64 v, .slice psb B.length csb] := Blk.new _ _
  have hb23 := Below.next hb3 hboB
  have hCb3 := hCb.below hboB
  have hCa3 := H2.out.1.below hb23
  have hBa3 := H2.out.2.1.next hb23
  have hbel3 := Below.next H2.out.2.2.1 hb23
  have H3 := Lib.hid (And.intro hCa3 (And.intro hCb3 (And.intro hBa3 (And.intro hBoB hbel3))))
  have hs1 : w1.heap.size ≤ (w3.alloc (.cells #[.int .i64 v, .slice psb B.length csb] 39)).heap.size := Nat.le_trans H2S.out hb23.size
  clear hRb hCb hFb hb3 hboB hBoB hb23 hCb3 hCa3 hBa3 hbel3 c1 HM1
  go_wp2_with fail
  generalize w3.alloc (.cells #[.int .i64 v, .slice psb B.length csb] 39) = W3 at *
  generalize w3.heap.size = gb at *
  have HWA := Lib.hid H2.out.2.2.2.2
  refine (cclone_any H3.out.1 HWA.out.1).mono ?_
  rintro e w4 ⟨bd, Fd, rfl, hd, hFd, hb4⟩
  have HL := Lib.hid (len_any (H3.out.2.1.below hb4))
  have HB0 : Hid (BothS (fun k => k < w1.heap.size) W3 w4 bd Fd v A B 0) := Lib.hid ⟨by rw [List.take_zero, List.append_nil]; exact hd, hFd, hb4⟩
  clear hd hFd hb4
  go_wp2_with fail
  refine HL.out.mono ?_
  rintro e w5 ⟨rfl, rfl⟩
  clear HL
  obtain ⟨Z, hZ⟩ : ∃ Z, B.length = Z := ⟨_, rfl⟩
  have HZ := Lib.hid hZ
  have hZ2 : Z ≤ 200 := by rw [← hZ]; exact HWA.out.2.2.2.1
  rw [hZ]
  clear hZ
  go_wp2_with fail
  go_loopw [43] (fun iv wr => ∃ i : Nat, i ≤ Z ∧ iv = .int .i64 i ∧ ∃ F, BothS (fun k => k < w1.heap.size) W3 wr bd F v A B i) (fun iv _ => Z - (intOf iv).toNat)
  case atStart => exact ⟨0, Nat.zero_le _, rfl, _, HB0.out⟩
  case round =>
    obtain ⟨i, hi, rfl, F, hS⟩ := hrel
    have HS := Lib.hid hS
    clear hS HB0
    by_cases hlt : i < Z
    · have hii : (i : Int) < Z := by omega
      have hiw : IntKind.i64.wrap ((i : Int) + 1) = (i : Int) + 1 := i64_of (by omega)
      have hli : i < B.length := by rw [HZ.out]; exact hlt
      have HLI := Lib.hid hli
      clear hi hli
      go_wp2_with fail
      refine (clause_any (H3.out.2.1.below HS.out.bel) HWA.out.2.2.1 i).mono ?_
      rintro e w5 ⟨v5, rfl, ho5, hb5⟩
      obtain ⟨p5, c5, ev⟩ := ownsRow_form ho5
      subst ev
      rw [clsI_nat B i HLI.out] at ho5 ⊢
      obtain ⟨l, hl⟩ : ∃ l, B.getD i [] = l := ⟨_, rfl⟩
      rw [hl] at ho5 ⊢
      have hll : l.length ≤ 1000 := by rw [← hl]; exact (HWA.out.2.2.1.l i HLI.out).2.2.2
      have had := add_any (A := fun k => k < w1.heap.size) (fun k hk => Nat.lt_of_lt_of_le hk (Nat.le_trans hs1 (Nat.le_trans HS.out.bel.size hb5.size))) (HS.out.hc.below hb5) (HWA.out.1.app (HWA.out.2.2.1.take i) (by have h1 := HWA.out.2.1; have h2 := HWA.out.2.2.2.1; rw [List.length_take]; omega)) (RO.own ho5) (by omega)
      have HA := Lib.hid (And.intro had (And.intro hb5 hl))
      clear had hb5 hl hll ho5
      go_wp2_with fail
      refine HA.out.1.mono ?_
      intro e w6 had
      obtain ⟨rfl, F', hS'⟩ := HS.out.add HWA.out.1 HWA.out.2.2.1 (by have h1 := HWA.out.2.1; have h2 := HWA.out.2.2.2.1; omega) HLI.out HA.out.2.1 HA.out.2.2 had
      have HS' := Lib.hid hS'
      clear had hS'
      go_wp2_with fail
      go_roundw
      case rel => exact ⟨i + 1, hlt, by go_num, F', HS'.out⟩
      case measure => simp [intOf]; omega
    · obtain rfl : i = Z := by omega
      clear hlt hi
      go_upto_region 14 with fail
      have hY : A.length ≤ 200 := HWA.out.2.1
      obtain ⟨Y, hYe⟩ : ∃ Y, A.length = Y := ⟨_, rfl⟩
      have hwAB : WFC v (A ++ B) := HWA.out.1.app HWA.out.2.2.1 (by have h1 := HWA.out.2.1; have h2 := HWA.out.2.2.2.1; omega)
      have hcd := HS.out.hc
      rw [List.take_of_length_le (Nat.le_of_eq HZ.out)] at hcd
      have hbelW := H3.out.2.2.2.2.trans (HS.out.bel.mono H3.out.2.2.2.2.size)
      have hmw := HM.out.2.2.1 wr hbelW
      rw [H0.out.2.2] at hmw
      have hmw' : RO wr (.slice pm m cm) 1 mb.length (bools mb) := by rw [H0.out.2.2]; exact hmw
      have hmm' := fun W (hW : Below wr.heap.size wr W) => hmw'.below hW
      have HHd' := fun W (hW : Below wr.heap.size wr W) => holds_any (hcd.below hW) hwAB (hmm' W hW)
      have HHa' := fun W (hW : Below wr.heap.size wr W) => holds_any ((H3.out.1.below HS.out.bel).below hW) HWA.out.1 (hmm' W hW)
      have HHb' := fun W (hW : Below wr.heap.size wr W) => holds_any ((H3.out.2.1.below HS.out.bel).below hW) HWA.out.2.2.1 (hmm' W hW)
      have HLd' := fun W (hW : Below wr.heap.size wr W) => len_any (hcd.below hW)
      rw [show (((A ++ B).length : Nat) : Int) = (Y : Int) + i by rw [List.length_append, hYe, HZ.out]; simp] at HLd'
      rw [holdsB_app] at HHd'
      obtain ⟨qa, hqa⟩ : ∃ q, holdsB mb A = q := ⟨_, rfl⟩
      obtain ⟨qb, hqb⟩ : ∃ q, holdsB mb B = q := ⟨_, rfl⟩
      rw [hqa, hqb] at HHd'
      rw [hqa] at HHa'
      rw [hqb] at HHb'
      have HHd := Lib.hid HHd'
      have HHa := Lib.hid HHa'
      have HHb := Lib.hid HHb'
      have HLd := Lib.hid HLd'
      have HBel := Lib.hid hbelW
      have HTN := Lib.hid (Tr.nil wr)
      have qa1 := (H3.out.2.2.1.next HS.out.bel).cell (i := 1) rfl
      have qb1 := (H3.out.2.2.2.1.next HS.out.bel).cell (i := 1) rfl
      rw [hYe] at qa1
      rw [HZ.out] at qb1
      have hYi : IntKind.i64.wrap ((Y : Int) + i) = (Y : Int) + i := i64_of (by omega)
      clear hYe hwAB hcd hbelW hmw hmw' hmm' HHd' HHa' HHb' HLd' hqa hqb
      cases qa
      · rw [Bool.false_and] at HHd
        refine wp_region_webC (w0 := wr) [.known (.pointer (some ⟨bd, 0, none⟩)), .known (.slice pm m cm), .known (.bool false), .known (.pointer (some ⟨ba, 0, none⟩)), .known (.slice pm m cm), .known (.bool false), .known (.bool false), .known (undef), .known (undef), .known (undef), .known (.bool false), .known (.bool true), .known (.bool true), .rel (fun v W => ∃ b, v = .pointer (some ⟨b, 0, none⟩) ∧ HasC (fun _ => False) W b (foot b (.slice none 0 0)) (newV 3) []) (fun _ => []), .known (.bool true), .known (.bool true), .known (.bool true), .known (.pointer (some ⟨bd, 0, none⟩)), .known (.int .i64 ((Y : Int) + i)), .known (.pointer (some ⟨ga, 1, none⟩)), .known (.slice psa Y csa), .known (.int .i64 Y), .known (.pointer (some ⟨gb, 1, none⟩)), .known (.slice psb i csb), .known (.int .i64 i), .known (.int .i64 ((Y : Int) + i)), .known (.bool true), .known (.bool true)] [1, 1, 1, 1, 1, 1, 1, 1, 1, 1, 1, 1, 1, 1, 1, 1, 1, 1, 1, 1, 1, 1, 1, 1, 1, 1, 1, 1] [] 81 1 #[true, true, true, true, true, true, true, true, true, true, true, true, true, true, true, true, true, true, true, true, true, true, true, true, true, true, true, true, false] (by kernel_rfl) (by kernel_rfl) rfl rfl rfl (Nat.le_of_ble_eq_true rfl) ⟨Sp.Mono.known, Sp.Mono.known, Sp.Mono.known, Sp.Mono.known, Sp.Mono.known, Sp.Mono.known, Sp.Mono.known, Sp.Mono.known, Sp.Mono.known, Sp.Mono.known, Sp.Mono.known, Sp.Mono.known, Sp.Mono.known, (fun _ _ _ hb ⟨b, e, h⟩ => ⟨b, e, h.below hb⟩), Sp.Mono.known, Sp.Mono.known, Sp.Mono.known, Sp.Mono.known, Sp.Mono.known, Sp.Mono.known, Sp.Mono.known, Sp.Mono.known, Sp.Mono.known, Sp.Mono.known, Sp.Mono.known, Sp.Mono.known, Sp.Mono.known, Sp.Mono.known, trivial⟩ HTN.out.drew (fun _ _ _ _ _ h => h) (A := ?_) ?_ ?_ ?_
        rotate_left
        · intro u
          simp only [fillC, Sp.val, Nat.reduceBEq, cond_false, Act.put, List.setIfInBounds_toArray, List.set_cons_zero, List.set_cons_succ]
          rfl
        refine ob_yes (web_op (o := _) rfl (fun u W hT hd Q K hK => ?_)) ?_
        · (try simp only [Act.put, List.setIfInBounds_toArray, List.set_cons_zero, List.set_cons_succ] at hK)
          have ca1 : W.cell? _ = some _ := After.cell qa1 ⟨W, hT.bel⟩
          have cb1 : W.cell? _ = some _ := After.cell qb1 ⟨W, hT.bel⟩
          go_simp
          exact hK.out _ _ (Below.refl _ _) rfl (fun p hp => by cases hp) List.nodup_nil
        refine ob_yes (web_op (o := _) rfl (fun u W hT hd Q K hK => ?_)) ?_
        · (try simp only [Act.put, List.setIfInBounds_toArray, List.set_cons_zero, List.set_cons_succ] at hK)
          have ca1 : W.cell? _ = some _ := After.cell qa1 ⟨W, hT.bel⟩
          have cb1 : W.cell? _ = some _ := After.cell qb1 ⟨W, hT.bel⟩
          go_simp
          exact hK.out _ _ (Below.refl _ _) rfl (fun p hp => by cases hp) List.nodup_nil
        refine ob_yes (web_op (o := _) rfl (fun u W hT hd Q K hK => ?_)) ?_
        · (try simp only [Act.put, List.setIfInBounds_toArray, List.set_cons_zero, List.set_cons_succ] at hK)
          have ca1 : W.cell? _ = some _ := After.cell qa1 ⟨W, hT.bel⟩
          have cb1 : W.cell? _ = some _ := After.cell qb1 ⟨W, hT.bel⟩
          go_simp
          refine (HHd.out W hT.bel).mono ?_; rintro e W2 ⟨rfl, hb2⟩
          (try go_simp)
          exact hK.out _ _ hb2 rfl (fun p hp => by cases hp) List.nodup_nil
        refine ob_yes (web_op (o := _) rfl (fun u W hT hd Q K hK => ?_)) ?_
        · (try simp only [Act.put, List.setIfInBounds_toArray, List.set_cons_zero, List.set_cons_succ] at hK)
          have ca1 : W.cell? _ = some _ := After.cell qa1 ⟨W, hT.bel⟩
          have cb1 : W.cell? _ = some _ := After.cell qb1 ⟨W, hT.bel⟩
          go_simp
          exact hK.out _ _ (Below.refl _ _) rfl (fun p hp => by cases hp) List.nodup_nil
        refine ob_yes (web_op (o := _) rfl (fun u W hT hd Q K hK => ?_)) ?_
        · (try simp only [Act.put, List.setIfInBounds_toArray, List.set_cons_zero, List.set_cons_succ] at hK)
          have ca1 : W.cell? _ = some _ := After.cell qa1 ⟨W, hT.bel⟩
          have cb1 : W.cell? _ = some _ := After.cell qb1 ⟨W, hT.bel⟩
          go_simp
          exact hK.out _ _ (Below.refl _ _) rfl (fun p hp => by cases hp) List.nodup_nil
        refine ob_yes (web_op (o := _) rfl (fun u W hT hd Q K hK => ?_)) ?_
        · (try simp only [Act.put, List.setIfInBounds_toArray, List.set_cons_zero, List.set_cons_succ] at hK)
          have ca1 : W.cell? _ = some _ := After.cell qa1 ⟨W, hT.bel⟩
          have cb1 : W.cell? _ = some _ := After.cell qb1 ⟨W, hT.bel⟩
          go_simp
          refine (HHa.out W hT.bel).mono ?_; rintro e W2 ⟨rfl, hb2⟩
          (try go_simp)
          exact hK.out _ _ hb2 rfl (fun p hp => by cases hp) List.nodup_nil
        refine ob_yes (web_op (o := _) rfl (fun u W hT hd Q K hK => ?_)) ?_
        · (try simp only [Act.put, List.setIfInBounds_toArray, List.set_cons_zero, List.set_cons_succ] at hK)
          have ca1 : W.cell? _ = some _ := After.cell qa1 ⟨W, hT.bel⟩
          have cb1 : W.cell? _ = some _ := After.cell qb1 ⟨W, hT.bel⟩
          go_simp
          exact hK.out _ _ (Below.refl _ _) rfl (fun p hp => by cases hp) List.nodup_nil
        refine ob_yes (web_op (o := _) rfl (fun u W hT hd Q K hK => ?_)) ?_
        · (try simp only [Act.put, List.setIfInBounds_toArray, List.set_cons_zero, List.set_cons_succ] at hK)
          have ca1 : W.cell? _ = some _ := After.cell qa1 ⟨W, hT.bel⟩
          have cb1 : W.cell? _ = some _ := After.cell qb1 ⟨W, hT.bel⟩
          go_simp
          exact hK.out _ _ (Below.refl _ _) rfl (fun p hp => by cases hp) List.nodup_nil
        refine ob_yes (web_op (o := _) rfl (fun u W hT hd Q K hK => ?_)) ?_
        · (try simp only [Act.put, List.setIfInBounds_toArray, List.set_cons_zero, List.set_cons_succ] at hK)
          have ca1 : W.cell? _ = some _ := After.cell qa1 ⟨W, hT.bel⟩
          have cb1 : W.cell? _ = some _ := After.cell qb1 ⟨W, hT.bel⟩
          go_simp
          exact hK.out _ _ (Below.refl _ _) rfl (fun p hp => by cases hp) List.nodup_nil
        refine ob_yes (web_op (o := _) rfl (fun u W hT hd Q K hK => ?_)) ?_
        · (try simp only [Act.put, List.setIfInBounds_toArray, List.set_cons_zero, List.set_cons_succ] at hK)
          have ca1 : W.cell? _ = some _ := After.cell qa1 ⟨W, hT.bel⟩
          have cb1 : W.cell? _ = some _ := After.cell qb1 ⟨W, hT.bel⟩
          go_simp
          exact hK.out _ _ (Below.refl _ _) rfl (fun p hp => by cases hp) List.nodup_nil
        refine ob_yes (web_op (o := _) rfl (fun u W hT hd Q K hK => ?_)) ?_
        · (try simp only [Act.put, List.setIfInBounds_toArray, List.set_cons_zero, List.set_cons_succ] at hK)
          have ca1 : W.cell? _ = some _ := After.cell qa1 ⟨W, hT.bel⟩
          have cb1 : W.cell? _ = some _ := After.cell qb1 ⟨W, hT.bel⟩
          go_simp
          exact hK.out _ _ (Below.refl _ _) rfl (fun p hp => by cases hp) List.nodup_nil
        refine ob_yes (web_op (o := _) rfl (fun u W hT hd Q K hK => ?_)) ?_
        · (try simp only [Act.put, List.setIfInBounds_toArray, List.set_cons_zero, List.set_cons_succ] at hK)
          have ca1 : W.cell? _ = some _ := After.cell qa1 ⟨W, hT.bel⟩
          have cb1 : W.cell? _ = some _ := After.cell qb1 ⟨W, hT.bel⟩
          go_simp
          exact hK.out _ _ (Below.refl _ _) rfl (fun p hp => by cases hp) List.nodup_nil
        refine ob_yes (web_op (o := _) rfl (fun u W hT hd Q K hK => ?_)) ?_
        · (try simp only [Act.put, List.setIfInBounds_toArray, List.set_cons_zero, List.set_cons_succ] at hK)
          have ca1 : W.cell? _ = some _ := After.cell qa1 ⟨W, hT.bel⟩
          have cb1 : W.cell? _ = some _ := After.cell qb1 ⟨W, hT.bel⟩
          go_simp
          exact hK.out _ _ (Below.refl _ _) rfl (fun p hp => by cases hp) List.nodup_nil
        refine ob_yes (web_op (o := _) rfl (fun u W hT hd Q K hK => ?_)) ?_
        · (try simp only [Act.put, List.setIfInBounds_toArray, List.set_cons_zero, List.set_cons_succ] at hK)
          have ca1 : W.cell? _ = some _ := After.cell qa1 ⟨W, hT.bel⟩
          have cb1 : W.cell? _ = some _ := After.cell qb1 ⟨W, hT.bel⟩
          go_simp
          refine (new_any 3 W).mono ?_; rintro e W2 ⟨rfl, rfl⟩
          (try go_simp)
          exact hK.out _ _ (Below.new _ _) ⟨_, rfl, new_has _ 3 W⟩ (fun p hp => by cases hp) List.nodup_nil
        refine ob_yes (web_op (o := _) rfl (fun u W hT hd Q K hK => ?_)) ?_
        · have d13 := hd 13 (by kernel_rfl)
          generalize u 13 = x13 at *
          obtain ⟨b13, rfl, h13⟩ := d13
          (try simp only [Act.put, List.setIfInBounds_toArray, List.set_cons_zero, List.set_cons_succ] at hK)
          have ca1 : W.cell? _ = some _ := After.cell qa1 ⟨W, hT.bel⟩
          have cb1 : W.cell? _ = some _ := After.cell qb1 ⟨W, hT.bel⟩
          go_simp
          have hc := holds_any h13 (WFC.nil (by decide)) (mv := .slice none 0 0) (mb := []) (RO.nil0 W)
          rw [holdsB_nil] at hc
          refine hc.mono ?_; rintro e W2 ⟨rfl, hb2⟩
          (try go_simp)
          exact hK.out _ _ hb2 rfl (fun p hp => by cases hp) List.nodup_nil
        refine ob_yes (web_op (o := _) rfl (fun u W hT hd Q K hK => ?_)) ?_
        · (try simp only [Act.put, List.setIfInBounds_toArray, List.set_cons_zero, List.set_cons_succ] at hK)
          have ca1 : W.cell? _ = some _ := After.cell qa1 ⟨W, hT.bel⟩
          have cb1 : W.cell? _ = some _ := After.cell qb1 ⟨W, hT.bel⟩
          go_simp
          exact hK.out _ _ (Below.refl _ _) rfl (fun p hp => by cases hp) List.nodup_nil
        refine ob_yes (web_op (o := _) rfl (fun u W hT hd Q K hK => ?_)) ?_
        · (try simp only [Act.put, List.setIfInBounds_toArray, List.set_cons_zero, List.set_cons_succ] at hK)
          have ca1 : W.cell? _ = some _ := After.cell qa1 ⟨W, hT.bel⟩
          have cb1 : W.cell? _ = some _ := After.cell qb1 ⟨W, hT.bel⟩
          go_simp
          exact hK.out _ _ (Below.refl _ _) rfl (fun p hp => by cases hp) List.nodup_nil
        refine ob_yes (web_op (o := _) rfl (fun u W hT hd Q K hK => ?_)) ?_
        · (try simp only [Act.put, List.setIfInBounds_toArray, List.set_cons_zero, List.set_cons_succ] at hK)
          have ca1 : W.cell? _ = some _ := After.cell qa1 ⟨W, hT.bel⟩
          have cb1 : W.cell? _ = some _ := After.cell qb1 ⟨W, hT.bel⟩
          go_simp
          exact hK.out _ _ (Below.refl _ _) rfl (fun p hp => by cases hp) List.nodup_nil
        refine ob_yes (web_op (o := _) rfl (fun u W hT hd Q K hK => ?_)) ?_
        · (try simp only [Act.put, List.setIfInBounds_toArray, List.set_cons_zero, List.set_cons_succ] at hK)
          have ca1 : W.cell? _ = some _ := After.cell qa1 ⟨W, hT.bel⟩
          have cb1 : W.cell? _ = some _ := After.cell qb1 ⟨W, hT.bel⟩
          go_simp
          refine (HLd.out W hT.bel).mono ?_; rintro e W2 ⟨rfl, hb2⟩
          subst hb2
          (try go_simp)
          exact hK.out _ _ (Below.refl _ _) rfl (fun p hp => by cases hp) List.nodup_nil
        refine ob_yes (web_op (o := _) rfl (fun u W hT hd Q K hK => ?_)) ?_
        · (try simp only [Act.put, List.setIfInBounds_toArray, List.set_cons_zero, List.set_cons_succ] at hK)
          have ca1 : W.cell? _ = some _ := After.cell qa1 ⟨W, hT.bel⟩
          have cb1 : W.cell? _ = some _ := After.cell qb1 ⟨W, hT.bel⟩
          go_simp
          exact hK.out _ _ (Below.refl _ _) rfl (fun p hp => by cases hp) List.nodup_nil
        refine ob_yes (web_op (o := _) rfl (fun u W hT hd Q K hK => ?_)) ?_
        · (try simp only [Act.put, List.setIfInBounds_toArray, List.set_cons_zero, List.set_cons_succ] at hK)
          have ca1 : W.cell? _ = some _ := After.cell qa1 ⟨W, hT.bel⟩
          have cb1 : W.cell? _ = some _ := After.cell qb1 ⟨W, hT.bel⟩
          go_simp
          exact hK.out _ _ (Below.refl _ _) rfl (fun p hp => by cases hp) List.nodup_nil
        refine ob_yes (web_op (o := _) rfl (fun u W hT hd Q K hK => ?_)) ?_
        · (try simp only [Act.put, List.setIfInBounds_toArray, List.set_cons_zero, List.set_cons_succ] at hK)
          have ca1 : W.cell? _ = some _ := After.cell qa1 ⟨W, hT.bel⟩
          have cb1 : W.cell? _ = some _ := After.cell qb1 ⟨W, hT.bel⟩
          go_simp
          exact hK.out _ _ (Below.refl _ _) rfl (fun p hp => by cases hp) List.nodup_nil
        refine ob_yes (web_op (o := _) rfl (fun u W hT hd Q K hK => ?_)) ?_
        · (try simp only [Act.put, List.setIfInBounds_toArray, List.set_cons_zero, List.set_cons_succ] at hK)
          have ca1 : W.cell? _ = some _ := After.cell qa1 ⟨W, hT.bel⟩
          have cb1 : W.cell? _ = some _ := After.cell qb1 ⟨W, hT.bel⟩
          go_simp
          exact hK.out _ _ (Below.refl _ _) rfl (fun p hp => by cases hp) List.nodup_nil
        refine ob_yes (web_op (o := _) rfl (fun u W hT hd Q K hK => ?_)) ?_
        · (try simp only [Act.put, List.setIfInBounds_toArray, List.set_cons_zero, List.set_cons_succ] at hK)
          have ca1 : W.cell? _ = some _ := After.cell qa1 ⟨W, hT.bel⟩
          have cb1 : W.cell? _ = some _ := After.cell qb1 ⟨W, hT.bel⟩
          go_simp
          exact hK.out _ _ (Below.refl _ _) rfl (fun p hp => by cases hp) List.nodup_nil
        refine ob_yes (web_op (o := _) rfl (fun u W hT hd Q K hK => ?_)) ?_
        · (try simp only [Act.put, List.setIfInBounds_toArray, List.set_cons_zero, List.set_cons_succ] at hK)
          have ca1 : W.cell? _ = some _ := After.cell qa1 ⟨W, hT.bel⟩
          have cb1 : W.cell? _ = some _ := After.cell qb1 ⟨W, hT.bel⟩
          go_simp
          exact hK.out _ _ (Below.refl _ _) rfl (fun p hp => by cases hp) List.nodup_nil
        refine ob_yes (web_op (o := _) rfl (fun u W hT hd Q K hK => ?_)) ?_
        · (try simp only [Act.put, List.setIfInBounds_toArray, List.set_cons_zero, List.set_cons_succ] at hK)
          have ca1 : W.cell? _ = some _ := After.cell qa1 ⟨W, hT.bel⟩
          have cb1 : W.cell? _ = some _ := After.cell qb1 ⟨W, hT.bel⟩
          go_simp
          exact hK.out _ _ (Below.refl _ _) rfl (fun p hp => by cases hp) List.nodup_nil
        refine ob_yes (web_op (o := _) rfl (fun u W hT hd Q K hK => ?_)) ?_
        · (try simp only [Act.put, List.setIfInBounds_toArray, List.set_cons_zero, List.set_cons_succ] at hK)
          have ca1 : W.cell? _ = some _ := After.cell qa1 ⟨W, hT.bel⟩
          have cb1 : W.cell? _ = some _ := After.cell qb1 ⟨W, hT.bel⟩
          go_simp
          exact hK.out _ _ (Below.refl _ _) rfl (fun p hp => by cases hp) List.nodup_nil
        refine ob_yes (web_op (o := _) rfl (fun u W hT hd Q K hK => ?_)) ?_
        · (try simp only [Act.put, List.setIfInBounds_toArray, List.set_cons_zero, List.set_cons_succ] at hK)
          have ca1 : W.cell? _ = some _ := After.cell qa1 ⟨W, hT.bel⟩
          have cb1 : W.cell? _ = some _ := After.cell qb1 ⟨W, hT.bel⟩
          go_simp
          exact hK.out _ _ (Below.refl _ _) rfl (fun p hp => by cases hp) List.nodup_nil
        exact ob_nil
        intro u wx hT hok
        obtain ⟨h0, h1, h2, h3, h4, h5, h6, h7, h8, h9, h10, h11, h12, h13, h14, h15, h16, h17, h18, h19, h20, h21, h22, h23, h24, h25, h26, h27, _⟩ := hok
        clear h0 h1 h2 h3 h4 h5 h6 h7 h8 h9 h10 h11 h12 h14 h15 h16 h17 h18 h19 h20 h21 h22 h23 h24 h25 h26 h27
        simp only [ownsC, Sp.own, Nat.reduceBEq, cond_false, List.append_nil] at hT
        have d13 := h13 (by kernel_rfl)
        clear h13
        generalize u 13 = x13 at *
        obtain ⟨b13, rfl, h13⟩ := d13
        (try dsimp only [List.nil_append, List.cons_append] at hT)
        have HTE := Lib.hid hT
        clear hT
        refine wpAny_of_held (S := fun _ => True) _ _ _ _ ?_
        refine held_take (i := 28) (v := ?_) rfl (by kernel_rfl) (by kernel_rfl) (by kernel_rfl) (fun _ _ _ h => h) (Or.inl ⟨by rfl, ?_⟩) trivial ?_
        rotate_left
        · intro w hSw; go_simp; (try with_reducible rfl)
        (try simp only [Act.put, List.setIfInBounds_toArray, List.set_cons_zero, List.set_cons_succ])
        refine wpAnyH_done (by kernel_rfl) ?_ _
        go_wp2_with fail
        go_ret
        exact ⟨rfl, HBel.out.trans (HTE.out.bel.mono HBel.out.size)⟩
      · rw [Bool.true_and] at HHd
        refine wp_region_webC (w0 := wr) [.known (.pointer (some ⟨bd, 0, none⟩)), .known (.slice pm m cm), .known (.bool qb), .known (.pointer (some ⟨ba, 0, none⟩)), .known (.slice pm m cm), .known (.bool true), .known (.bool true), .known (.pointer (some ⟨bb, 0, none⟩)), .known (.slice pm m cm), .known (.bool qb), .known (.bool qb), .known (.bool true), .known (.bool true), .rel (fun v W => ∃ b, v = .pointer (some ⟨b, 0, none⟩) ∧ HasC (fun _ => False) W b (foot b (.slice none 0 0)) (newV 3) []) (fun _ => []), .known (.bool true), .known (.bool true), .known (.bool true), .known (.pointer (some ⟨bd, 0, none⟩)), .known (.int .i64 ((Y : Int) + i)), .known (.pointer (some ⟨ga, 1, none⟩)), .known (.slice psa Y csa), .known (.int .i64 Y), .known (.pointer (some ⟨gb, 1, none⟩)), .known (.slice psb i csb), .known (.int .i64 i), .known (.int .i64 ((Y : Int) + i)), .known (.bool true), .known (.bool true)] [1, 1, 1, 1, 1, 1, 1, 1, 1, 1, 1, 1, 1, 1, 1, 1, 1, 1, 1, 1, 1, 1, 1, 1, 1, 1, 1, 1] [] 81 1 #[true, true, true, true, true, true, true, true, true, true, true, true, true, true, true, true, true, true, true, true, true, true, true, true, true, true, true, true, false] (by kernel_rfl) (by kernel_rfl) rfl rfl rfl (Nat.le_of_ble_eq_true rfl) ⟨Sp.Mono.known, Sp.Mono.known, Sp.Mono.known, Sp.Mono.known, Sp.Mono.known, Sp.Mono.known, Sp.Mono.known, Sp.Mono.known, Sp.Mono.known, Sp.Mono.known, Sp.Mono.known, Sp.Mono.known, Sp.Mono.known, (fun _ _ _ hb ⟨b, e, h⟩ => ⟨b, e, h.below hb⟩), Sp.Mono.known, Sp.Mono.known, Sp.Mono.known, Sp.Mono.known, Sp.Mono.known, Sp.Mono.known, Sp.Mono.known, Sp.Mono.known, Sp.Mono.known, Sp.Mono.known, Sp.Mono.known, Sp.Mono.known, Sp.Mono.known, Sp.Mono.known, trivial⟩ HTN.out.drew (fun _ _ _ _ _ h => h) (A := ?_) ?_ ?_ ?_
        rotate_left
        · intro u
          simp only [fillC, Sp.val, Nat.reduceBEq, cond_false, Act.put, List.setIfInBounds_toArray, List.set_cons_zero, List.set_cons_succ]
          rfl
        refine ob_yes (web_op (o := _) rfl (fun u W hT hd Q K hK => ?_)) ?_
        · (try simp only [Act.put, List.setIfInBounds_toArray, List.set_cons_zero, List.set_cons_succ] at hK)
          have ca1 : W.cell? _ = some _ := After.cell qa1 ⟨W, hT.bel⟩
          have cb1 : W.cell? _ = some _ := After.cell qb1 ⟨W, hT.bel⟩
          go_simp
          exact hK.out _ _ (Below.refl _ _) rfl (fun p hp => by cases hp) List.nodup_nil
        refine ob_yes (web_op (o := _) rfl (fun u W hT hd Q K hK => ?_)) ?_
        · (try simp only [Act.put, List.setIfInBounds_toArray, List.set_cons_zero, List.set_cons_succ] at hK)
          have ca1 : W.cell? _ = some _ := After.cell qa1 ⟨W, hT.bel⟩
          have cb1 : W.cell? _ = some _ := After.cell qb1 ⟨W, hT.bel⟩
          go_simp
          exact hK.out _ _ (Below.refl _ _) rfl (fun p hp => by cases hp) List.nodup_nil
        refine ob_yes (web_op (o := _) rfl (fun u W hT hd Q K hK => ?_)) ?_
        · (try simp only [Act.put, List.setIfInBounds_toArray, List.set_cons_zero, List.set_cons_succ] at hK)
          have ca1 : W.cell? _ = some _ := After.cell qa1 ⟨W, hT.bel⟩
          have cb1 : W.cell? _ = some _ := After.cell qb1 ⟨W, hT.bel⟩
          go_simp
          refine (HHd.out W hT.bel).mono ?_; rintro e W2 ⟨rfl, hb2⟩
          (try go_simp)
          exact hK.out _ _ hb2 rfl (fun p hp => by cases hp) List.nodup_nil
        refine ob_yes (web_op (o := _) rfl (fun u W hT hd Q K hK => ?_)) ?_
        · (try simp only [Act.put, List.setIfInBounds_toArray, List.set_cons_zero, List.set_cons_succ] at hK)
          have ca1 : W.cell? _ = some _ := After.cell qa1 ⟨W, hT.bel⟩
          have cb1 : W.cell? _ = some _ := After.cell qb1 ⟨W, hT.bel⟩
          go_simp
          exact hK.out _ _ (Below.refl _ _) rfl (fun p hp => by cases hp) List.nodup_nil
        refine ob_yes (web_op (o := _) rfl (fun u W hT hd Q K hK => ?_)) ?_
        · (try simp only [Act.put, List.setIfInBounds_toArray, List.set_cons_zero, List.set_cons_succ] at hK)
          have ca1 : W.cell? _ = some _ := After.cell qa1 ⟨W, hT.bel⟩
          have cb1 : W.cell? _ = some _ := After.cell qb1 ⟨W, hT.bel⟩
          go_simp
          exact hK.out _ _ (Below.refl _ _) rfl (fun p hp => by cases hp) List.nodup_nil
        refine ob_yes (web_op (o := _) rfl (fun u W hT hd Q K hK => ?_)) ?_
        · (try simp only [Act.put, List.setIfInBounds_toArray, List.set_cons_zero, List.set_cons_succ] at hK)
          have ca1 : W.cell? _ = some _ := After.cell qa1 ⟨W, hT.bel⟩
          have cb1 : W.cell? _ = some _ := After.cell qb1 ⟨W, hT.bel⟩
          go_simp
          refine (HHa.out W hT.bel).mono ?_; rintro e W2 ⟨rfl, hb2⟩
          (try go_simp)
          exact hK.out _ _ hb2 rfl (fun p hp => by cases hp) List.nodup_nil
        refine ob_yes (web_op (o := _) rfl (fun u W hT hd Q K hK => ?_)) ?_
        · (try simp only [Act.put, List.setIfInBounds_toArray, List.set_cons_zero, List.set_cons_succ] at hK)
          have ca1 : W.cell? _ = some _ := After.cell qa1 ⟨W, hT.bel⟩
          have cb1 : W.cell? _ = some _ := After.cell qb1 ⟨W, hT.bel⟩
          go_simp
          exact hK.out _ _ (Below.refl _ _) rfl (fun p hp => by cases hp) List.nodup_nil
        refine ob_yes (web_op (o := _) rfl (fun u W hT hd Q K hK => ?_)) ?_
        · (try simp only [Act.put, List.setIfInBounds_toArray, List.set_cons_zero, List.set_cons_succ] at hK)
          have ca1 : W.cell? _ = some _ := After.cell qa1 ⟨W, hT.bel⟩
          have cb1 : W.cell? _ = some _ := After.cell qb1 ⟨W, hT.bel⟩
          go_simp
          exact hK.out _ _ (Below.refl _ _) rfl (fun p hp => by cases hp) List.nodup_nil
        refine ob_yes (web_op (o := _) rfl (fun u W hT hd Q K hK => ?_)) ?_
        · (try simp only [Act.put, List.setIfInBounds_toArray, List.set_cons_zero, List.set_cons_succ] at hK)
          have ca1 : W.cell? _ = some _ := After.cell qa1 ⟨W, hT.bel⟩
          have cb1 : W.cell? _ = some _ := After.cell qb1 ⟨W, hT.bel⟩
          go_simp
          exact hK.out _ _ (Below.refl _ _) rfl (fun p hp => by cases hp) List.nodup_nil
        refine ob_yes (web_op (o := _) rfl (fun u W hT hd Q K hK => ?_)) ?_
        · (try simp only [Act.put, List.setIfInBounds_toArray, List.set_cons_zero, List.set_cons_succ] at hK)
          have ca1 : W.cell? _ = some _ := After.cell qa1 ⟨W, hT.bel⟩
          have cb1 : W.cell? _ = some _ := After.cell qb1 ⟨W, hT.bel⟩
          go_simp
          refine (HHb.out W hT.bel).mono ?_; rintro e W2 ⟨rfl, hb2⟩
          (try go_simp)
          exact hK.out _ _ hb2 rfl (fun p hp => by cases hp) List.nodup_nil
        refine ob_yes (web_op (o := _) rfl (fun u W hT hd Q K hK => ?_)) ?_
        · (try simp only [Act.put, List.setIfInBounds_toArray, List.set_cons_zero, List.set_cons_succ] at hK)
          have ca1 : W.cell? _ = some _ := After.cell qa1 ⟨W, hT.bel⟩
          have cb1 : W.cell? _ = some _ := After.cell qb1 ⟨W, hT.bel⟩
          go_simp
          exact hK.out _ _ (Below.refl _ _) rfl (fun p hp => by cases hp) List.nodup_nil
        refine ob_yes (web_op (o := _) rfl (fun u W hT hd Q K hK => ?_)) ?_
        · (try simp only [Act.put, List.setIfInBounds_toArray, List.set_cons_zero, List.set_cons_succ] at hK)
          have ca1 : W.cell? _ = some _ := After.cell qa1 ⟨W, hT.bel⟩
          have cb1 : W.cell? _ = some _ := After.cell qb1 ⟨W, hT.bel⟩
          go_simp
          exact hK.out _ _ (Below.refl _ _) rfl (fun p hp => by cases hp) List.nodup_nil
        refine ob_yes (web_op (o := _) rfl (fun u W hT hd Q K hK => ?_)) ?_
        · (try simp only [Act.put, List.setIfInBounds_toArray, List.set_cons_zero, List.set_cons_succ] at hK)
          have ca1 : W.cell? _ = some _ := After.cell qa1 ⟨W, hT.bel⟩
          have cb1 : W.cell? _ = some _ := After.cell qb1 ⟨W, hT.bel⟩
          go_simp
          exact hK.out _ _ (Below.refl _ _) rfl (fun p hp => by cases hp) List.nodup_nil
        refine ob_yes (web_op (o := _) rfl (fun u W hT hd Q K hK => ?_)) ?_
        · (try simp only [Act.put, List.setIfInBounds_toArray, List.set_cons_zero, List.set_cons_succ] at hK)
          have ca1 : W.cell? _ = some _ := After.cell qa1 ⟨W, hT.bel⟩
          have cb1 : W.cell? _ = some _ := After.cell qb1 ⟨W, hT.bel⟩
          go_simp
          refine (new_any 3 W).mono ?_; rintro e W2 ⟨rfl, rfl⟩
          (try go_simp)
          exact hK.out _ _ (Below.new _ _) ⟨_, rfl, new_has _ 3 W⟩ (fun p hp => by cases hp) List.nodup_nil
        refine ob_yes (web_op (o := _) rfl (fun u W hT hd Q K hK => ?_)) ?_
        · have d13 := hd 13 (by kernel_rfl)
          generalize u 13 = x13 at *
          obtain ⟨b13, rfl, h13⟩ := d13
          (try simp only [Act.put, List.setIfInBounds_toArray, List.set_cons_zero, List.set_cons_succ] at hK)
          have ca1 : W.cell? _ = some _ := After.cell qa1 ⟨W, hT.bel⟩
          have cb1 : W.cell? _ = some _ := After.cell qb1 ⟨W, hT.bel⟩
          go_simp
          have hc := holds_any h13 (WFC.nil (by decide)) (mv := .slice none 0 0) (mb := []) (RO.nil0 W)
          rw [holdsB_nil] at hc
          refine hc.mono ?_; rintro e W2 ⟨rfl, hb2⟩
          (try go_simp)
          exact hK.out _ _ hb2 rfl (fun p hp => by cases hp) List.nodup_nil
        refine ob_yes (web_op (o := _) rfl (fun u W hT hd Q K hK => ?_)) ?_
        · (try simp only [Act.put, List.setIfInBounds_toArray, List.set_cons_zero, List.set_cons_succ] at hK)
          have ca1 : W.cell? _ = some _ := After.cell qa1 ⟨W, hT.bel⟩
          have cb1 : W.cell? _ = some _ := After.cell qb1 ⟨W, hT.bel⟩
          go_simp
          exact hK.out _ _ (Below.refl _ _) rfl (fun p hp => by cases hp) List.nodup_nil
        refine ob_yes (web_op (o := _) rfl (fun u W hT hd Q K hK => ?_)) ?_
        · (try simp only [Act.put, List.setIfInBounds_toArray, List.set_cons_zero, List.set_cons_succ] at hK)
          have ca1 : W.cell? _ = some _ := After.cell qa1 ⟨W, hT.bel⟩
          have cb1 : W.cell? _ = some _ := After.cell qb1 ⟨W, hT.bel⟩
          go_simp
          exact hK.out _ _ (Below.refl _ _) rfl (fun p hp => by cases hp) List.nodup_nil
        refine ob_yes (web_op (o := _) rfl (fun u W hT hd Q K hK => ?_)) ?_
        · (try simp only [Act.put, List.setIfInBounds_toArray, List.set_cons_zero, List.set_cons_succ] at hK)
          have ca1 : W.cell? _ = some _ := After.cell qa1 ⟨W, hT.bel⟩
          have cb1 : W.cell? _ = some _ := After.cell qb1 ⟨W, hT.bel⟩
          go_simp
          exact hK.out _ _ (Below.refl _ _) rfl (fun p hp => by cases hp) List.nodup_nil
        refine ob_yes (web_op (o := _) rfl (fun u W hT hd Q K hK => ?_)) ?_
        · (try simp only [Act.put, List.setIfInBounds_toArray, List.set_cons_zero, List.set_cons_succ] at hK)
          have ca1 : W.cell? _ = some _ := After.cell qa1 ⟨W, hT.bel⟩
          have cb1 : W.cell? _ = some _ := After.cell qb1 ⟨W, hT.bel⟩
          go_simp
          refine (HLd.out W hT.bel).mono ?_; rintro e W2 ⟨rfl, hb2⟩
          subst hb2
          (try go_simp)
          exact hK.out _ _ (Below.refl _ _) rfl (fun p hp => by cases hp) List.nodup_nil
        refine ob_yes (web_op (o := _) rfl (fun u W hT hd Q K hK => ?_)) ?_
        · (try simp only [Act.put, List.setIfInBounds_toArray, List.set_cons_zero, List.set_cons_succ] at hK)
          have ca1 : W.cell? _ = some _ := After.cell qa1 ⟨W, hT.bel⟩
          have cb1 : W.cell? _ = some _ := After.cell qb1 ⟨W, hT.bel⟩
          go_simp
          exact hK.out _ _ (Below.refl _ _) rfl (fun p hp => by cases hp) List.nodup_nil
        refine ob_yes (web_op (o := _) rfl (fun u W hT hd Q K hK => ?_)) ?_
        · (try simp only [Act.put, List.setIfInBounds_toArray, List.set_cons_zero, List.set_cons_succ] at hK)
          have ca1 : W.cell? _ = some _ := After.cell qa1 ⟨W, hT.bel⟩
          have cb1 : W.cell? _ = some _ := After.cell qb1 ⟨W, hT.bel⟩
          go_simp
          exact hK.out _ _ (Below.refl _ _) rfl (fun p hp => by cases hp) List.nodup_nil
        refine ob_yes (web_op (o := _) rfl (fun u W hT hd Q K hK => ?_)) ?_
        · (try simp only [Act.put, List.setIfInBounds_toArray, List.set_cons_zero, List.set_cons_succ] at hK)
          have ca1 : W.cell? _ = some _ := After.cell qa1 ⟨W, hT.bel⟩
          have cb1 : W.cell? _ = some _ := After.cell qb1 ⟨W, hT.bel⟩
          go_simp
          exact hK.out _ _ (Below.refl _ _) rfl (fun p hp => by cases hp) List.nodup_nil
        refine ob_yes (web_op (o := _) rfl (fun u W hT hd Q K hK => ?_)) ?_
        · (try simp only [Act.put, List.setIfInBounds_toArray, List.set_cons_zero, List.set_cons_succ] at hK)
          have ca1 : W.cell? _ = some _ := After.cell qa1 ⟨W, hT.bel⟩
          have cb1 : W.cell? _ = some _ := After.cell qb1 ⟨W, hT.bel⟩
          go_simp
          exact hK.out _ _ (Below.refl _ _) rfl (fun p hp => by cases hp) List.nodup_nil
        refine ob_yes (web_op (o := _) rfl (fun u W hT hd Q K hK => ?_)) ?_
        · (try simp only [Act.put, List.setIfInBounds_toArray, List.set_cons_zero, List.set_cons_succ] at hK)
          have ca1 : W.cell? _ = some _ := After.cell qa1 ⟨W, hT.bel⟩
          have cb1 : W.cell? _ = some _ := After.cell qb1 ⟨W, hT.bel⟩
          go_simp
          exact hK.out _ _ (Below.refl _ _) rfl (fun p hp => by cases hp) List.nodup_nil
        refine ob_yes (web_op (o := _) rfl (fun u W hT hd Q K hK => ?_)) ?_
        · (try simp only [Act.put, List.setIfInBounds_toArray, List.set_cons_zero, List.set_cons_succ] at hK)
          have ca1 : W.cell? _ = some _ := After.cell qa1 ⟨W, hT.bel⟩
          have cb1 : W.cell? _ = some _ := After.cell qb1 ⟨W, hT.bel⟩
          go_simp
          exact hK.out _ _ (Below.refl _ _) rfl (fun p hp => by cases hp) List.nodup_nil
        refine ob_yes (web_op (o := _) rfl (fun u W hT hd Q K hK => ?_)) ?_
        · (try simp only [Act.put, List.setIfInBounds_toArray, List.set_cons_zero, List.set_cons_succ] at hK)
          have ca1 : W.cell? _ = some _ := After.cell qa1 ⟨W, hT.bel⟩
          have cb1 : W.cell? _ = some _ := After.cell qb1 ⟨W, hT.bel⟩
          go_simp
          exact hK.out _ _ (Below.refl _ _) rfl (fun p hp => by cases hp) List.nodup_nil
        refine ob_yes (web_op (o := _) rfl (fun u W hT hd Q K hK => ?_)) ?_
        · (try simp only [Act.put, List.setIfInBounds_toArray, List.set_cons_zero, List.set_cons_succ] at hK)
          have ca1 : W.cell? _ = some _ := After.cell qa1 ⟨W, hT.bel⟩
          have cb1 : W.cell? _ = some _ := After.cell qb1 ⟨W, hT.bel⟩
          go_simp
          exact hK.out _ _ (Below.refl _ _) rfl (fun p hp => by cases hp) List.nodup_nil
        refine ob_yes (web_op (o := _) rfl (fun u W hT hd Q K hK => ?_)) ?_
        · (try simp only [Act.put, List.setIfInBounds_toArray, List.set_cons_zero, List.set_cons_succ] at hK)
          have ca1 : W.cell? _ = some _ := After.cell qa1 ⟨W, hT.bel⟩
          have cb1 : W.cell? _ = some _ := After.cell qb1 ⟨W, hT.bel⟩
          go_simp
          exact hK.out _ _ (Below.refl _ _) rfl (fun p hp => by cases hp) List.nodup_nil
        exact ob_nil
        intro u wx hT hok
        obtain ⟨h0, h1, h2, h3, h4, h5, h6, h7, h8, h9, h10, h11, h12, h13, h14, h15, h16, h17, h18, h19, h20, h21, h22, h23, h24, h25, h26, h27, _⟩ := hok
        clear h0 h1 h2 h3 h4 h5 h6 h7 h8 h9 h10 h11 h12 h14 h15 h16 h17 h18 h19 h20 h21 h22 h23 h24 h25 h26 h27
        simp only [ownsC, Sp.own, Nat.reduceBEq, cond_false, List.append_nil] at hT
        have d13 := h13 (by kernel_rfl)
        clear h13
        generalize u 13 = x13 at *
        obtain ⟨b13, rfl, h13⟩ := d13
        (try dsimp only [List.nil_append, List.cons_append] at hT)
        have HTE := Lib.hid hT
        clear hT
        refine wpAny_of_held (S := fun _ => True) _ _ _ _ ?_
        refine held_take (i := 28) (v := ?_) rfl (by kernel_rfl) (by kernel_rfl) (by kernel_rfl) (fun _ _ _ h => h) (Or.inl ⟨by rfl, ?_⟩) trivial ?_
        rotate_left
        · intro w hSw; go_simp; (try with_reducible rfl)
        (try simp only [Act.put, List.setIfInBounds_toArray, List.set_cons_zero, List.set_cons_succ])
        refine wpAnyH_done (by kernel_rfl) ?_ _
        go_wp2_with fail
        go_ret
        exact ⟨rfl, HBel.out.trans (HTE.out.bel.mono HBel.out.size)⟩
end Go.Proofs.YtcifiibpiooeiaaDoor
