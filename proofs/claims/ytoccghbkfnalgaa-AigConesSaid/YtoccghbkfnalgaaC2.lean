import Derived.Test.YtoccghbkfnalgaaC1
import Derived.Test.YtoccghbkfnalgaaB7
namespace Go.Proofs.Ytoccghbkfnalgaa
set_option linter.unusedVariables false
open Go.RowKit

theorem plain_kinds (l : List Actn) : ∀ k, k < (plainActs l).length → 0 ≤ ((plainActs l).getD k default).kind ∧ ((plainActs l).getD k default).kind ≤ 5 := by
  intro k hk
  rw [List.getD, List.getElem?_eq_getElem hk]
  simp only [Option.getD_some, plainActs, List.getElem_map, plainAct]
  omega

theorem plain_len (l : List Actn) : (plainActs l).length ≤ 60 := by simp [plainActs]; omega

theorem is_quiet (w : World) (v : Value) (vals : List Bool) (l : Int) (b : Bool) (hv : RO w v 1 vals.length (bools vals)) (hb : l < 2^62) (h : isV vals l = b) :
    Calls Try.prog 19 #[v, .int .i64 l] w fun e w' => e = .returned (.bool b) ∧ w' = w :=
  (is_any w v vals l hv hb).mono fun _ _ ⟨a, c⟩ => ⟨by rw [a, h], c.symm⟩

theorem is_same (w : World) (v : Value) (vals : List Bool) (l : Int) (b : Bool) (hv : RO w v 1 vals.length (bools vals)) (hb : l < 2^62) (h : isV vals l = b) :
    Calls Try.prog 19 #[v, .int .i64 l] w fun e w' => e = .returned (.bool b) ∧ w = w' :=
  (is_any w v vals l hv hb).mono fun _ _ ⟨a, c⟩ => ⟨by rw [a, h], c⟩

theorem nodes_small (acts : List Actn) (hl : acts.length ≤ 200) : ∀ k, k < (buildTo acts acts.length).1.nodes.length → ((buildTo acts acts.length).1.nodes.getD k (0, 0)).1 ≠ -1 → ((buildTo acts acts.length).1.nodes.getD k (0, 0)).1 < 2^62 ∧ ((buildTo acts acts.length).1.nodes.getD k (0, 0)).2 < 2^62 := by
  intro k hk hne
  have h := (build_wf acts acts.length).node k hk hne
  have := (build_inv acts acts.length).hi
  omega

set_option maxHeartbeats 2000000 in
theorem means_any (w : World) (va vin : Value) (acts : List Actn) (ins : List Bool) (ha : RO w va 4 acts.length (actCells acts)) (hv : RO w vin 1 ins.length (bools ins)) (hal : acts.length ≤ 9223372036854775807) (hins : ins.length ≤ 9223372036854775807) :
    Calls Try.prog 4 #[va, vin] w fun e w' => e = .returned (.bool true) ∧ Below w.heap.size w w' := by
  have HA := Lib.hid (awake_any w)
  have H := Lib.hid (And.intro ha (And.intro hv (And.intro hal hins)))
  clear ha hv hal hins
  go_enter Try.func4, Try.ntmps4
  go_wp2_with fail
  refine HA.out.mono ?_
  rintro e w1 ⟨rfl, hb1⟩
  have K1 := Lib.hid hb1
  clear hb1
  go_wp2_with fail
  refine (plain_any w1 va acts (H.out.1.below K1.out) H.out.2.2.1).mono ?_
  rintro e w2 ⟨vp, rfl, hp, hb2⟩
  have K2 := Lib.hid (And.intro hp (K1.out.trans (hb2.mono K1.out.size)))
  have hpl := Lib.hid (plain_len acts)
  have hpk := Lib.hid (plain_kinds acts)
  clear hp hb2
  generalize plainActs acts = P at *
  go_wp2_with fail
  refine (build_any w2 vp P K2.out.1 (by have := hpl.out; omega) hpk.out).mono ?_
  rintro e w3 ⟨bg, F, vl, rfl, hG3, hl3, hf3, hF3, hb3⟩
  have K3 := Lib.hid (And.intro hG3 (And.intro hl3 (And.intro hf3 (And.intro hF3 (And.intro hb3 (K2.out.2.trans (hb3.mono K2.out.2.size)))))))
  clear hG3 hl3 hf3 hF3 hb3
  go_wp2_with fail
  refine (refEval_any w3 vp vin P ins (K2.out.1.below K3.out.2.2.2.2.1) (H.out.2.1.below K3.out.2.2.2.2.2) (by have := hpl.out; omega) H.out.2.2.2 hpk.out).mono ?_
  rintro e w4 ⟨vw, rfl, hw4, hb4⟩
  obtain ⟨pl, cl, rfl⟩ := ownsRow_form K3.out.2.1
  obtain ⟨pw, cw, rfl⟩ := hw4.form
  have K4 := Lib.hid (And.intro hw4 hb4)
  clear hw4 hb4
  go_wp2_with fail
  have hG4 : HasG w4 bg F (buildTo P P.length).1 := by
    obtain ⟨vn, vi, bm, hG, rfl⟩ := K3.out.1
    exact ⟨_, _, _, hG.below K4.out.2, rfl⟩
  have hinv := build_inv P P.length
  have hwf := build_wf P P.length
  refine (eval_any w4 bg F _ vin ins hG4 (by have := hinv.hi; have := hpl.out; omega) (H.out.2.1.below (K3.out.2.2.2.2.2.trans (K4.out.2.mono K3.out.2.2.2.2.2.size))) (by have := hinv.il; have := hpl.out; omega) H.out.2.2.2 (fun k hk => by have := hwf.inp k hk; omega) (nodes_small P (by have := hpl.out; omega))).mono ?_
  rintro e w5 ⟨vv, rfl, hv5, hb5⟩
  have hG5 : HasG w5 bg F (buildTo P P.length).1 := by
    obtain ⟨vn, vi, bm, hG, rfl⟩ := hG4
    exact ⟨_, _, _, hG.below hb5, rfl⟩
  have K5 := Lib.hid (And.intro hv5 (And.intro hG5 hb5))
  have HLn := Lib.hid (len_has hG5)
  obtain ⟨pv, cv, rfl⟩ := hv5.form
  have hev := eval_valu _ hwf ins
  have hne := hwf.pos
  have hlen5 := hev.2
  have Q1 := Lib.hid (is_same w5 _ _ (-1) false hv5 (by omega) (by simp [isV]))
  have Q2 := Lib.hid (is_same w5 _ _ (2 * ((buildTo P P.length).1.nodes.length : Int)) false hv5 (by have := hinv.hi; have := hpl.out; omega) (by simp [isV, hlen5]))
  have Q3 := Lib.hid (is_same w5 _ _ 0 false hv5 (by omega) (isV_zero (by omega) hev.1.zero))
  have Q4 := Lib.hid (is_same w5 _ _ 1 true hv5 (by omega) (isV_one (by omega) hev.1.zero))
  have hn1 : ((buildTo P P.length).1.nodes.length : Int) ≤ 1000 := by have := hinv.hi; have := hpl.out; omega
  rw [hlen5]
  rw [hlen5] at Q1 Q2 Q3 Q4
  have HX := Lib.hid (And.intro hlen5 (And.intro hne (And.intro hinv hwf)))
  clear hG4 hinv hwf hv5 hb5 hG5 hev hne hlen5
  generalize hN : (buildTo P P.length).1.nodes.length = N at HLn Q1 Q2 Q3 Q4 hn1 ⊢
  have hN := Lib.hid hN
  go_wp2_with fail
  refine HLn.out.mono ?_
  rintro e w' ⟨rfl, rfl⟩
  go_wp2_with fail
  refine Q1.out.mono ?_
  rintro e w' ⟨rfl, rfl⟩
  go_wp2_with fail
  refine HLn.out.mono ?_
  rintro e w' ⟨rfl, rfl⟩
  go_wp2_with fail
  refine Q2.out.mono ?_
  rintro e w' ⟨rfl, rfl⟩
  go_wp2_with fail
  refine Q3.out.mono ?_
  rintro e w' ⟨rfl, rfl⟩
  go_wp2_with fail
  refine Q4.out.mono ?_
  rintro e w' ⟨rfl, rfl⟩
  go_wp2_with fail
  have hBw : Below w3.heap.size w3 w5 := K4.out.2.trans (K5.out.2.2.mono K4.out.2.size)
  have hrl := (RO.own K3.out.2.1).below hBw
  have hrw := K4.out.1.below K5.out.2.2
  have KF := Lib.hid (And.intro hrl (And.intro hrw (And.intro K5.out.1 (K3.out.2.2.2.2.2.trans (hBw.mono K3.out.2.2.2.2.2.size)))))
  clear hBw hrl hrw
  have hpl2 : (P.length : Int) ≤ 60 := by have := hpl.out; omega
  have hlen5 := HX.out.1
  go_loopw [57] (fun i wr => ∃ k : Nat, k ≤ P.length ∧ i = .int .i64 k ∧ Below w5.heap.size w5 wr) (fun i _ => P.length - (intOf i).toNat)
  case atStart => exact ⟨0, Nat.zero_le _, rfl, Below.refl _ _⟩
  case round =>
    obtain ⟨k, hk, rfl, hbel⟩ := hrel
    have HB := Lib.hid hbel
    by_cases hlt : k < P.length
    · obtain ⟨hm1, hm2⟩ := means P ins k hlt _ rfl
      have hL := build_inv P P.length
      have hc1 := ((KF.out.1.below hbel)).get (ints_at _ k (by rw [hL.len]; exact hlt))
      have hc2 := ((KF.out.2.1.below hbel)).get (bools_at (refTo P ins P.length).1 k (by rw [refTo_length]; exact hlt))
      obtain ⟨bl, ol, cl', el, hc1⟩ := hc1
      obtain ⟨rfl, rfl⟩ : pl = some ⟨bl, ol, none⟩ ∧ cl = cl' := by simpa using el
      obtain ⟨bw, ow, cw', ew, hc2⟩ := hc2
      obtain ⟨rfl, rfl⟩ : pw = some ⟨bw, ow, none⟩ ∧ cw = cw' := by simpa using ew
      have hl0 := hm2.1
      have hl1 : (buildTo P P.length).2.getD k 0 < 2^40 := by have := hm2.2; have := hL.hi; omega
      have hvt := isV_tnot (V := gEval (buildTo P P.length).1 ins) hl0 (by rw [hlen5]; exact hm2.2)
      rw [hm1] at hvt
      have hro := KF.out.2.2.1.below hbel
      rw [hlen5] at hro
      clear hm2 el ew hL
      have HT : tnot ((buildTo P P.length).2.getD k 0) < 2^62 := by unfold tnot; split <;> omega
      generalize (buildTo P P.length).2.getD k 0 = L at *
      generalize (refTo P ins P.length).1.getD k false = W at *
      have I1 : Hid (∀ n, Calls Try.prog 19 #[Value.slice pv N cv, .int .i64 L] (wr.drewN n) fun e w' => e = .returned (.bool W) ∧ w' = wr.drewN n) := Lib.hid fun n => by
        have := is_quiet (wr.drewN n) (Value.slice pv N cv) (gEval (buildTo P P.length).1 ins) L W (by rw [hlen5]; have h := hro.below (below_drewN n); rw [hN.out] at h ⊢; exact h) (by omega) hm1
        exact this
      have I2 : Hid (∀ n, Calls Try.prog 12 #[.int .i64 L] (wr.drewN n) fun e w' => e = .returned (.int .i64 (tnot L)) ∧ w' = wr.drewN n) := Lib.hid fun n => (not_quiet L _ hl0 (by omega))
      have I3 : Hid (∀ n, Calls Try.prog 19 #[Value.slice pv N cv, .int .i64 (tnot L)] (wr.drewN n) fun e w' => e = .returned (.bool (!W)) ∧ w' = wr.drewN n) := Lib.hid fun n => by
        exact is_quiet (wr.drewN n) (Value.slice pv N cv) (gEval (buildTo P P.length).1 ins) (tnot L) (!W) (by rw [hlen5]; have h := hro.below (below_drewN n); rw [hN.out] at h ⊢; exact h) HT hvt
      clear hm1 hvt hro hlen5 hbel HT
      go_wp2_with fail
      cases W
      all_goals
        go_quiet ((first | (go_at_call_of 19 (Value.int .i64 (tnot L)); exact Calls.quiet_of_same (I3.out _)) | (go_at_call_of 19 (Value.int .i64 L); exact Calls.quiet_of_same (I1.out _)) | (go_at_call 12; exact Calls.quiet_of_same (I2.out _))))
        go_wp2_with fail
        go_roundw
        case rel => exact ⟨k + 1, hlt, by go_num, HB.out.trans (below_drewN _)⟩
        case measure => simp [intOf]; omega
    · obtain rfl : k = P.length := by omega
      go_wp2_with fail
      go_ret
      exact ⟨rfl, KF.out.2.2.2.trans (HB.out.mono KF.out.2.2.2.size)⟩
end Go.Proofs.Ytoccghbkfnalgaa
