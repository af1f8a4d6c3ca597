import Derived.Test.YtoccghbkfnalgaaC2
import Derived.Test.YtoccghbkfnalgaaL3
import Derived.Test.YtoccghbkfnalgaaP7
namespace Go.Proofs.Ytoccghbkfnalgaa
set_option linter.unusedVariables false
open Go.RowKit

theorem actCells_one (l : List Actn) : ∀ u ∈ actCells l, u.oneCell' = true := by
  intro u hu
  simp only [actCells, List.mem_flatMap] at hu
  obtain ⟨x, _, hu⟩ := hu
  simp at hu
  rcases hu with rfl | rfl | rfl | rfl <;> rfl
theorem actCells_app (l m : List Actn) : actCells (l ++ m) = actCells l ++ actCells m := by simp [actCells]

theorem HasG.below {w w' bg F g} (h : HasG w bg F g) (hb : Below w.heap.size w w') : HasG w' bg F g := by
  obtain ⟨vn, vi, bm, hG, rfl⟩ := h; exact ⟨_, _, _, hG.below hb, rfl⟩

theorem Below.then {B : Nat} {a b c : World} (h : Below B a b) (k : Below b.heap.size b c) (hB : B ≤ a.heap.size) : Below B a c := h.trans (k.mono (Nat.le_trans hB h.size))

theorem ownsRow_below {w w' : World} {base e size v n xs} (h : w.ownsRow base e size v n xs) (hb : Below w.heap.size w w') : w'.ownsRow base e size v n xs :=
  ownsRow_keep h fun k hk => hb.block k (h.lt k hk).2

set_option maxHeartbeats 2000000 in
theorem grows_any (w : World) (va vm vin : Value) (acts more : List Actn) (ins : List Bool) (ha : RO w va 4 acts.length (actCells acts)) (hm : RO w vm 4 more.length (actCells more)) (hv : RO w vin 1 ins.length (bools ins))
    (hal : acts.length ≤ 9223372036854775807) (hml : more.length ≤ 9223372036854775807) (hins : ins.length ≤ 9223372036854775807) :
    Calls Try.prog 5 #[va, vm, vin] w fun e w' => e = .returned (.bool true) ∧ Below w.heap.size w w' := by
  have HA := Lib.hid (awake_any w)
  have H := Lib.hid (And.intro ha (And.intro hm (And.intro hv (And.intro hal (And.intro hml hins)))))
  clear ha hm hv hal hml hins
  go_enter Try.func5, Try.ntmps5
  go_wp2_with fail
  refine HA.out.mono ?_
  rintro e w1 ⟨rfl, hb1⟩
  have K1 := Lib.hid hb1
  clear hb1
  go_wp2_with fail
  refine (plain_any w1 va acts (H.out.1.below K1.out) H.out.2.2.2.1).mono ?_
  rintro e w2 ⟨vp, rfl, hp, hb2⟩
  have K2 := Lib.hid (And.intro hp (Below.then K1.out hb2 (Nat.le_refl _)))
  have hpl := Lib.hid (plain_len acts)
  have hpk := Lib.hid (plain_kinds acts)
  clear hp hb2
  generalize plainActs acts = P at *
  go_wp2_with fail
  refine (build_any w2 vp P K2.out.1 (by have := hpl.out; omega) hpk.out).mono ?_
  rintro e w3 ⟨bg, F, vl, rfl, hG3, hl3, hf3, hF3, hb3⟩
  have K3 := Lib.hid (And.intro hG3 (And.intro hl3 (And.intro hb3 (Below.then K2.out.2 hb3 (Nat.le_refl _)))))
  clear hG3 hl3 hf3 hF3 hb3
  have Hbs : Hid (∀ W : World, Blk (W.alloc (.cells #[] 52)) W.heap.size 52 []) := Lib.hid fun W => Blk.new 52 []
  go_wp2_with (at_builtin; go_must (refine wpList_appR rfl _ _ 22 rfl Try.T22 w3.heap.size _ 0 [] rfl ((Hbs.out w3).own (by simp) (Nat.zero_le _) _ (Nat.le_refl _)) vp P.length (actCells P) rfl (K2.out.1.below (Below.then K3.out.2.2.1 ((Below.refl _ _).alloc (Nat.le_refl _) _) (Nat.le_refl _))) (actCells_one P) (by have := hpl.out; omega) (by have := hpl.out; omega) (by simp) ?_); intro v4 w4 happ; have HP := Lib.hid happ; clear happ)
  have hA4 : Below w3.heap.size w3 w4 := HP.out.below ((Below.refl _ _).alloc (Nat.le_refl _) _) (by simp) (fun k hk => by have h : some w3.heap.size = some k := hk; simp at h; omega)
  have hown4 := HP.out.own
  simp only [Nat.zero_add, List.nil_append] at hown4
  have K4 := Lib.hid (And.intro hA4 (And.intro hown4 (Below.then K3.out.2.2.2 hA4 (Nat.le_refl _))))
  clear hA4 hown4 HP
  refine (plain_any w4 vm more (H.out.2.1.below K4.out.2.2) H.out.2.2.2.2.1).mono ?_
  rintro e w5 ⟨vq, rfl, hq, hb5⟩
  have K5 := Lib.hid (And.intro hq (And.intro hb5 (And.intro (ownsRow_below K4.out.2.1 hb5) (Below.then K4.out.1 hb5 (Nat.le_refl _)))))
  have hql := Lib.hid (plain_len more)
  have hqk := Lib.hid (plain_kinds more)
  clear hq hb5
  generalize plainActs more = Q at *
  go_wp2_with (at_builtin; go_must (refine wpList_appR rfl _ _ 22 rfl Try.T22 w3.heap.size _ P.length _ rfl K5.out.2.2.1 vq Q.length (actCells Q) rfl K5.out.1 (actCells_one Q) (by have := hpl.out; have := hql.out; omega) (by have := hpl.out; have := hql.out; omega) K5.out.2.2.2.size ?_); intro v6 w6 happ; have HP := Lib.hid happ; clear happ)
  have hA6 : Below w3.heap.size w3 w6 := HP.out.below K5.out.2.2.2 K5.out.2.2.2.size (fun k hk => (K5.out.2.2.1.lt k hk).1)
  have hown6 := RO.own HP.out.own
  rw [← actCells_app, ← List.length_append] at hown6
  have K6 := Lib.hid (And.intro hA6 (And.intro hown6 (Below.then K3.out.2.2.2 hA6 (Nat.le_refl _))))
  clear hA6 hown6 HP
  have hPQl : (P ++ Q).length ≤ 120 := by have := hpl.out; have := hql.out; simp; omega
  have hPQk : ∀ k, k < (P ++ Q).length → 0 ≤ ((P ++ Q).getD k default).kind ∧ ((P ++ Q).getD k default).kind ≤ 5 := by
    intro k hk
    by_cases h : k < P.length
    · rw [getD_app _ _ _ h]; exact hpk.out k h
    · have e : (P ++ Q).getD k default = Q.getD (k - P.length) default := by
        simp [List.getD, List.getElem?_append_right (Nat.le_of_not_lt h)]
      rw [e]; exact hqk.out _ (by simp at hk; omega)
  have HPQ := Lib.hid (And.intro hPQl hPQk)
  have HG := Lib.hid (grows P Q ins)
  clear hPQl hPQk
  generalize hPQ : P ++ Q = R at *
  have hPQ := Lib.hid hPQ
  refine (build_any w6 v6 R K6.out.2.1 (by have := HPQ.out.1; omega) HPQ.out.2).mono ?_
  rintro e w7 ⟨bh, Fh, vall, rfl, hG7, hl7, hf7, hF7, hb7⟩
  have hBG : HasG w7 bg F (buildTo P P.length).1 := (K3.out.1.below K6.out.1).below hb7
  have K7 := Lib.hid (And.intro hG7 (And.intro hl7 (And.intro hb7 (And.intro hBG (Below.then K6.out.2.2 hb7 (Nat.le_refl _))))))
  clear hG7 hl7 hf7 hF7 hb7 hBG
  go_wp2_with fail
  have hle : ((buildTo P P.length).1.nodes.length : Int) ≤ (buildTo R R.length).1.nodes.length := by
    by_cases hP0 : P.length = 0
    · rw [hP0]; have := (build_wf R R.length).pos; simp [buildTo, g0]; omega
    · have := (HG.out 0 (by omega)).2.2.2.2; omega
  have L1 := Lib.hid (len_has K7.out.1)
  have L2 := Lib.hid (len_has K7.out.2.2.2.1)
  refine L1.out.mono ?_; rintro e w' ⟨rfl, rfl⟩
  go_wp2_with fail
  refine L2.out.mono ?_; rintro e w' ⟨rfl, rfl⟩
  go_wp2_with fail
  have hinvP := build_inv P P.length
  have hinvR := build_inv R R.length
  have hwfP := build_wf P P.length
  have hwfR := build_wf R R.length
  have hR := HPQ.out.1
  have hPl := hpl.out
  have E1 := Lib.hid (eval_any w7 bg F _ vin ins K7.out.2.2.2.1 (by have := hinvP.hi; omega) (H.out.2.2.1.below K7.out.2.2.2.2) (by have := hinvP.il; omega) H.out.2.2.2.2.2 (fun k hk => by have := hwfP.inp k hk; omega) (nodes_small P (by omega)))
  have E2 : Hid (∀ W, Below w7.heap.size w7 W → _) := Lib.hid (fun W hW => eval_any W bh Fh _ vin ins (K7.out.1.below hW) (by have := hinvR.hi; omega) (H.out.2.2.1.below (Below.then K7.out.2.2.2.2 hW (Nat.le_refl _))) (by have := hinvR.il; omega) H.out.2.2.2.2.2 (fun k hk => by have := hwfR.inp k hk; omega) (nodes_small R (by omega)))
  have HX := Lib.hid (And.intro (eval_valu _ hwfP ins).2 (eval_valu _ hwfR ins).2)
  have HI := Lib.hid (And.intro hinvP hinvR)
  clear hinvP hinvR hwfP hwfR hR hPl hle
  refine E1.out.mono ?_
  rintro e w8 ⟨va8, rfl, hv8, hb8⟩
  have K8 := Lib.hid (And.intro hv8 hb8)
  clear hv8 hb8
  go_wp2_with fail
  refine (E2.out w8 K8.out.2).mono ?_
  rintro e w9 ⟨va9, rfl, hv9, hb9⟩
  have K9 := Lib.hid (And.intro hv9 (Below.then K8.out.2 hb9 (Nat.le_refl _)))
  have K89 := Lib.hid (K8.out.1.below hb9)
  clear hv9 hb9
  obtain ⟨pl, cl, rfl⟩ := ownsRow_form K3.out.2.1
  obtain ⟨pa, ca, rfl⟩ := ownsRow_form K7.out.2.1
  have hrl := (RO.own K3.out.2.1).below ((Below.then K6.out.1 K7.out.2.2.1 (Nat.le_refl _)).trans (K9.out.2.mono (Nat.le_trans K6.out.1.size K7.out.2.2.1.size)))
  have hra := (RO.own K7.out.2.1).below K9.out.2
  have KF := Lib.hid (And.intro hrl (And.intro hra (Below.then K7.out.2.2.2.2 K9.out.2 (Nat.le_refl _))))
  clear hrl hra
  have hpl2 : (P.length : Int) ≤ 60 := by have := hpl.out; omega
  have hpr : (P.length : Int) ≤ R.length := by rw [← hPQ.out]; simp; omega
  have hr2 : (R.length : Int) ≤ 120 := by have := HPQ.out.1; omega
  go_wp2_with fail
  go_loop [59] (fun i => ∃ k : Nat, k ≤ P.length ∧ i = .int .i64 k) (fun i => P.length - (intOf i).toNat)
  case atStart => exact ⟨0, Nat.zero_le _, rfl⟩
  case round =>
    obtain ⟨k, hk, rfl⟩ := hrel
    by_cases hlt : k < P.length
    · have hm := HG.out k hlt
      obtain ⟨m1, m2, m3, m4, -⟩ := hm
      have c1 := KF.out.1.get (ints_at _ k (by rw [HI.out.1.len]; exact hlt))
      have c2 := KF.out.2.1.get (ints_at _ k (by rw [HI.out.2.len]; omega))
      obtain ⟨bl, ol, cl', el, c1⟩ := c1
      obtain ⟨rfl, rfl⟩ : pl = some ⟨bl, ol, none⟩ ∧ cl = cl' := by simpa using el
      obtain ⟨bw, ow, cw', ew, c2⟩ := c2
      obtain ⟨rfl, rfl⟩ : pa = some ⟨bw, ow, none⟩ ∧ ca = cw' := by simpa using ew
      rw [m1] at c2
      have hl0 := m3.1
      have hl1 : (buildTo P P.length).2.getD k 0 < 2^40 := by have := m3.2; have := HI.out.1.hi; omega
      clear m1 m3 m4 el ew
      generalize (buildTo P P.length).2.getD k 0 = L at *
      have I1 := Lib.hid (is_any w9 va8 _ L K89.out (by omega))
      have I2 := Lib.hid (is_any w9 va9 _ L K9.out.1 (by omega))
      rw [m2] at I2
      generalize isV (gEval (buildTo P P.length).1 ins) L = X at *
      clear m2
      have hXX : (X == X) = true := by simp
      go_wp2_with fail
      refine I1.out.mono ?_; rintro e w' ⟨rfl, rfl⟩
      go_wp2_with fail
      refine I2.out.mono ?_; rintro e w' ⟨rfl, rfl⟩
      go_wp2_with fail
      go_round
      case rel => exact ⟨k + 1, hlt, by go_num⟩
      case measure => simp [intOf]; omega
    · obtain rfl : k = P.length := by omega
      go_wp2_with fail
      go_ret
      exact ⟨rfl, KF.out.2.2⟩
end Go.Proofs.Ytoccghbkfnalgaa
