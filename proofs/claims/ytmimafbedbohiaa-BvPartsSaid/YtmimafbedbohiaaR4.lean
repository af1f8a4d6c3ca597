import Derived.Test.YtmimafbedbohiaaR3
import Derived.Test.YtmimafbedbohiaaB7
import Derived.Test.YtmimafbedbohiaaB8
namespace Go.Proofs.Ytmimafbedbohiaa
set_option linter.unusedVariables false
open Go.RowKit

/-- two lists of bits are returned -/
def RetNP (w : World) (n q r : Nat) (e : Ending) (w' : World) : Prop := ∃ v u, e = .returned (.tuple #[v, u]) ∧ LN w' v n q ∧ LN w' u n r ∧ Below w.heap.size w w'

theorem rsp_step {A B n i Q R : Nat} (hB : 0 < B) (hBn : B < 2 ^ n) (h : SP A B (i + 1) Q R) :
    ∃ R', R * 2 % 2 ^ (n + 1) + (if A.testBit i then 1 else 0) = R' ∧ R' < 2 ^ (n + 1) ∧ (R' < B → SP A B i Q R') ∧ (¬ R' < B → SP A B i (setB Q i true) ((R' + notN (n + 1) B + 1) % 2 ^ (n + 1))) := by
  obtain ⟨hR, hQ⟩ := h
  have hRB : R < B := by rw [hR]; exact Nat.mod_lt _ hB
  have hdm := Nat.div_add_mod (A / 2 ^ (i + 1)) B
  rw [← hR] at hdm
  have hA : A / 2 ^ i = 2 * (A / 2 ^ (i + 1)) + (if A.testBit i then 1 else 0) := by
    have h1 : A / 2 ^ (i + 1) = A / 2 ^ i / 2 := by rw [Nat.pow_succ, Nat.div_div_eq_div_mul]
    rw [h1, Nat.testBit_eq_decide_div_mod_eq]
    generalize A / 2 ^ i = q
    simp only [decide_eq_true_eq]
    split <;> omega
  generalize hh : A / 2 ^ (i + 1) / B = hq at *
  generalize A / 2 ^ (i + 1) = H at *
  generalize hb : (if A.testBit i = true then 1 else 0) = b at *
  have hb2 : b ≤ 1 := by rw [← hb]; split <;> omega
  have hp : 2 ^ (n + 1) = 2 * 2 ^ n := by rw [Nat.pow_succ]; omega
  have hR2 : R * 2 % 2 ^ (n + 1) = 2 * R := by rw [Nat.mod_eq_of_lt (by omega)]; omega
  have key : A / 2 ^ i = B * (2 * hq) + (2 * R + b) := by
    rw [hA, ← hdm]; rw [Nat.mul_left_comm B 2]; omega
  refine ⟨_, rfl, by rw [hR2]; omega, fun hc => ?_, fun hc => ?_⟩
  · rw [hR2] at hc ⊢
    have e1 : A / 2 ^ i % B = 2 * R + b := by rw [key, Nat.mul_add_mod, Nat.mod_eq_of_lt (by omega)]
    have e2 : A / 2 ^ i / B = 2 * hq := by rw [key, Nat.mul_add_div hB, Nat.div_eq_of_lt (by omega)]; omega
    unfold SP
    rw [e1, e2, hQ]
    exact ⟨rfl, by rw [Nat.pow_succ, Nat.mul_comm (2 ^ i) 2, ← Nat.mul_assoc, Nat.mul_comm hq 2]⟩
  · rw [hR2] at hc ⊢
    have key2 : A / 2 ^ i = B * (2 * hq + 1) + (2 * R + b - B) := by rw [key, Nat.mul_add B (2 * hq) 1]; omega
    have e1 : A / 2 ^ i % B = 2 * R + b - B := by rw [key2, Nat.mul_add_mod, Nat.mod_eq_of_lt (by omega)]
    have e2 : A / 2 ^ i / B = 2 * hq + 1 := by rw [key2, Nat.mul_add_div hB, Nat.div_eq_of_lt (by omega)]
    unfold SP notN
    rw [e1, e2, hQ, set_high]
    refine ⟨?_, ?_⟩
    · rw [show 2 * R + b + (2 ^ (n + 1) - 1 - B) + 1 = 2 * R + b - B + 2 ^ (n + 1) by omega, Nat.add_mod_right, Nat.mod_eq_of_lt (by omega)]
    · rw [Nat.pow_succ, Nat.add_mul, Nat.one_mul, Nat.mul_comm (2 ^ i) 2, ← Nat.mul_assoc, Nat.mul_comm hq 2]
theorem LN.short {w : World} {p : Option Addr} {c n x : Nat} {c' : Nat} (h : LN w (.slice p (n + 1) c) (n + 1) x) (hx : x < 2 ^ n) : LN w (.slice p n c') n x := by
  have hb := h.bits
  exact ⟨_, hb.short (by omega), by rw [ofB_mod', Nat.mod_eq_of_lt hx]⟩

set_option maxRecDepth 100000 in
set_option maxHeartbeats 8000000 in
theorem nsplit_zero {w : World} {va vb : Value} {n A B : Nat} (hA : LN w va n A) (hB : LN w vb n B) (hn : n ≤ 128) (h0 : B = 0) : Calls Try.prog 67 #[va, vb] w (RetNP w n (notN n 0) A) := by
  have hni : (n : Int) ≤ 128 := by omega
  have HA := Lib.hid hA
  have HN := Lib.hid hn
  obtain ⟨pa, ca, rfl⟩ := hA.form
  have hAny := nany hB hn
  rw [h0, show nz 0 = false from rfl] at hAny
  have HAny := Lib.hid hAny
  obtain ⟨pb, cb, rfl⟩ := hB.form
  have hmk := fun w => mk_bools n (by omega) w
  clear hA hB hn h0 hAny
  go_enter Try.func67, Try.ntmps67
  go_wp2_with fail
  refine HAny.out.mono ?_; rintro e w1 ⟨rfl, rfl⟩
  have hk := Blk.new (w := w) 4 (bools (List.replicate n false))
  have hb : Below w.heap.size w (w.alloc (.cells (bools (List.replicate n false)).toArray 4)) := Below.new _ _
  have HS : Hid (LN (w.alloc (.cells (bools (List.replicate n false)).toArray 4)) (.slice (some ⟨w.heap.size, 0, none⟩) n n) n 0) := Lib.hid ⟨fun _ => false, RO.ofBlk (by rw [rl_false]; exact hk), ofB_none _ _ (fun _ _ => rfl)⟩
  have HW := Lib.hid hb
  clear hk hb
  go_wp2_with fail
  generalize w.alloc (.cells (bools (List.replicate n false)).toArray 4) = W at *
  refine (nnot HS.out (Nat.le_succ_of_le HN.out)).mono ?_; rintro e w2 ⟨v2, rfl, h2, hb2⟩
  obtain ⟨p2, c2, rfl⟩ := h2.form
  have HF := Lib.hid (And.intro h2 (And.intro ((HA.out.below HW.out).below hb2) (HW.out.trans (hb2.mono HW.out.size))))
  clear h2 hb2 hmk
  go_wp2_with fail
  go_ret2
  exact ⟨_, _, rfl, HF.out.1, HF.out.2.1, HF.out.2.2⟩

set_option maxRecDepth 100000 in
set_option maxHeartbeats 8000000 in
theorem nsplit_pos {w : World} {va vb : Value} {n A B : Nat} (hA : LN w va n A) (hB : LN w vb n B) (hn : n ≤ 128) (h0 : B ≠ 0) : Calls Try.prog 67 #[va, vb] w (RetNP w n (A / B) (A % B)) := by
  have hni : (n : Int) ≤ 128 := by omega
  have HA := Lib.hid hA
  have HAb := Lib.hid hA.bits
  have HB := Lib.hid (hB.bits.below (Below.new w (.cells #[] 4)))
  have HBL := Lib.hid (And.intro hB.lt h0)
  have HN := Lib.hid hn
  obtain ⟨pa, ca, rfl⟩ := hA.form
  have hAny := nany hB hn
  rw [show nz B = true by simp [nz, h0]] at hAny
  have HAny := Lib.hid hAny
  obtain ⟨pb, cb, rfl⟩ := hB.form
  have hmk := fun w => mk_bools n (by omega) w
  have hmk1 : ∀ w : World, (Instr.makeSlice 35 (.int .i64 ((n : Int) + 1)) (.int .i64 ((n : Int) + 1))).run Try.prog w = .ok (.slice (some ⟨w.heap.size, 0, none⟩) (n + 1) (n + 1)) (w.alloc (.cells (bools (List.replicate (n + 1) false)).toArray 4)) := fun w => by
    have := mk_bools (n + 1) (by omega) w
    rwa [show (((n + 1 : Nat) : Nat) : Int) = (n : Int) + 1 by omega] at this
  have hw1 : IntKind.i64.wrap ((n : Int) + 1) = (n : Int) + 1 := IntWalk.i64_in _ (by omega)
  have hw2 : IntKind.i64.wrap ((n : Int) - 1) = (n : Int) - 1 := IntWalk.i64_in _ (by omega)
  have HS := Lib.hid (own_bools0 w)
  clear hA hB hn h0 hAny
  go_enter Try.func67, Try.ntmps67
  go_wp2_with fail
  refine HAny.out.mono ?_; rintro e w1 ⟨rfl, rfl⟩
  go_upto_region 4 with (first
    | (at_builtin; refine wpList_appR rfl _ _ 35 rfl Try.T35 w.heap.size (.slice pv4 n cv4) n (bools (rl n B.testBit)) rfl (ownsRow_below HP.out.1 (Below.new w4 (.cells [.bool false].toArray 4))) _ 1 [.bool false] rfl (RO.ofCells (Blk.new (w := w4) 4 [.bool false]) rfl) (by simp [Value.oneCell']) (by have := HN.out; omega) (by have := HN.out; omega) (HP.out.2.alloc HP.out.2.size _).size ?_; intro v5 w5 happ; have HP2 := Lib.hid (And.intro happ.own (happ.below (HP.out.2.alloc HP.out.2.size _) (HP.out.2.alloc HP.out.2.size _).size (fun k hk => (HP.out.1.lt k hk).1))); clear happ)
    | (at_builtin; refine wpList_appR rfl _ _ 35 rfl Try.T35 w.heap.size (.slice (some ⟨w.heap.size, 0, none⟩) 0 0) 0 (bools []) rfl HS.out _ n _ rfl HB.out (bools_one _) (by have := HN.out; omega) (by have := HN.out; omega) (by simp) ?_; intro v4 w4 happ; have hown := happ.own; rw [Nat.zero_add, show bools [] ++ bools (rl n B.testBit) = bools (rl n B.testBit) from rfl] at hown; have HP := Lib.hid (And.intro hown (happ.below (Below.new _ _) (by simp) (fun k hk => by have := own_bk hk; omega))); obtain ⟨pv4, cv4, ev4⟩ := ownsRow_form hown; subst ev4; clear happ hown))
  have hWd : LN w5 v5 (n + 1) B := by
    have h := RO.own HP2.out.1
    rw [show bools (rl n B.testBit) ++ [.bool false] = bools (rl (n + 1) B.testBit) by
      rw [← bools_snoc]
      congr 1
      unfold rl
      rw [List.range_succ, List.map_append, List.map_cons, List.map_nil, bit_big HBL.out.1 (Nat.le_refl _)]] at h
    exact ⟨_, h, by rw [ofB_mod', Nat.mod_eq_of_lt (Nat.lt_of_lt_of_le HBL.out.1 (Nat.pow_le_pow_right (by decide) (Nat.le_succ n)))]⟩
  have HWd := Lib.hid hWd
  obtain ⟨p5, c5, rfl⟩ := hWd.form
  have HB5 := Lib.hid HP2.out.2
  clear hWd HP2 HP HB HS HAny
  go_wp2_with fail
  have k1 := (Blk.new (w := w5) 4 (bools (List.replicate (n + 1) false))).alloc (.cells (bools (List.replicate n false)).toArray 4)
  have k2 := Blk.new (w := w5.alloc (.cells (bools (List.replicate (n + 1) false)).toArray 4)) 4 (bools (List.replicate n false))
  have hb : Below w5.heap.size w5 ((w5.alloc (.cells (bools (List.replicate (n + 1) false)).toArray 4)).alloc (.cells (bools (List.replicate n false)).toArray 4)) := (Below.new _ _).alloc (by simp) _
  rw [World.size_alloc] at k2
  have HK := Lib.hid (And.intro k1 (And.intro k2 hb))
  clear k1 k2 hb hmk hmk1
  generalize (w5.alloc (.cells (bools (List.replicate (n + 1) false)).toArray 4)).alloc (.cells (bools (List.replicate n false)).toArray 4) = W at *
  go_loopw [7, 9] (fun vr iv wr => ∃ k : Nat, k ≤ n ∧ iv = .int .i64 ((k : Int) - 1) ∧ ∃ pr cr Q R, vr = .slice pr (n + 1) cr ∧ n + 1 ≤ cr ∧ LN wr (.slice pr (n + 1) cr) (n + 1) R ∧ Blk wr (w5.heap.size + 1) 4 (bools (rl n Q.testBit)) ∧ SP A B k Q R ∧ Below w5.heap.size w5 wr) (fun _ iv _ => (intOf iv + 1).toNat)
  case atStart =>
    refine ⟨n, Nat.le_refl _, rfl, _, _, 0, 0, rfl, Nat.le_refl _, ⟨fun _ => false, RO.ofBlk (by rw [rl_false]; exact HK.out.1), ofB_none _ _ (fun _ _ => rfl)⟩, ?_, sp_start HA.out.lt, HK.out.2.2⟩
    rw [show rl n (Nat.testBit 0) = List.replicate n false by rw [← rl_false]; exact rl_congr fun i _ => by simp]
    exact HK.out.2.1
  case round =>
    obtain ⟨k, hk, rfl, pr, cr, Q, R, rfl, hcr, hL, hO, hSP, hbel⟩ := hrel
    have HL := Lib.hid hL
    have HO := Lib.hid (And.intro hO hbel)
    have HSP := Lib.hid hSP
    by_cases h0 : k = 0
    · subst h0
      have hcr1 : (n : Int) ≤ cr := by omega
      clear hL hO hSP hbel hk hcr
      go_upto_region 13 with fail
      go_quiet (fail)
      have hwd := below_drewN (B := wr.heap.size) (w := wr) nq
      obtain ⟨eq1, eq2⟩ := sp_end HSP.out
      have hRl : R < 2 ^ n := by rw [eq2]; exact Nat.lt_trans (Nat.mod_lt _ (by have := HBL.out.2; omega)) HBL.out.1
      have hQl : Q < 2 ^ n := by rw [eq1]; exact Nat.lt_of_le_of_lt (Nat.div_le_self _ _) HA.out.lt
      have hF1 : LN wr (.slice (some ⟨w5.heap.size + 1, 0, none⟩) n n) n Q := ⟨_, RO.ofBlk HO.out.1, by rw [ofB_mod', Nat.mod_eq_of_lt hQl]⟩
      have hF2 := fun c' => HL.out.short (c' := c') hRl
      have HF := Lib.hid (And.intro (hF1.below hwd) (And.intro (fun c' => (hF2 c').below hwd) ((HB5.out.trans (HO.out.2.mono HB5.out.size)).trans (hwd.mono (HB5.out.trans (HO.out.2.mono HB5.out.size)).size))))
      rw [eq1, eq2] at HF
      clear hwd eq1 eq2 hRl hQl hF1 hF2
      generalize wr.drewN nq = W9 at *
      go_wp2_with fail
      go_ret2
      exact ⟨_, _, rfl, HF.out.1, HF.out.2.1 _, HF.out.2.2⟩
    · obtain ⟨i, rfl⟩ : ∃ i, k = i + 1 := ⟨k - 1, by omega⟩
      have he : ((i + 1 : Nat) : Int) - 1 = (i : Int) := by omega
      rw [he]
      have hin : i < n := by omega
      have HIN := Lib.hid hin
      have hii : (i : Int) < n := by omega
      have hi0 : (0 : Int) ≤ i := by omega
      have hwr : IntKind.i64.wrap ((i : Int) - 1) = (i : Int) - 1 := IntWalk.i64_in _ (by omega)
      have hat : (bools (rl n A.testBit))[i]? = some (.bool (A.testBit i)) := by rw [bools_at _ _ (by rw [rl_length]; exact hin), rl_getD _ _ _ hin]
      obtain ⟨b, o, e⟩ := HAb.out.sl hat
      subst e
      have g := ((HAb.out.below HB5.out).below hbel).cell hat
      obtain ⟨R', hR', hRl', hs1, hs2⟩ := rsp_step (by have := HBL.out.2; omega) HBL.out.1 hSP
      have hMv := nmoveF 1 (A.testBit i) (by omega) (by omega) hL (by have := HN.out; omega)
      rw [move_one _ (by omega), hR'] at hMv
      have HMv := Lib.hid hMv
      have HST := Lib.hid (And.intro hs1 hs2)
      generalize A.testBit i = q at *
      clear hL hO hSP hbel hk hcr hat h0 he hMv hs1 hs2 hR' hin
      go_wp2_with fail
      refine HMv.out.mono ?_; rintro e w6 ⟨b6, rfl, h6, hge6, hb6⟩
      have HL6 := Lib.hid h6
      have HO6 := Lib.hid (And.intro (HO.out.1.below hb6 HO.out.1.lt) (HO.out.2.trans (hb6.mono HO.out.2.size)))
      have hLs := nless h6 (HWd.out.below HO6.out.2) (by have := HN.out; omega)
      have HLs := Lib.hid hLs
      clear h6 hge6 hb6 g HMv HL HO hLs
      by_cases hlt : R' < B
      · rw [decide_eq_true hlt] at HLs
        go_wp2_with fail
        refine HLs.out.mono ?_; rintro e w7 ⟨rfl, hb7⟩
        have HF := Lib.hid (And.intro (HL6.out.below hb7) (And.intro (HO6.out.1.below hb7 HO6.out.1.lt) (HO6.out.2.trans (hb7.mono HO6.out.2.size))))
        have HST2 := Lib.hid (HST.out.1 hlt)
        clear hb7 hlt
        go_wp2_with fail
        go_roundw
        case rel => exact ⟨i, Nat.le_of_lt HIN.out, rfl, _, _, Q, R', rfl, Nat.le_refl _, HF.out.1, HF.out.2.1, HST2.out, HF.out.2.2⟩
        case measure => simp [intOf]
      · rw [decide_eq_false hlt] at HLs
        go_wp2_with fail
        refine HLs.out.mono ?_; rintro e w7 ⟨rfl, hb7⟩
        have HL7 := Lib.hid (HL6.out.below hb7)
        have HO7 := Lib.hid (And.intro (HO6.out.1.below hb7 HO6.out.1.lt) (HO6.out.2.trans (hb7.mono HO6.out.2.size)))
        have HST2 := Lib.hid (HST.out.2 hlt)
        clear hb7 hlt HL6 HO6 HLs HST
        go_wp2_with fail
        refine (nnot (HWd.out.below HO7.out.2) (by have := HN.out; omega)).mono ?_; rintro e w8 ⟨v8, rfl, h8, hb8⟩
        obtain ⟨p8, c8, rfl⟩ := h8.form
        have HL8 := Lib.hid (And.intro (HL7.out.below hb8) h8)
        have HO8 := Lib.hid (And.intro (HO7.out.1.below hb8 HO7.out.1.lt) (HO7.out.2.trans (hb8.mono HO7.out.2.size)))
        clear h8 hb8 HL7 HO7
        go_wp2_with fail
        refine (nplusF true HL8.out.1 HL8.out.2 (by have := HN.out; omega)).mono ?_; rintro e w9 ⟨b9, rfl, h9, hge9, hb9⟩
        rw [if_pos rfl] at h9
        have hne : b9 ≠ w5.heap.size + 1 := by have := HO8.out.1.lt; omega
        have HO9 := Lib.hid (And.intro (HO8.out.1.below hb9 HO8.out.1.lt) (And.intro h9 (And.intro hne (HO8.out.2.trans (hb9.mono HO8.out.2.size)))))
        have hq := HO9.out.1.cell (bools_at (rl n Q.testBit) i (by rw [rl_length]; exact HIN.out))
        have hf := HO9.out.1.frz i
        clear h9 hge9 hb9 hne HL8 HO8
        go_wp2_with fail
        go_roundw
        case rel =>
          refine ⟨i, Nat.le_of_lt HIN.out, rfl, _, _, setB Q i true, _, rfl, Nat.le_refl _, LN.blk (HO9.out.2.1.other _ HO9.out.2.2.1) (Nat.mod_lt _ (Nat.pow_pos (by decide))), ?_, HST2.out, HO9.out.2.2.2.setCell (Nat.le_succ _) _⟩
          have h := HO9.out.1.set i (.bool true)
          rwa [bools_set, rl_set, show rl n (fun j => if j = i then true else Q.testBit j) = rl n (setB Q i true).testBit from rl_congr fun j _ => by rw [setB_bit]] at h
        case measure => simp [intOf]
end Go.Proofs.Ytmimafbedbohiaa
