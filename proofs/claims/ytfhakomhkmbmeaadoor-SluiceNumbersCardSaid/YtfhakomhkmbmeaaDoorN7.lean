import Derived.Test.YtfhakomhkmbmeaaDoorN6
namespace Go.Proofs.YtfhakomhkmbmeaaDoor
set_option linter.unusedVariables false
open Go.RowKit

theorem indexByte_app {a : List UInt8} {c : UInt8} (h : c ∉ a) (r : List UInt8) : Lib.indexByte (a ++ c :: r) c = a.length := by
  induction a with
  | nil => simp [Lib.indexByte]
  | cons b a ih =>
    have hb : (b == c) = false := by rw [beq_eq_false_iff_ne]; rintro rfl; exact h (by simp)
    have hi := ih (fun hc => h (by simp [hc]))
    simp only [List.cons_append, Lib.indexByte, hb, Bool.false_eq_true, if_false, hi]
    rw [if_neg (by simp)]
    simp
theorem cut_at {a : List UInt8} {c : UInt8} (h : c ∉ a) (r : List UInt8) : Lib.cut (a ++ c :: r) [c] = (a, r, true) := by
  unfold Lib.cut
  rw [Lib.index_one, indexByte_app h, if_pos (by omega)]
  simp
/-- the decimal digits of a small number -/
def dl (n : Nat) : List Nat := if n < 10 then [n] else if n < 100 then [n / 10, n % 10] else [n / 100, n / 10 % 10, n % 10]
theorem hexC_dec (d : Nat) (h : d < 10) : UInt8.ofNat (48 + d) = hexC d := by unfold hexC; rw [if_pos h]
theorem itoa_dl (n : Nat) (h : n < 1000) : Lib.itoa (n : Int) = hexL (dl n) := by
  rw [Lib.itoa_nonneg]
  unfold dl
  by_cases h1 : n < 10
  · rw [if_pos h1, Lib.decDigits, dif_pos h1, hexC_dec n h1]; rfl
  · rw [if_neg h1]
    by_cases h2 : n < 100
    · rw [if_pos h2, Lib.decDigits, dif_neg h1, Lib.decDigits, dif_pos (by omega), hexC_dec _ (by omega), hexC_dec _ (by omega)]; rfl
    · rw [if_neg h2, Lib.decDigits, dif_neg h1, Lib.decDigits, dif_neg (by omega), Lib.decDigits, dif_pos (by omega), hexC_dec _ (by omega), hexC_dec _ (by omega), hexC_dec _ (by omega), Nat.div_div_eq_div_mul]; rfl
theorem dl_lt (n : Nat) (h : n < 1000) : ∀ d ∈ dl n, d < 10 := by
  intro d hd
  unfold dl at hd
  split at hd
  · simp at hd; omega
  · split at hd
    · simp at hd; omega
    · simp at hd; omega
theorem dl_len (n : Nat) : (dl n).length ≤ 3 ∧ dl n ≠ [] := by
  unfold dl
  split
  · simp
  · split <;> simp
theorem dl_val (n : Nat) (h : n ≤ 128) : smallP 129 (dl n) = n := by
  unfold dl smallP
  split
  · simp; omega
  · split
    · simp; omega
    · simp; omega
theorem hexL_no (ds : List Nat) (h : ∀ d ∈ ds, d < 16) : (39 : UInt8) ∉ hexL ds := by
  intro hm
  obtain ⟨d, hd, e⟩ := List.mem_map.1 hm
  have h1 := hexC_all d (h d hd)
  rw [e] at h1
  have : (39 : UInt8).toNat = 39 := rfl
  split at h1 <;> omega
theorem VR.setC {w : World} {p : Option Addr} {n c x R : Nat} (h : VR w (.agg #[.int .i64 n, .slice p (wcount n) c]) n x) (hne : ∀ b o, p = some ⟨b, o, none⟩ → b ≠ R) (i : Nat) (u : Value) : VR (w.setCell ⟨R, i, none⟩ u) (.agg #[.int .i64 n, .slice p (wcount n) c]) n x := by
  obtain ⟨⟨p', c', e, hl, p2, c2, e2, hcs⟩, h2, h3⟩ := h
  simp only [Value.agg.injEq, Array.mk.injEq, List.cons.injEq, Value.slice.injEq, true_and, and_true] at e
  obtain ⟨rfl, rfl⟩ := e
  cases e2
  refine ⟨⟨p, c, rfl, hl, p, c, rfl, fun j u' hj => ?_⟩, h2, h3⟩
  obtain ⟨b, o, hp, hc⟩ := hcs j u' hj
  refine ⟨b, o, hp, ?_⟩
  rw [World.cell?_setCell_far _ _ _ _ (by exact Ne.symm (hne b o hp))]
  exact hc
/-- what Parse makes of such a text -/
def ParseR (w : World) (n x : Nat) (sg : Bool) (e : Ending) (w' : World) : Prop :=
  ∃ p c, e = .returned (.tuple #[.agg #[.int .i64 n, .slice p (wcount n) c, .bool sg, .bool true], .int .i64 0]) ∧ VR w' (.agg #[.int .i64 n, .slice p (wcount n) c]) n x ∧ Below w.heap.size w w' ∧ Far w (.agg #[.int .i64 n, .slice p (wcount n) c])
set_option maxRecDepth 100000 in
set_option maxHeartbeats 4000000 in
theorem parse_any {w : World} (n b : Nat) (ds : List Nat) (sg : Bool) (c : UInt8) (h1 : 1 ≤ n) (h2 : n ≤ 128) (hne : ds ≠ []) (hd : ∀ d ∈ ds, d < b) (hb : b ≤ 16) (hb0 : 0 < b) (hl : ds.length ≤ 1000) (hc : (bits .or .u8 (c.toNat : Int) 32 == 115) = false)
    (hbase : ∀ w, Calls Tryd.prog 46 #[.int .u8 (c.toNat : Nat)] w fun e w' => e = .returned (.int .i64 b) ∧ w = w') (hm : Max w) :
    Calls Tryd.prog 6 #[.string ⟨(hexL (dl n) ++ 39 :: ((if sg then [115] else []) ++ c :: hexL ds)).toArray⟩] w (ParseR w n (valH b ds % 2 ^ n) sg) := by
  have hdl := dl_lt n (by omega)
  obtain ⟨R, hR⟩ : ∃ R, (if sg then [115] else []) ++ c :: hexL ds = R := ⟨_, rfl⟩
  have HBa : Hid (∀ w, Calls Tryd.prog 18 #[.string ⟨R.toArray⟩] w fun e w' => e = .returned (.tuple #[.string ⟨(hexL ds).toArray⟩, .int .i64 b, .bool sg, .int .i64 0]) ∧ w = w') := Lib.hid fun w => by
    rw [← hR]
    cases sg
    · exact based_u (Hd.of c (hexL ds)) b hb0 hc hbase
    · exact based_s (Hd.of 115 (c :: hexL ds)) (Hd.of c (hexL ds)) b hb0 hbase
  rw [hR]
  have hRl : R.length ≤ ds.length + 2 := by
    rw [← hR]
    cases sg <;> simp [hexL]
  have hAl : (hexL (dl n)).length ≤ 3 := by simp only [hexL, List.length_map]; exact (dl_len n).1
  have HCut : Hid (∀ w', Below w.heap.size w w' → Calls Tryd.prog 14 #[.string ⟨(hexL (dl n) ++ 39 :: R).toArray⟩, .string ⟨#[39]⟩] w' fun e w'' => e = .returned (.tuple #[.string ⟨(hexL (dl n)).toArray⟩, .string ⟨R.toArray⟩, .bool true]) ∧ Below w'.heap.size w' w'') := Lib.hid fun w' hbw => by
    obtain ⟨m, hm⟩ := hm.below hbw
    have hcc := Tryd.strings_Cut ⟨(hexL (dl n) ++ 39 :: R).toArray⟩ ⟨#[39]⟩ m w' (by show (hexL (dl n) ++ 39 :: R).toArray.size < _; rw [List.size_toArray, List.length_append, List.length_cons]; omega) hm
    rw [show (⟨(hexL (dl n) ++ 39 :: R).toArray⟩ : ByteArray).data.toList = hexL (dl n) ++ 39 :: R by simp, show (⟨#[39]⟩ : ByteArray).data.toList = [39] from rfl, cut_at (hexL_no _ (fun d h => by have := hdl d h; omega))] at hcc
    exact hcc.mono fun e w'' ⟨he, k, hk⟩ => ⟨he, by rw [hk]; exact below_drewK k⟩
  have HD1 : Hid (∀ w', Calls Tryd.prog 16 #[.string ⟨(hexL (dl n)).toArray⟩, .int .i64 10] w' (DigR w' (dl n))) := Lib.hid fun w' => digits_any (dl n) 10 (dl_len n).2 hdl (by decide) (by have := (dl_len n).1; omega)
  have HD2 : Hid (∀ w', Calls Tryd.prog 16 #[.string ⟨(hexL ds).toArray⟩, .int .i64 b] w' (DigR w' ds)) := Lib.hid fun w' => digits_any ds b hne hd hb hl
  have HSm : Hid (∀ (w' : World) (v : Value), RO w' v 1 (dl n).length (ints (natI (dl n))) → Calls Tryd.prog 17 #[v, .int .i64 129] w' fun e w'' => e = .returned (.int .i64 n) ∧ w' = w'') := Lib.hid fun w' v hv => by
    have h := small_any (dl n) 129 hv (fun d h => by have := hdl d h; omega) (by omega) (by have := (dl_len n).1; omega)
    rwa [dl_val n h2] at h
  have HBi : Hid (∀ (w' : World) (v : Value), RO w' v 1 ds.length (ints (natI ds)) → Calls Tryd.prog 19 #[v, .int .i64 b, .int .i64 n] w' (RetV w' n (valH b ds % 2 ^ n))) := Lib.hid fun w' v hv => bits_any ds b n hv (fun d h => Nat.lt_of_lt_of_le (hd d h) hb) hb h1 h2 hl
  obtain ⟨A, hA⟩ : ∃ A : ByteArray, A = ⟨(hexL (dl n)).toArray⟩ := ⟨_, rfl⟩
  have hAs : 0 < A.size := by
    rw [hA]
    show 0 < (hexL (dl n)).toArray.size
    have := List.length_pos_iff.2 (dl_len n).2
    simpa [hexL] using this
  obtain ⟨hnl, hie⟩ := str_ne hAs
  rw [← hA] at HCut HD1
  obtain ⟨X, hX⟩ : ∃ X, valH b ds % 2 ^ n = X := ⟨_, rfl⟩
  rw [hX] at HBi ⊢
  have hni : (n : Int) ≤ 128 := by omega
  have hn1 : (1 : Int) ≤ n := by omega
  have hlt1 : decide ((n : Int) < 1) = false := decide_eq_false (by omega)
  have hgt1 : decide ((128 : Int) < n) = false := decide_eq_false (by omega)
  have hn1' : 0 < n := h1
  have HN := Lib.hid hn1'
  clear h1 h2 hne hd hb hb0 hl hc hbase hm hdl hR hRl hAl hA hAs hX hn1'
  go_enter Tryd.func6, Tryd.ntmps6
  go_upto_region 1 with fail
  have hb0 := Below.new w (.cells #[.int .i64 0, .slice none 0 0, .bool false, .bool false] 29)
  have hk0 := Blk.new (w := w) 29 [.int .i64 0, .slice none 0 0, .bool false, .bool false]
  have HB := Lib.hid (And.intro hb0 hk0)
  clear hb0 hk0
  generalize w.alloc (.cells #[.int .i64 0, .slice none 0 0, .bool false, .bool false] 29) = W at *
  go_wp2_with fail
  refine (HCut.out _ HB.out.1).mono ?_; rintro e w1 ⟨rfl, hb1⟩
  have H1 := Lib.hid (And.intro (HB.out.1.trans (hb1.mono HB.out.1.size)) (HB.out.2.next hb1))
  clear hb1 HB HCut
  go_wp2_with fail
  refine (HD1.out _).mono ?_; rintro e w2 ⟨v2, rfl, ho2, hb2⟩
  obtain ⟨p2, c2, rfl⟩ := ownsRow_form ho2
  have HS := Lib.hid (HSm.out _ _ (RO.own ho2))
  have H2 := Lib.hid (And.intro (H1.out.1.trans (hb2.mono H1.out.1.size)) (H1.out.2.next hb2))
  generalize (dl n).length = q at *
  clear hb2 ho2 H1 HD1 HSm
  go_wp2_with fail
  refine HS.out.mono ?_; rintro e w3 ⟨rfl, rfl⟩
  clear HS
  go_wp2_with fail
  refine (HBa.out _).mono ?_; rintro e w4 ⟨rfl, rfl⟩
  clear HBa
  go_wp2_with fail
  refine (HD2.out _).mono ?_; rintro e w5 ⟨v5, rfl, ho5, hb5⟩
  obtain ⟨p5, c5, rfl⟩ := ownsRow_form ho5
  have HS := Lib.hid (HBi.out _ _ (RO.own ho5))
  have H5 := Lib.hid (And.intro (H2.out.1.trans (hb5.mono H2.out.1.size)) (H2.out.2.next hb5))
  generalize ds.length = q5 at *
  clear hb5 ho5 H2 HD2 HBi
  go_wp2_with fail
  refine HS.out.mono ?_; rintro e w6 ⟨v6, rfl, hv6, hb6, hf6⟩
  obtain ⟨p6, c6, rfl, _⟩ := hv6.ex
  have hk6 := H5.out.2.next hb6
  have hlt6 := H5.out.2.lt
  have d0 := hk6.cell (i := 0) rfl
  have d1 := hk6.cell (i := 1) rfl
  have d2 := hk6.cell (i := 2) rfl
  have d3 := hk6.cell (i := 3) rfl
  have f0 := hk6.frz 0
  have f1 := hk6.frz 1
  have f2 := hk6.frz 2
  have f3 := hk6.frz 3
  have hbw6 := H5.out.1.trans (hb6.mono H5.out.1.size)
  have hfw : Far w (.agg #[.int .i64 n, .slice p6 (wcount n) c6]) := fun k p m c b o e hp => Nat.le_trans H5.out.1.size (hf6 k p m c b o e hp)
  have H6 := Lib.hid (And.intro hv6 (And.intro hk6 (And.intro hbw6 (And.intro (hf6.ne hlt6) hfw))))
  clear hv6 hk6 hb6 hf6 hlt6 hbw6 hfw H5 HS
  go_wp2_with fail
  have hv := (((H6.out.1.setC H6.out.2.2.2.1 0 (.int .i64 n)).setC H6.out.2.2.2.1 1 (.slice p6 (wcount n) c6)).setC H6.out.2.2.2.1 2 (.bool sg)).setC H6.out.2.2.2.1 3 (.bool true)
  have hk := (((H6.out.2.1.set 0 (.int .i64 n)).set 1 (.slice p6 (wcount n) c6)).set 2 (.bool sg)).set 3 (.bool true)
  have hb := (((H6.out.2.2.1.setCell (show w.heap.size ≤ (⟨w.heap.size, 0, none⟩ : Addr).block from Nat.le_refl _) (.int .i64 n)).setCell (show w.heap.size ≤ (⟨w.heap.size, 1, none⟩ : Addr).block from Nat.le_refl _) (.slice p6 (wcount n) c6)).setCell (show w.heap.size ≤ (⟨w.heap.size, 2, none⟩ : Addr).block from Nat.le_refl _) (.bool sg)).setCell (show w.heap.size ≤ (⟨w.heap.size, 3, none⟩ : Addr).block from Nat.le_refl _) (.bool true)
  have e0 := hk.cell (i := 0) rfl
  have e1 := hk.cell (i := 1) rfl
  have e2 := hk.cell (i := 2) rfl
  have e3 := hk.cell (i := 3) rfl
  clear d0 d1 d2 d3 f0 f1 f2 f3
  exact bodyPost_ret (v := .tuple #[.agg #[.int .i64 n, .slice p6 (wcount n) c6, .bool sg, .bool true], .int .i64 0]) (by simp [results, Tryd.results6, go_sem, e0, e1, e2, e3]) rfl ⟨_, _, rfl, hv, hb, H6.out.2.2.2.2⟩
end Go.Proofs.YtfhakomhkmbmeaaDoor
