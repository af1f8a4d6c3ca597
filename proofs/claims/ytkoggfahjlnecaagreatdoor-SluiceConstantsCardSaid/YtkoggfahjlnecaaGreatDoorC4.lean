import Derived.Test.YtkoggfahjlnecaaGreatDoorC3
namespace Go.Proofs.YtkoggfahjlnecaaGreatDoor
set_option linter.unusedVariables false
open Go.RowKit Go.Sort

/-! # lit: a plain number below 200 -/
set_option maxRecDepth 100000 in
set_option maxHeartbeats 4000000 in
theorem small_all {w : World} {v : Value} (ds : List Nat) (most : Nat) (hv : RO w v 1 ds.length (ints (natI ds))) (hd : ∀ d ∈ ds, d < 16) (hm : most ≤ 2147483648) (hl : ds.length ≤ 1000) : Calls Tryz.prog 98 #[v, .int .i64 most] w fun e w' => e = .returned (.int .i64 (smallP most ds)) ∧ w = w' := by
  obtain ⟨p, c, rfl⟩ := hv.form
  obtain ⟨n, hn⟩ : ∃ n, ds.length = n := ⟨_, rfl⟩
  have hk : ∀ k, k < n → ds.getD k 0 < 16 := fun k h => hd _ (by simp [List.getD, List.getElem?_eq_getElem (show k < ds.length by omega)])
  have H := Lib.hid (And.intro hv (And.intro hn hk))
  rw [hn]
  have hni : (n : Int) ≤ 1000 := by omega
  have hmi : (most : Int) ≤ 2147483648 := by omega
  clear hv hk hd hl hm hn
  go_enter Tryz.func98, Tryz.ntmps98
  go_wp2_with fail
  go_loop [10, 5] (fun iv sv => ∃ i : Nat, i ≤ n ∧ iv = .int .i64 i ∧ sv = .int .i64 (smallP most (ds.take i))) (fun iv _ => n - (intOf iv).toNat)
  case atStart => exact ⟨0, Nat.zero_le _, rfl, rfl⟩
  case round =>
    obtain ⟨i, hi, rfl, rfl⟩ := hrel
    by_cases hlt : i < n
    · have hil : i < ds.length := by rw [H.out.2.1]; exact hlt
      have hat := natI_at ds i hil
      obtain ⟨b, o, hp⟩ := H.out.1.sl hat
      subst hp
      have hc := H.out.1.cell hat
      have hst := smallP_take most ds hil
      have hle := smallP_le most (ds.take i)
      have hd16 := H.out.2.2 i hlt
      generalize ds.getD i 0 = d at *
      generalize smallP most (ds.take i) = m at *
      have hii : (i : Int) < n := by omega
      have q1 : IntKind.i64.wrap (10 * (m : Int)) = 10 * (m : Int) := i64_of (by omega)
      have q2 : IntKind.i64.wrap (10 * (m : Int) + (d : Int)) = 10 * (m : Int) + (d : Int) := i64_of (by omega)
      have hiw : IntKind.i64.wrap ((i : Int) + 1) = (i : Int) + 1 := i64_of (by omega)
      have HS := Lib.hid (And.intro hst hlt)
      clear hst hle hd16 hat hil hi hlt
      go_wp2_with fail
      go_round
      case rel => exact ⟨i + 1, HS.out.2, by go_num, by rw [HS.out.1]; congr 1; omega⟩
      case measure => have := HS.out.2; simp [intOf]; omega
    · obtain rfl : i = n := by omega
      rw [List.take_of_length_le (by have := H.out.2.1; omega)]
      clear hi hlt
      go_wp2_with fail
      go_ret
      exact ⟨rfl, rfl⟩
def dl (n : Nat) : List Nat := if n < 10 then [n] else if n < 100 then [n / 10, n % 10] else [n / 100, n / 10 % 10, n % 10]
theorem hexC_dec (d : Nat) (h : d < 10) : UInt8.ofNat (48 + d) = hexC d := by unfold hexC; rw [if_pos h]
theorem itoa_dl (n : Nat) (h : n < 1000) : Lib.itoa (n : Int) = hexL (dl n) := by
  rw [Lib.itoa_nonneg]
  unfold dl
  by_cases h1 : n < 10
  · rw [if_pos h1, Lib.decDigits, dif_pos h1, hexC_dec n h1]; rfl
  · rw [if_neg h1]
    by_cases h2 : n < 100
    · rw [if_pos h2, Lib.decDigits, dif_neg h1, Lib.decDigits, dif_pos (by omega), hexC_dec _ (by omega), hexC_dec _ (by omega)]; rfl
    · rw [if_neg h2, Lib.decDigits, dif_neg h1, Lib.decDigits, dif_neg (by omega), Lib.decDigits, dif_pos (by omega), hexC_dec _ (by omega), hexC_dec _ (by omega), hexC_dec _ (by omega), Nat.div_div_eq_div_mul]; rfl
theorem dl_lt (n : Nat) (h : n < 1000) : ∀ d ∈ dl n, d < 10 := by
  intro d hd
  unfold dl at hd
  split at hd
  · simp at hd; omega
  · split at hd
    · simp at hd; omega
    · simp at hd; omega
theorem dl_len (n : Nat) : (dl n).length ≤ 3 ∧ dl n ≠ [] := by
  unfold dl
  split
  · simp
  · split <;> simp
theorem hexL_no (ds : List Nat) (h : ∀ d ∈ ds, d < 16) : (39 : UInt8) ∉ hexL ds := by
  intro hm
  obtain ⟨d, hd, e⟩ := List.mem_map.1 hm
  have h1 := hexC_all d (h d hd)
  rw [e] at h1
  have : (39 : UInt8).toNat = 39 := rfl
  split at h1 <;> omega
theorem below_drewK {B : Nat} {w : World} (n : Nat) : Below B w (w.drewN n) := ⟨rfl, rfl, rfl, Nat.le_refl _, fun _ _ => rfl⟩
def Max (w : World) : Prop := ∃ m, w.cell? ⟨1, 0, none⟩ = some (.int .i64 m)
theorem Max.below {w w' : World} (h : Max w) (hb : Below w.heap.size w w') : Max w' := by
  obtain ⟨m, hm⟩ := h
  exact ⟨m, (hb.cell (World.block_lt_of_cell? _ _ hm)).trans hm⟩
theorem valW_one (d : Nat) : valW [d] = d := by simp [valW]
theorem ro_lit (w : World) (t d : Nat) : RO (w.alloc (.cells #[.int .u64 ((d : Nat) : Int)] t)) (.slice (some ⟨w.heap.size, 0, none⟩) 1 1) 1 [d].length (natsV [d]) := RO.ofCells (Blk.new (w := w) t [.int .u64 ((d : Nat) : Int)]) rfl

theorem dl_val2 (n : Nat) (h : n < 200) : smallP 2147483648 (dl n) = n := by
  unfold dl
  split
  · simp [smallP]; omega
  · split
    · simp [smallP]; omega
    · simp [smallP]; omega
theorem dec_dl (n : Nat) (h : n < 200) : dec n = ⟨(hexL (dl n)).toArray⟩ := by
  unfold dec
  rw [itoa_dl n (by omega)]
theorem indexByte_no {a : List UInt8} {c : UInt8} (h : c ∉ a) : Lib.indexByte a c = -1 := by
  induction a with
  | nil => simp [Lib.indexByte]
  | cons b a ih =>
    have hb : (b == c) = false := by rw [beq_eq_false_iff_ne]; rintro rfl; exact h (by simp)
    have hi := ih (fun hc => h (by simp [hc]))
    simp only [Lib.indexByte, hb, Bool.false_eq_true, if_false, hi]
    rfl
theorem cut_none {a : List UInt8} {c : UInt8} (h : c ∉ a) : Lib.cut a [c] = (a, [], false) := by
  unfold Lib.cut
  rw [Lib.index_one, indexByte_no h, if_neg (by omega)]
def litP (p : Option Addr) (c : Nat) : Value := .agg #[.int .i64 32, .slice p 1 c, .bool true, .bool false]
def ParsD (w : World) (n : Nat) (e : Ending) (w' : World) : Prop :=
  ∃ p c, e = .returned (.tuple #[.agg #[.int .i64 32, .slice p 1 c, .bool true, .bool false], .int .i64 0]) ∧ VR w' (.agg #[.int .i64 32, .slice p 1 c]) 32 n ∧ Below w.heap.size w w' ∧ Far w (.agg #[.int .i64 32, .slice p 1 c])
theorem new_32 {w : World} (n : Nat) (hd : n < 18446744073709551616) (t : Nat) : Calls Tryz.prog 11 #[.int .i64 32, .slice (some ⟨w.heap.size, 0, none⟩) 1 1] (w.alloc (.cells #[.int .u64 ((n : Nat) : Int)] t)) (RetE (w.alloc (.cells #[.int .u64 ((n : Nat) : Int)] t)) 32 (n % 2 ^ 32) 0) := by
  have h := new_good 32 (by decide) (by decide) _ (l := [n]) (ro_lit w t n) (by simpa using hd)
  rwa [valW_one] at h
theorem VR.setC {w : World} {p : Option Addr} {n c x R : Nat} (h : VR w (.agg #[.int .i64 n, .slice p (wcount n) c]) n x) (hne : ∀ b o, p = some ⟨b, o, none⟩ → b ≠ R) (i : Nat) (u : Value) : VR (w.setCell ⟨R, i, none⟩ u) (.agg #[.int .i64 n, .slice p (wcount n) c]) n x := by
  obtain ⟨⟨p', c', e, hl, p2, c2, e2, hcs⟩, h2, h3⟩ := h
  simp only [Value.agg.injEq, Array.mk.injEq, List.cons.injEq, Value.slice.injEq, true_and, and_true] at e
  obtain ⟨rfl, rfl⟩ := e
  cases e2
  refine ⟨⟨p, c, rfl, hl, p, c, rfl, fun j u' hj => ?_⟩, h2, h3⟩
  obtain ⟨b, o, hp, hc⟩ := hcs j u' hj
  refine ⟨b, o, hp, ?_⟩
  rw [World.cell?_setCell_far _ _ _ _ (by exact Ne.symm (hne b o hp))]
  exact hc
/-- what Parse makes of such a text -/
theorem Far.ne1 {w : World} {p : Option Addr} {m c b : Nat} {k : Value} (h : Far w (.agg #[k, .slice p m c])) (hb : b < w.heap.size) : ∀ q o, p = some ⟨q, o, none⟩ → q ≠ b := fun q o hp => by
  have := h k p m c q o rfl hp
  omega
set_option maxRecDepth 100000 in
theorem lof_any {w : World} (n : Nat) (hn : n < 200) : Calls Tryz.prog 131 #[.int .i64 n] w (ParsD w n) := by
  have h1 : ¬ (n : Int) < 0 := by omega
  have h2 : ¬ (2147483648 : Int) ≤ (n : Int) := by omega
  have h3 : IntKind.u64.wrap (n : Int) = (n : Int) := IntWalk.u64_in _ (by omega)
  have HN := Lib.hid (fun w t => new_32 (w := w) n (by omega) t)
  have H := Lib.hid hn
  have hb0 := Below.new w (.cells #[.int .i64 0, .slice none 0 0, .bool false, .bool false] 118)
  have HB := Lib.hid (And.intro hb0 (Blk.new (w := w) 118 [.int .i64 0, .slice none 0 0, .bool false, .bool false]))
  clear hn hb0
  go_enter Tryz.func131, Tryz.ntmps131
  go_upto_region 1 with fail
  change Hid (Below _ _ (w.alloc (.cells #[.int .i64 0, .slice none 0 0, .bool false, .bool false] 118)) ∧ _) at HB
  generalize w.alloc (.cells #[.int .i64 0, .slice none 0 0, .bool false, .bool false] 118) = W at *
  go_wp2_with fail
  refine (HN.out W 55).mono ?_; rintro e w1 ⟨v, rfl, hv, hb1, hf1⟩
  have hq := Below.new W (.cells #[.int .u64 (n : Nat)] 55)
  rw [Nat.mod_eq_of_lt (show n < 2 ^ 32 by have := H.out; omega)] at hv
  obtain ⟨p, c, e, _⟩ := hv.ex
  replace e : v = .agg #[.int .i64 32, .slice p 1 c] := e
  subst e
  have hb2 := Below.next hq hb1
  have hn3 := Below.new w1 (.cells #[.int .i64 32, .slice p 1 c] 39)
  have hk3 := (HB.out.2.next hb2).next hn3
  have hfw : Far W (.agg #[.int .i64 32, .slice p 1 c]) := fun k p m c b o e hp => Nat.le_trans hq.size (hf1 k p m c b o e hp)
  have HC := Lib.hid (And.intro (hv.below hn3) (And.intro hk3 (And.intro (Below.trans HB.out.1 ((Below.next hb2 hn3).mono (Nat.le_of_lt HB.out.2.lt))) (And.intro (hfw.ne1 HB.out.2.lt) (show Far w (.agg #[.int .i64 32, .slice p 1 c]) from fun k p m c b o e hp => Nat.le_trans (Nat.le_of_lt HB.out.2.lt) (hfw k p m c b o e hp))))))
  change Hid (VR (w1.alloc (.cells #[.int .i64 32, .slice p 1 c] 39)) _ _ _ ∧ _) at HC
  clear hv hb1 hf1 hq hb2 hn3 hk3 hfw HN
  have d0 := HC.out.2.1.cell (i := 0) rfl
  have d1 := HC.out.2.1.cell (i := 1) rfl
  have d2 := HC.out.2.1.cell (i := 2) rfl
  have d3 := HC.out.2.1.cell (i := 3) rfl
  have f0 := HC.out.2.1.frz 0
  have f1 := HC.out.2.1.frz 1
  have f2 := HC.out.2.1.frz 2
  have f3 := HC.out.2.1.frz 3
  have v0 := (Blk.new (w := w1) 39 [.int .i64 32, .slice p 1 c]).cell (i := 0) rfl
  have v1 := (Blk.new (w := w1) 39 [.int .i64 32, .slice p 1 c]).cell (i := 1) rfl
  change (w1.alloc (.cells #[.int .i64 32, .slice p 1 c] 39)).cell? _ = _ at v0
  change (w1.alloc (.cells #[.int .i64 32, .slice p 1 c] 39)).cell? _ = _ at v1
  clear h1 h2 h3
  go_upto_region 4 with fail
  generalize hb4 : w1.heap.size = b4 at *
  generalize (w1.alloc (.cells #[.int .i64 32, .slice p 1 c] 39)) = w5 at *
  clear hb4
  go_wp2_with fail
  have hv := (((HC.out.1.setC HC.out.2.2.2.1 0 (.int .i64 32)).setC HC.out.2.2.2.1 1 (.slice p 1 c)).setC HC.out.2.2.2.1 2 (.bool true)).setC HC.out.2.2.2.1 3 (.bool false)
  have hk := (((HC.out.2.1.set 0 (.int .i64 32)).set 1 (.slice p 1 c)).set 2 (.bool true)).set 3 (.bool false)
  have hb := Below.setCell (Below.setCell (Below.setCell (Below.setCell HC.out.2.2.1 (show w.heap.size ≤ (⟨w.heap.size, 0, none⟩ : Addr).block from Nat.le_refl _) (.int .i64 32)) (show w.heap.size ≤ (⟨w.heap.size, 1, none⟩ : Addr).block from Nat.le_refl _) (.slice p 1 c)) (show w.heap.size ≤ (⟨w.heap.size, 2, none⟩ : Addr).block from Nat.le_refl _) (.bool true)) (show w.heap.size ≤ (⟨w.heap.size, 3, none⟩ : Addr).block from Nat.le_refl _) (.bool false)
  clear d0 d1 d2 d3 f0 f1 f2 f3
  generalize ((((w5.setCell ⟨w.heap.size, 0, none⟩ (.int .i64 32)).setCell ⟨w.heap.size, 1, none⟩ (.slice p 1 c)).setCell ⟨w.heap.size, 2, none⟩ (.bool true)).setCell ⟨w.heap.size, 3, none⟩ (.bool false)) = w9 at *
  have e0 := hk.cell (i := 0) rfl
  have e1 := hk.cell (i := 1) rfl
  have e2 := hk.cell (i := 2) rfl
  have e3 := hk.cell (i := 3) rfl
  exact bodyPost_ret (v := .tuple #[.agg #[.int .i64 32, .slice p 1 c, .bool true, .bool false], .int .i64 0]) (by simp [results, Tryz.results131, go_sem, e0, e1, e2, e3]) rfl ⟨_, _, rfl, hv, hb, HC.out.2.2.2.2⟩

set_option maxRecDepth 100000 in
theorem lplain_any {w : World} (n : Nat) (hn : n < 200) : Calls Tryz.prog 96 #[.string (dec n)] w (ParsD w n) := by
  have HD : Hid (∀ w', Calls Tryz.prog 97 #[.string (dec n), .int .i64 10] w' (DigR w' (dl n))) := Lib.hid fun w' => by
    rw [dec_dl n hn]
    exact digits_any (dl n) 10 (dl_len n).2 (dl_lt n (by omega)) (by decide) (by have := (dl_len n).1; omega)
  have HS : Hid (∀ (w' : World) (v : Value), RO w' v 1 (dl n).length (ints (natI (dl n))) → Calls Tryz.prog 98 #[v, .int .i64 2147483648] w' fun e w'' => e = .returned (.int .i64 n) ∧ w' = w'') := Lib.hid fun w' v hv => by
    have h := small_all (dl n) 2147483648 hv (fun d h => by have := dl_lt n (by omega) d h; omega) (by omega) (by have := (dl_len n).1; omega)
    rwa [dl_val2 n hn] at h
  have HO : Hid (∀ w', Calls Tryz.prog 131 #[.int .i64 n] w' (ParsD w' n)) := Lib.hid fun w' => lof_any n hn
  have hb0 := Below.new w (.cells #[.int .i64 0, .slice none 0 0, .bool false, .bool false] 118)
  have HB := Lib.hid (And.intro hb0 (Blk.new (w := w) 118 [.int .i64 0, .slice none 0 0, .bool false, .bool false]))
  clear hn hb0
  go_enter Tryz.func96, Tryz.ntmps96
  go_upto_region 1 with fail
  change Hid (Below _ _ (w.alloc (.cells #[.int .i64 0, .slice none 0 0, .bool false, .bool false] 118)) ∧ _) at HB
  generalize w.alloc (.cells #[.int .i64 0, .slice none 0 0, .bool false, .bool false] 118) = W at *
  go_wp2_with fail
  refine (HD.out _).mono ?_; rintro e w2 ⟨v2, rfl, ho2, hb2⟩
  obtain ⟨p2, c2, rfl⟩ := ownsRow_form ho2
  have HSm := Lib.hid (HS.out _ _ (RO.own ho2))
  have H2 := Lib.hid (And.intro (Below.trans HB.out.1 (hb2.mono (Nat.le_of_lt HB.out.2.lt))) (HB.out.2.next hb2))
  generalize (dl n).length = q at *
  clear hb2 ho2 HB HD HS
  go_wp2_with fail
  refine HSm.out.mono ?_; rintro e w3 ⟨rfl, rfl⟩
  clear HSm
  go_wp2_with fail
  refine (HO.out _).mono ?_; rintro e w7 ⟨p, c, rfl, hv, hb7, hf7⟩
  have HC := Lib.hid (And.intro hv (And.intro (H2.out.2.next hb7) (And.intro (Below.trans H2.out.1 (hb7.mono (Nat.le_of_lt H2.out.2.lt))) (And.intro (hf7.ne1 H2.out.2.lt) (show Far w (.agg #[.int .i64 32, .slice p 1 c]) from fun k p m c b o e hp => Nat.le_trans (Nat.le_of_lt H2.out.2.lt) (hf7 k p m c b o e hp))))))
  clear hv hb7 hf7 HO
  have d0 := HC.out.2.1.cell (i := 0) rfl
  have d1 := HC.out.2.1.cell (i := 1) rfl
  have d2 := HC.out.2.1.cell (i := 2) rfl
  have d3 := HC.out.2.1.cell (i := 3) rfl
  have f0 := HC.out.2.1.frz 0
  have f1 := HC.out.2.1.frz 1
  have f2 := HC.out.2.1.frz 2
  have f3 := HC.out.2.1.frz 3
  go_wp2_with fail
  have hv := (((HC.out.1.setC HC.out.2.2.2.1 0 (.int .i64 32)).setC HC.out.2.2.2.1 1 (.slice p 1 c)).setC HC.out.2.2.2.1 2 (.bool true)).setC HC.out.2.2.2.1 3 (.bool false)
  have hk := (((HC.out.2.1.set 0 (.int .i64 32)).set 1 (.slice p 1 c)).set 2 (.bool true)).set 3 (.bool false)
  have hb := Below.setCell (Below.setCell (Below.setCell (Below.setCell HC.out.2.2.1 (show w.heap.size ≤ (⟨w.heap.size, 0, none⟩ : Addr).block from Nat.le_refl _) (.int .i64 32)) (show w.heap.size ≤ (⟨w.heap.size, 1, none⟩ : Addr).block from Nat.le_refl _) (.slice p 1 c)) (show w.heap.size ≤ (⟨w.heap.size, 2, none⟩ : Addr).block from Nat.le_refl _) (.bool true)) (show w.heap.size ≤ (⟨w.heap.size, 3, none⟩ : Addr).block from Nat.le_refl _) (.bool false)
  clear d0 d1 d2 d3 f0 f1 f2 f3
  generalize ((((w7.setCell ⟨w.heap.size, 0, none⟩ (.int .i64 32)).setCell ⟨w.heap.size, 1, none⟩ (.slice p 1 c)).setCell ⟨w.heap.size, 2, none⟩ (.bool true)).setCell ⟨w.heap.size, 3, none⟩ (.bool false)) = w9 at *
  have e0 := hk.cell (i := 0) rfl
  have e1 := hk.cell (i := 1) rfl
  have e2 := hk.cell (i := 2) rfl
  have e3 := hk.cell (i := 3) rfl
  exact bodyPost_ret (v := .tuple #[.agg #[.int .i64 32, .slice p 1 c, .bool true, .bool false], .int .i64 0]) (by simp [results, Tryz.results96, go_sem, e0, e1, e2, e3]) rfl ⟨_, _, rfl, hv, hb, HC.out.2.2.2.2⟩

set_option maxRecDepth 100000 in
theorem lparse_any {w : World} (n : Nat) (hn : n < 200) (hm : Max w) : Calls Tryz.prog 54 #[.string (dec n)] w (ParsD w n) := by
  have HC0 : Hid (∀ w', Below w.heap.size w w' → Calls Tryz.prog 95 #[.string (dec n), .string ⟨#[39]⟩] w' fun e w'' => e = .returned (.tuple #[.string (dec n), .string ⟨#[]⟩, .bool false]) ∧ Below w'.heap.size w' w'') := Lib.hid fun w' hbw => by
    obtain ⟨m, hm⟩ := hm.below hbw
    have hcc := Tryz.strings_Cut (dec n) ⟨#[39]⟩ m w' (by rw [dec_dl n hn]; show (hexL (dl n)).toArray.size < _; have := (dl_len n).1; simp [hexL]; omega) hm
    have e1 : (dec n).data.toList = hexL (dl n) := by rw [dec_dl n hn]
    rw [e1, show (⟨#[39]⟩ : ByteArray).data.toList = [39] from rfl, cut_none (hexL_no _ (fun d h => by have := dl_lt n (by omega) d h; omega))] at hcc
    rw [dec_dl n hn]
    rw [dec_dl n hn] at hcc
    exact hcc.mono fun e w'' ⟨he, k, hk⟩ => ⟨he, by rw [hk]; exact below_drewK k⟩
  have HO : Hid (∀ w', Calls Tryz.prog 96 #[.string (dec n)] w' (ParsD w' n)) := Lib.hid fun w' => lplain_any n hn
  have hb0 := Below.new w (.cells #[.int .i64 0, .slice none 0 0, .bool false, .bool false] 118)
  have HB := Lib.hid (And.intro hb0 (Blk.new (w := w) 118 [.int .i64 0, .slice none 0 0, .bool false, .bool false]))
  clear hn hb0 hm
  go_enter Tryz.func54, Tryz.ntmps54
  go_upto_region 1 with fail
  change Hid (Below _ _ (w.alloc (.cells #[.int .i64 0, .slice none 0 0, .bool false, .bool false] 118)) ∧ _) at HB
  generalize w.alloc (.cells #[.int .i64 0, .slice none 0 0, .bool false, .bool false] 118) = W at *
  go_wp2_with fail
  refine (HC0.out _ HB.out.1).mono ?_; rintro e w2 ⟨rfl, hb2⟩
  have H2 := Lib.hid (And.intro (Below.trans HB.out.1 (hb2.mono (Nat.le_of_lt HB.out.2.lt))) (HB.out.2.next hb2))
  clear hb2 HB HC0
  go_wp2_with fail
  refine (HO.out _).mono ?_; rintro e w7 ⟨p, c, rfl, hv, hb7, hf7⟩
  have HC := Lib.hid (And.intro hv (And.intro (H2.out.2.next hb7) (And.intro (Below.trans H2.out.1 (hb7.mono (Nat.le_of_lt H2.out.2.lt))) (And.intro (hf7.ne1 H2.out.2.lt) (show Far w (.agg #[.int .i64 32, .slice p 1 c]) from fun k p m c b o e hp => Nat.le_trans (Nat.le_of_lt H2.out.2.lt) (hf7 k p m c b o e hp))))))
  clear hv hb7 hf7 HO
  have d0 := HC.out.2.1.cell (i := 0) rfl
  have d1 := HC.out.2.1.cell (i := 1) rfl
  have d2 := HC.out.2.1.cell (i := 2) rfl
  have d3 := HC.out.2.1.cell (i := 3) rfl
  have f0 := HC.out.2.1.frz 0
  have f1 := HC.out.2.1.frz 1
  have f2 := HC.out.2.1.frz 2
  have f3 := HC.out.2.1.frz 3
  go_wp2_with fail
  have hv := (((HC.out.1.setC HC.out.2.2.2.1 0 (.int .i64 32)).setC HC.out.2.2.2.1 1 (.slice p 1 c)).setC HC.out.2.2.2.1 2 (.bool true)).setC HC.out.2.2.2.1 3 (.bool false)
  have hk := (((HC.out.2.1.set 0 (.int .i64 32)).set 1 (.slice p 1 c)).set 2 (.bool true)).set 3 (.bool false)
  have hb := Below.setCell (Below.setCell (Below.setCell (Below.setCell HC.out.2.2.1 (show w.heap.size ≤ (⟨w.heap.size, 0, none⟩ : Addr).block from Nat.le_refl _) (.int .i64 32)) (show w.heap.size ≤ (⟨w.heap.size, 1, none⟩ : Addr).block from Nat.le_refl _) (.slice p 1 c)) (show w.heap.size ≤ (⟨w.heap.size, 2, none⟩ : Addr).block from Nat.le_refl _) (.bool true)) (show w.heap.size ≤ (⟨w.heap.size, 3, none⟩ : Addr).block from Nat.le_refl _) (.bool false)
  clear d0 d1 d2 d3 f0 f1 f2 f3
  generalize ((((w7.setCell ⟨w.heap.size, 0, none⟩ (.int .i64 32)).setCell ⟨w.heap.size, 1, none⟩ (.slice p 1 c)).setCell ⟨w.heap.size, 2, none⟩ (.bool true)).setCell ⟨w.heap.size, 3, none⟩ (.bool false)) = w9 at *
  have e0 := hk.cell (i := 0) rfl
  have e1 := hk.cell (i := 1) rfl
  have e2 := hk.cell (i := 2) rfl
  have e3 := hk.cell (i := 3) rfl
  exact bodyPost_ret (v := .tuple #[.agg #[.int .i64 32, .slice p 1 c, .bool true, .bool false], .int .i64 0]) (by simp [results, Tryz.results54, go_sem, e0, e1, e2, e3]) rfl ⟨_, _, rfl, hv, hb, HC.out.2.2.2.2⟩

end Go.Proofs.YtkoggfahjlnecaaGreatDoor
