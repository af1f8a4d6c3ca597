import Derived.Test.YtfhakomhkmbmeaaDoorN3
namespace Go.Proofs.YtfhakomhkmbmeaaDoor
set_option linter.unusedVariables false
open Go.RowKit

/-- the number of digits in a base -/
def valH (b : Nat) (ds : List Nat) : Nat := ds.foldl (fun a d => a * b + d) 0
theorem valH_take (b : Nat) (ds : List Nat) {k : Nat} (h : k < ds.length) : valH b (ds.take (k + 1)) = valH b (ds.take k) * b + ds.getD k 0 := by
  rw [List.take_add_one, List.getElem?_eq_getElem h]
  unfold valH
  rw [List.foldl_append]
  simp only [Option.toList, List.foldl_cons, List.foldl_nil, List.getD, List.getElem?_eq_getElem h, Option.getD_some]
theorem valW_one (d : Nat) : valW [d] = d := by simp [valW]
theorem ro_lit (w : World) (t d : Nat) : RO (w.alloc (.cells #[.int .u64 ((d : Nat) : Int)] t)) (.slice (some ⟨w.heap.size, 0, none⟩) 1 1) 1 [d].length (natsV [d]) := RO.ofCells (Blk.new (w := w) t [.int .u64 ((d : Nat) : Int)]) rfl
theorem ro_nil0 (w : World) : RO w (.slice none 0 0) 1 ([] : List Nat).length (natsV []) := ⟨rfl, _, _, rfl, fun j u hj => by simp [natsV] at hj⟩
/-- New of one small number, or of none -/
theorem new_one {w : World} (n d : Nat) (h1 : 1 ≤ n) (h2 : n ≤ 128) (hd : d < 16 + 1) (t : Nat) : Calls Tryd.prog 47 #[.int .i64 n, .slice (some ⟨w.heap.size, 0, none⟩) 1 1] (w.alloc (.cells #[.int .u64 ((d : Nat) : Int)] t)) (RetE (w.alloc (.cells #[.int .u64 ((d : Nat) : Int)] t)) n (d % 2 ^ n) 0) := by
  have h := new_good n h1 h2 _ (ro_lit w t d) (by intro x hx; simp at hx; omega)
  rwa [valW_one] at h
theorem new_zero {w : World} (n : Nat) (h1 : 1 ≤ n) (h2 : n ≤ 128) : Calls Tryd.prog 47 #[.int .i64 n, .slice none 0 0] w (RetE w n 0 0) := by
  have h := new_good n h1 h2 _ (ro_nil0 w) (by intro x hx; simp at hx)
  rwa [show valW [] % 2 ^ n = 0 from Nat.zero_mod _] at h
theorem bits_step (X B d n b : Nat) (hB : B = b % 2 ^ n) {V : Nat} (hX : X = V % 2 ^ n) : (X * B % 2 ^ n + d % 2 ^ n + 0) % 2 ^ n = (V * b + d) % 2 ^ n := by
  subst hB; subst hX
  rw [Nat.add_zero, ← Nat.mul_mod, ← Nat.add_mod]
/-- the loop of bits: the boxes of the result, of the sum (in block g7), of the base (g9) -/
structure BitsL (w : World) (g7 g9 n : Nat) (ps pb : Option Addr) (cs cb X B : Nat) (wr : World) : Prop where
  tr : Tr w [(g9, 27, [.int .i64 n, .slice pb (wcount n) cb]), (g7, 27, [.int .i64 n, .slice ps (wcount n) cs]), (w.heap.size, 27, [.int .i64 0, .slice none 0 0])] wr
  vs : VR wr (.agg #[.int .i64 n, .slice ps (wcount n) cs]) n X
  vb : VR wr (.agg #[.int .i64 n, .slice pb (wcount n) cb]) n B
  n1 : ∀ b o, ps = some ⟨b, o, none⟩ → b ≠ w.heap.size
  far : Far w (.agg #[.int .i64 n, .slice ps (wcount n) cs])
  n3 : ∀ b o, pb = some ⟨b, o, none⟩ → b ≠ w.heap.size
  n4 : ∀ b o, pb = some ⟨b, o, none⟩ → b ≠ g7
theorem BitsL.below {w wr wr' : World} {g7 g9 n : Nat} {ps pb : Option Addr} {cs cb X B : Nat} (h : BitsL w g7 g9 n ps pb cs cb X B wr) (hb : Below wr.heap.size wr wr') : BitsL w g7 g9 n ps pb cs cb X B wr' :=
  ⟨h.tr.below hb, h.vs.below hb, h.vb.below hb, h.n1, h.far, h.n3, h.n4⟩
theorem BitsL.store {w wr w4 : World} {g7 g9 n : Nat} {ps pb p4 : Option Addr} {cs cb c4 X X4 B : Nat} (h : BitsL w g7 g9 n ps pb cs cb X B wr) (hb : Below wr.heap.size wr w4) (hv : VR w4 (.agg #[.int .i64 n, .slice p4 (wcount n) c4]) n X4) (hf : Far wr (.agg #[.int .i64 n, .slice p4 (wcount n) c4])) :
    BitsL w g7 g9 n p4 pb c4 cb X4 B ((w4.setCell ⟨g7, 0, none⟩ (.int .i64 n)).setCell ⟨g7, 1, none⟩ (.slice p4 (wcount n) c4)) := by
  have hb' := h.below hb
  have l7 := (h.tr.at 1 rfl).lt
  have l6 := (h.tr.at 2 rfl).lt
  exact ⟨hb'.tr.two 1 rfl, hv.set2 (hf.ne l7), hb'.vb.set2 h.n4, hf.ne l6, fun k p m c b o e hp => Nat.le_trans h.tr.bel.size (hf k p m c b o e hp), h.n3, h.n4⟩
set_option maxRecDepth 100000 in
set_option maxHeartbeats 8000000 in
theorem bits_any {w : World} {v : Value} (ds : List Nat) (b n : Nat) (hv : RO w v 1 ds.length (ints (natI ds))) (hd : ∀ d ∈ ds, d < 16) (hb : b ≤ 16) (h1 : 1 ≤ n) (h2 : n ≤ 128) (hl : ds.length ≤ 1000) :
    Calls Tryd.prog 19 #[v, .int .i64 b, .int .i64 n] w (RetV w n (valH b ds % 2 ^ n)) := by
  obtain ⟨p, c, rfl⟩ := hv.form
  obtain ⟨L, hL⟩ : ∃ L, ds.length = L := ⟨_, rfl⟩
  have hk : ∀ k, k < L → ds.getD k 0 < 16 := fun k h => hd _ (by simp [List.getD, List.getElem?_eq_getElem (show k < ds.length by omega)])
  have H := Lib.hid (And.intro hv (And.intro hL (And.intro hk (And.intro hb (And.intro h1 h2)))))
  rw [hL]
  have hLi : (L : Int) ≤ 1000 := by omega
  have hbi : (b : Int) ≤ 16 := by omega
  have HZ := Lib.hid (fun w : World => new_zero (w := w) n h1 h2)
  have HO := Lib.hid (fun (w : World) (d : Nat) (hd : d < 16 + 1) => new_one (w := w) n d h1 h2 hd 60)
  have hbw : IntKind.u64.wrap (b : Int) = (b : Int) := by rw [IntKind.wrap_u64]; omega
  clear hv hk hd hb hl hL h1 h2
  go_enter Tryd.func19, Tryd.ntmps19
  go_wp2_with fail
  have hT := (Tr.nil w).lay 27 [.int .i64 0, .slice none 0 0]
  generalize w.alloc (.cells [Value.int .i64 0, .slice none 0 0].toArray 27) = W at *
  have HT := Lib.hid hT
  clear hT
  refine (HZ.out _).mono ?_; rintro e w2 ⟨v2, rfl, hv2, hb2, hf2⟩
  obtain ⟨p2, c2, rfl, _⟩ := hv2.ex
  have hT2 := (HT.out.below hb2).lay 27 [.int .i64 n, .slice p2 (wcount n) c2]
  have hW := (HT.out.far 0 rfl)
  have hWl := (HT.out.at 0 rfl).lt
  have hv2' := hv2.below (Below.new w2 (.cells #[.int .i64 n, .slice p2 (wcount n) c2] 27))
  have n1 := hf2.ne hWl
  have n2 := hv2.new_ne (by have := H.out.2.2.2.2.1; omega)
  obtain ⟨g7, hg7⟩ : ∃ g, w2.heap.size = g := ⟨_, rfl⟩
  have hs7 : g7 < (w2.alloc (.cells #[.int .i64 n, .slice p2 (wcount n) c2] 27)).heap.size := by rw [World.size_alloc]; omega
  have hfw : Far w (.agg #[.int .i64 n, .slice p2 (wcount n) c2]) := fun k p m c b o e hp => Nat.le_trans HT.out.bel.size (hf2 k p m c b o e hp)
  have HV2 := Lib.hid (And.intro hT2 (And.intro hv2' (And.intro n1 (And.intro hfw hs7))))
  clear hT2 hv2' n1 n2 hfw hv2 hf2 hb2 hW hWl HT hs7
  go_upto_region 2 with fail
  rw [hg7] at HV2
  generalize w2.alloc (.cells #[.int .i64 n, .slice p2 (wcount n) c2] 27) = W2 at *
  clear hg7
  go_wp2_with fail
  refine (HO.out W2 b (by have := H.out.2.2.2.1; omega)).mono ?_; rintro e w3 ⟨v3, rfl, hv3, hb3, hf3⟩
  obtain ⟨p3, c3, rfl, _⟩ := hv3.ex
  have hbn := Below.next (Below.new W2 (.cells #[.int .u64 ((b : Nat) : Int)] 60)) hb3
  have hT3 := (HV2.out.1.below hbn).lay 27 [.int .i64 n, .slice p3 (wcount n) c3]
  have hbx := Below.new w3 (.cells #[.int .i64 n, .slice p3 (wcount n) c3] 27)
  have m7 : g7 < (W2.alloc (.cells #[.int .u64 ((b : Nat) : Int)] 60)).heap.size := by rw [World.size_alloc]; have := HV2.out.2.2.2.2; omega
  have m6 : w.heap.size < (W2.alloc (.cells #[.int .u64 ((b : Nat) : Int)] 60)).heap.size := by rw [World.size_alloc]; have := (HV2.out.1.at 1 rfl).lt; omega
  have hL0 : BitsL w g7 w3.heap.size n p2 p3 c2 c3 0 (b % 2 ^ n) (w3.alloc (.cells #[.int .i64 n, .slice p3 (wcount n) c3] 27)) :=
    ⟨hT3, (HV2.out.2.1.below hbn).below hbx, hv3.below hbx, HV2.out.2.2.1, HV2.out.2.2.2.1, hf3.ne m6, hf3.ne m7⟩
  obtain ⟨g9, hg9⟩ : ∃ g, w3.heap.size = g := ⟨_, rfl⟩
  rw [hg9] at hL0
  have HL0 := Lib.hid hL0
  clear hbn hT3 hbx m7 m6 hL0 hv3 hf3 hb3 HV2
  go_upto_region 3 with fail
  generalize w3.alloc (.cells #[.int .i64 n, .slice p3 (wcount n) c3] 27) = W3 at *
  clear hg9
  go_wp2_with fail
  go_loopw [30] (fun iv wr => ∃ (i X : Nat) (ps : Option Addr) (cs : Nat), i ≤ L ∧ iv = .int .i64 i ∧ X = valH b (ds.take i) % 2 ^ n ∧ BitsL w g7 g9 n ps p3 cs c3 X (b % 2 ^ n) wr) (fun iv _ => L - (intOf iv).toNat)
  case atStart => exact ⟨0, 0, _, _, Nat.zero_le _, rfl, by simp [valH], HL0.out⟩
  case round =>
    clear HL0
    obtain ⟨i, X, ps, cs, hi, rfl, hX, hB⟩ := hrel
    by_cases hlt : i < L
    · have hil : i < ds.length := by rw [H.out.2.1]; exact hlt
      have hat := natI_at ds i hil
      have hro := H.out.1.below hB.tr.bel
      obtain ⟨bb, o, hp⟩ := hro.sl hat
      subst hp
      have hc := hro.cell hat
      have hst := valH_take b ds hil
      have hd16 := H.out.2.2.1 i hlt
      generalize ds.getD i 0 = d at *
      have hii : (i : Int) < L := by omega
      have hiw : IntKind.i64.wrap ((i : Int) + 1) = (i : Int) + 1 := i64_of (by omega)
      have hdw : IntKind.u64.wrap (d : Int) = (d : Int) := by rw [IntKind.wrap_u64]; omega
      have HBin := Lib.hid (bin_2 hB.vs hB.vb H.out.2.2.2.2.1)
      have r0 := (hB.tr.pr 1 rfl).1
      have r1 := (hB.tr.pr 1 rfl).2
      have s0 := (hB.tr.pr 0 rfl).1
      have s1 := (hB.tr.pr 0 rfl).2
      have HB := Lib.hid (And.intro hB (And.intro hX (And.intro hst (And.intro hd16 hlt))))
      clear hB hX hst hd16 hlt hi hil hat hro
      go_wp2_with fail
      refine HBin.out.mono ?_; rintro e w4 ⟨v4, rfl, hv4, hb4, hf4⟩
      obtain ⟨p4, c4, rfl, _⟩ := hv4.ex
      have hB4 := HB.out.1.store hb4 hv4 hf4
      have t0 := ((HB.out.1.tr.below hb4).at 1 rfl).cell (i := 0) rfl
      have t1 := ((HB.out.1.tr.below hb4).at 1 rfl).cell (i := 1) rfl
      have f0 := ((HB.out.1.tr.below hb4).at 1 rfl).frz 0
      have f1 := ((HB.out.1.tr.below hb4).at 1 rfl).frz 1
      have HB4 := Lib.hid hB4
      clear hB4 hv4 hb4 hf4 r0 r1 s0 s1
      go_upto_region 7 with fail
      clear t0 t1 f0 f1
      generalize (w4.setCell ⟨g7, 0, none⟩ (.int .i64 n)).setCell ⟨g7, 1, none⟩ (.slice p4 (wcount n) c4) = W4 at *
      go_wp2_with fail
      refine (HO.out W4 d (by have := HB.out.2.2.2.1; omega)).mono ?_; rintro e w5 ⟨v5, rfl, hv5, hb5, hf5⟩
      obtain ⟨p5, c5, rfl, _⟩ := hv5.ex
      have hbn := Below.next (Below.new W4 (.cells #[.int .u64 ((d : Nat) : Int)] 60)) hb5
      have hbx := Below.new w5 (.cells #[.int .i64 n, .slice p5 (wcount n) c5] 27)
      have hB5 := (HB4.out.below hbn).below hbx
      have hk5 := Blk.new (w := w5) 27 [.int .i64 n, .slice p5 (wcount n) c5]
      have HB5 := Lib.hid (And.intro hB5 (hv5.below hbx))
      have HBin2 := Lib.hid (bin_0 hB5.vs (hv5.below hbx) H.out.2.2.2.2.1)
      have r0 := (hB5.tr.pr 1 rfl).1
      have r1 := (hB5.tr.pr 1 rfl).2
      have s0 := hk5.cell (i := 0) rfl
      have s1 := hk5.cell (i := 1) rfl
      obtain ⟨g13, hg13⟩ : ∃ g, w5.heap.size = g := ⟨_, rfl⟩
      rw [hg13] at s0 s1
      clear hbn hbx hB5 hk5 hv5 hb5 hf5
      go_upto_region 8 with fail
      generalize w5.alloc (.cells #[.int .i64 n, .slice p5 (wcount n) c5] 27) = W5 at *
      clear hg13
      go_wp2_with fail
      refine HBin2.out.mono ?_; rintro e w6 ⟨v6, rfl, hv6, hb6, hf6⟩
      obtain ⟨p6, c6, rfl, _⟩ := hv6.ex
      have hB6 := HB5.out.1.store hb6 hv6 hf6
      have t0 := ((HB5.out.1.tr.below hb6).at 1 rfl).cell (i := 0) rfl
      have t1 := ((HB5.out.1.tr.below hb6).at 1 rfl).cell (i := 1) rfl
      have f0 := ((HB5.out.1.tr.below hb6).at 1 rfl).frz 0
      have f1 := ((HB5.out.1.tr.below hb6).at 1 rfl).frz 1
      have HB6 := Lib.hid hB6
      clear hB6 hv6 hb6 hf6 r0 r1 s0 s1
      go_wp2_with fail
      go_roundw
      case rel =>
        refine ⟨i + 1, _, _, _, HB.out.2.2.2.2, by go_num, ?_, HB6.out⟩
        rw [HB.out.2.2.1]
        exact bits_step _ _ _ _ _ rfl HB.out.2.1
      case measure => have := HB.out.2.2.2.2; simp [intOf]; omega
    · obtain rfl : i = L := by omega
      rw [List.take_of_length_le (by have := H.out.2.1; omega)] at hX
      subst hX
      have r0 := (hB.tr.pr 1 rfl).1
      have r1 := (hB.tr.pr 1 rfl).2
      have s0 := (hB.tr.pr 2 rfl).1
      have s1 := (hB.tr.pr 2 rfl).2
      have f0 := (hB.tr.at 2 rfl).frz 0
      have f1 := (hB.tr.at 2 rfl).frz 1
      have HB := Lib.hid hB
      clear hB hi hlt
      go_wp2_with fail
      have hv := HB.out.vs.set2 (x1 := .int .i64 n) (y1 := .slice ps (wcount n) cs) HB.out.n1
      have ht := HB.out.tr.two 2 (x := .int .i64 n) (y := .slice ps (wcount n) cs) rfl
      have e0 := (ht.pr 2 rfl).1
      have e1 := (ht.pr 2 rfl).2
      exact bodyPost_ret (v := .agg #[.int .i64 n, .slice ps (wcount n) cs]) (by simp [results, Tryd.results19, go_sem, e0, e1]) rfl ⟨_, rfl, hv, ht.bel, HB.out.far⟩
end Go.Proofs.YtfhakomhkmbmeaaDoor
