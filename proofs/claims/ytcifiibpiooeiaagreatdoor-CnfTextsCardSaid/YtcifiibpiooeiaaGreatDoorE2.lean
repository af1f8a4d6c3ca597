import Derived.Test.YtcifiibpiooeiaaGreatDoorE1
namespace Go.Proofs.YtcifiibpiooeiaaGreatDoor
set_option linter.unusedVariables false
open Go.RowKit Go.Sort

theorem norm_self {l : List Int} (h : SS l) : norm l = l := (norm_eq h fun _ => Iff.rfl).symm
theorem addC_self {v : Nat} {cls : List (List Int)} {l : List Int} (hs : SS l) (hk : ∀ x ∈ l, x ≠ 0 ∧ x.natAbs ≤ v) (ht : taut l = false) (hl : l.length ≤ 1000) (hc : cls.length < 200000) : addC v cls l = (cls ++ [l], 0) := by
  unfold addC
  rw [if_neg (by
    intro h
    obtain ⟨x, hx, hb⟩ := List.any_eq_true.1 h
    have := (known_iff v x).2 (hk x hx)
    simp [this] at hb), if_neg (by omega), if_neg (by rw [ht]; simp), norm_self hs]

set_option maxRecDepth 100000 in
set_option maxHeartbeats 8000000 in
/-- the first line, read -/
theorem first_any {w : World} {v k : Nat} (hmax : Max w) (htab : Lib.TabIs Tryz.prog w "internal/strconv.uint64pow10" .u64 Lib.pow10Tab) (hv : v ≤ 60000) (hk : k ≤ 200000) :
    Calls Tryz.prog 26 #[.string ⟨(hdr ++ Lib.join ([(v : Int), (k : Int)].map Lib.itoa) [32]).toArray⟩] w fun e w' => e = .returned (.tuple #[.int .i64 v, .int .i64 k, .int .i64 0]) ∧ Below w.heap.size w w' := by
  have hcut := Tryz.strings_CutPrefix ⟨(hdr ++ Lib.join ([(v : Int), (k : Int)].map Lib.itoa) [32]).toArray⟩ ⟨#[112, 32, 99, 110, 102, 32]⟩ w
  rw [show (⟨(hdr ++ Lib.join ([(v : Int), (k : Int)].map Lib.itoa) [32]).toArray⟩ : ByteArray).data.toList = hdr ++ Lib.join ([(v : Int), (k : Int)].map Lib.itoa) [32] by simp, show (⟨#[112, 32, 99, 110, 102, 32]⟩ : ByteArray).data.toList = hdr from rfl,
    (head_prefix _).1, (head_prefix _).2] at hcut
  have hnum := numbers_any (w := w) (x := (v : Int)) (r := [(k : Int)]) hmax htab (fun y hy => by simp at hy; omega) (by simp)
  unfold numsS at hnum
  obtain ⟨J, hJ⟩ : ∃ J, Lib.join ([(v : Int), (k : Int)].map Lib.itoa) [32] = J := ⟨_, rfl⟩
  rw [hJ] at hcut hnum ⊢
  have HCut := Lib.hid hcut
  have HNum := Lib.hid hnum
  have hd1 : decide ((v : Int) < 0) = false := decide_eq_false (by omega)
  have hd2 : decide ((k : Int) < 0) = false := decide_eq_false (by omega)
  have hd3 : decide ((60000 : Int) < v) = false := decide_eq_false (by omega)
  have hd4 : decide ((200000 : Int) < k) = false := decide_eq_false (by omega)
  clear hmax htab hv hk hcut hnum hJ
  go_enter Tryz.func26, Tryz.ntmps26
  go_wp2_with fail
  refine HCut.out.mono ?_
  rintro e w1 ⟨rfl, hw1⟩
  have HW := Lib.hid hw1
  subst hw1
  go_wp2_with fail
  refine HNum.out.mono ?_
  rintro e w2 ⟨v2, rfl, ho, hb2⟩
  have hro := RO.own ho
  obtain ⟨p2, c2, rfl⟩ := hro.form
  obtain ⟨b, o, rfl⟩ := hro.sl (j := 0) (u := .int .i64 v) rfl
  have c0 := hro.cell (j := 0) (u := .int .i64 v) rfl
  have c1 := hro.cell (j := 1) (u := .int .i64 k) rfl
  have HB := Lib.hid hb2
  simp only [List.length_cons, List.length_nil, Nat.add_zero] at c0 ⊢
  clear hro ho hb2 HCut HNum
  go_wp2_with fail
  go_region
  go_wp2_with fail
  go_ret3
  exact ⟨rfl, HB.out.drew⟩

/-- what clause does with a line of a clause -/
theorem Upd.after {F F' : Nat → Prop} {w w1 w' : World} (hb : Below w.heap.size w w1) (hu : Upd F F' w1 w') : Upd F F' w w' := (Upd.below hb).trans hu
theorem numbers_list {w : World} {l : List Int} (h : l ≠ []) (hmax : Max w) (htab : Lib.TabIs Tryz.prog w "internal/strconv.uint64pow10" .u64 Lib.pow10Tab) (hb : ∀ y ∈ l, y.natAbs < 1000000000) (hn : l.length ≤ 2000) :
    Calls Tryz.prog 58 #[.string ⟨(Lib.join (l.map Lib.itoa) [32]).toArray⟩] w (NumR w l) := by
  cases l with
  | nil => exact absurd rfl h
  | cons x r => exact numbers_any hmax htab hb hn
set_option maxRecDepth 100000 in
set_option maxHeartbeats 8000000 in
theorem clausep_any {A : Nat → Prop} {w : World} {bc : Nat} {F v cls} {l : List Int} (hA : ∀ k, A k → k < w.heap.size) (h : HasC A w bc F v cls) (hw : WFC v cls) (hmax : Max w) (htab : Lib.TabIs Tryz.prog w "internal/strconv.uint64pow10" .u64 Lib.pow10Tab)
    (hs : SS l) (hk : ∀ x ∈ l, x ≠ 0 ∧ x.natAbs ≤ v) (ht : taut l = false) (hl : l.length ≤ 1000) (hc : cls.length < 200000) :
    Calls Tryz.prog 27 #[.pointer (some ⟨bc, 0, none⟩), .string ⟨(Lib.join ((l ++ [0]).map Lib.itoa) [32]).toArray⟩] w fun e w' => e = .returned (.int .i64 0) ∧ ∃ F', HasC A w' bc F' v (cls ++ [l]) ∧ Upd F F' w w' := by
  have hv := hw.hv
  have hnum := numbers_list (w := w) (l := l ++ [0]) (by simp) hmax htab (fun y hy => by rcases List.mem_append.1 hy with hy | hy; have := hk y hy; omega; simp at hy; omega) (by simp; omega)
  have hadd : ∀ w', Below w.heap.size w w' → ∀ lv, RO w' lv 1 l.length (ints l) → Calls Tryz.prog 16 #[.pointer (some ⟨bc, 0, none⟩), lv] w' fun e w'' => e = .returned (.int .i64 0) ∧ ∃ F', HasC A w'' bc F' v (cls ++ [l]) ∧ Upd F F' w' w'' := fun w' hb lv hr => by
    have h := add_any (fun k hk => Nat.lt_of_lt_of_le (hA k hk) hb.size) (h.below hb) hw hr (by omega)
    unfold AddR at h
    rwa [addC_self hs hk ht hl hc] at h
  have hpl : ∀ w' lv, RO w' lv 1 l.length (ints l) → Calls Tryz.prog 47 #[lv] w' (PlainR w' l) := fun w' lv hr => plain_any hr (by omega) (fun x hx => ⟨(hk x hx).1, by have := (hk x hx).2; omega⟩)
  have h0 : l.contains 0 = false := by
    cases h : l.contains 0 with
    | false => rfl
    | true => exact absurd rfl (hk 0 (by simpa using h)).1
  obtain ⟨J, hJ⟩ : ∃ J, Lib.join ((l ++ [0]).map Lib.itoa) [32] = J := ⟨_, rfl⟩
  rw [hJ] at hnum ⊢
  clear hJ
  obtain ⟨K, hK⟩ : ∃ K, l.length = K := ⟨_, rfl⟩
  have HX := Lib.hid (And.intro hnum (And.intro hadd (And.intro hpl (And.intro h0 (And.intro (norm_self hs) (And.intro ht hK))))))
  have hK1 : (K : Int) ≤ 1000 := by omega
  clear hA h hw hmax htab hs hk ht hl hc hv hnum hadd hpl h0 hK
  go_enter Tryz.func27, Tryz.ntmps27
  go_wp2_with fail
  refine HX.out.1.mono ?_
  rintro e w1 ⟨v1, rfl, ho, hb1⟩
  have hro := RO.own ho
  obtain ⟨p1, c1, rfl⟩ := hro.form
  have hlen : (l ++ [(0 : Int)]).length = K + 1 := by rw [List.length_append, HX.out.2.2.2.2.2.2]; rfl
  rw [hlen] at hro ⊢
  have hat : (ints (l ++ [0]))[K]? = some (.int .i64 0) := by
    rw [ints_getElem?, List.getElem?_append_right (by rw [HX.out.2.2.2.2.2.2]; exact Nat.le_refl _), HX.out.2.2.2.2.2.2]; simp
  obtain ⟨b, o, rfl⟩ := hro.sl hat
  have cK := hro.cell hat
  have hrt := hro.takeS (k := K) (c' := c1) (by omega)
  have hti : (ints (l ++ [0])).take K = ints l := by
    rw [ints_take, List.take_append_of_le_length (by rw [HX.out.2.2.2.2.2.2]; exact Nat.le_refl _), List.take_of_length_le (by rw [HX.out.2.2.2.2.2.2]; exact Nat.le_refl _)]
  rw [hti] at hrt
  have hKc : K ≤ c1 := by
    obtain ⟨_, _, e, hle⟩ := ownsRow_le ho
    rw [hlen] at hle
    cases e
    omega
  have hwk : IntKind.i64.wrap (((K + 1 : Nat) : Int) - 1) = (K : Int) := i64_of (by omega) |>.trans (by omega)
  have HB := Lib.hid (And.intro hrt hb1)
  clear hro ho hb1 hlen hat hrt hti
  go_wp2_with fail
  have hcells : ∀ j, j < l.length → w1.cell? ⟨b, o + j, none⟩ = some (.int .i64 (l.getD j 0)) := fun j hj => HB.out.1.cell (ints_at l j hj)
  have hcon := Tryz.slices_Contains_int b o K c1 l 0 w1 (by rw [HX.out.2.2.2.2.2.2]; exact Nat.le_refl _) (by omega) hcells
  rw [List.take_of_length_le (by rw [HX.out.2.2.2.2.2.2]; exact Nat.le_refl _), HX.out.2.2.2.1] at hcon
  refine hcon.mono ?_
  clear hcon
  rintro e w2 ⟨rfl, hw2⟩
  subst hw2
  have hrl : RO w2 (.slice (some ⟨b, o, none⟩) K c1) 1 l.length (ints l) := by rw [HX.out.2.2.2.2.2.2]; exact HB.out.1
  have HP := Lib.hid (HX.out.2.2.1 w2 _ hrl)
  have HC := Lib.hid hcells
  clear hcells hrl cK hwk
  go_wp2_with fail
  refine HP.out.mono ?_
  rintro e w3 ⟨_, h2, hb3⟩
  obtain ⟨v3, rfl, hnew⟩ := h2 HX.out.2.2.2.2.2.1
  rw [HX.out.2.2.2.2.1] at hnew
  have hro3 := hnew.1
  obtain ⟨p3, c3, rfl⟩ := hro3.form
  have hrl3 := HB.out.1.below hb3
  have hbw := HB.out.2.trans (hb3.mono HB.out.2.size)
  rw [HX.out.2.2.2.2.2.2] at hro3 ⊢
  have heq : Calls Tryz.prog 60 #[.slice p3 K c3, .slice (some ⟨b, o, none⟩) K c1] w3 fun e w' => e = .returned (.bool true) ∧ ∃ q, w' = w3.drewN q := by
    by_cases hK0 : K = 0
    · subst hK0
      have h := Tryz.slices_Equal_int_empty p3 (some ⟨b, o, none⟩) c3 0 c1 w3 (by omega)
      refine h.mono fun e w' hh => ⟨hh.1, 0, by rw [hh.2]; rfl⟩
    · have hat := ints_at l 0 (by rw [HX.out.2.2.2.2.2.2]; omega)
      obtain ⟨b3, o3, rfl⟩ := hro3.sl hat
      have h := Tryz.slices_Equal_int b3 o3 K c3 b o K c1 l l w3 (by rw [HX.out.2.2.2.2.2.2]; exact Nat.le_refl _) (by rw [HX.out.2.2.2.2.2.2]; exact Nat.le_refl _) (by omega) (by omega) (fun j hj => hro3.cell (ints_at l j hj)) (fun j hj => hrl3.cell (ints_at l j hj))
      rw [beq_self_eq_true] at h
      exact h
  have HE := Lib.hid (And.intro heq (And.intro hrl3 hbw))
  clear heq hrl3 hbw hro3 hnew hb3 h2
  go_wp2_with fail
  refine HE.out.1.mono ?_
  rintro e w4 ⟨rfl, q, hw4⟩
  have hb4 : Below w3.heap.size w3 w4 := by rw [hw4]; exact below_drewN q
  have hbw4 := HE.out.2.2.trans (hb4.mono HE.out.2.2.size)
  have hadd := HX.out.2.1 w4 hbw4 (.slice (some ⟨b, o, none⟩) K c1) (by rw [HX.out.2.2.2.2.2.2]; exact HE.out.2.1.below hb4)
  have HA := Lib.hid (And.intro hadd hbw4)
  clear hw4 hb4 hbw4 hadd
  go_wp2_with fail
  refine HA.out.1.mono ?_
  rintro e w5 ⟨rfl, F5, hc5, hu5⟩
  have H5 := Lib.hid (And.intro hc5 (Upd.after HA.out.2 hu5))
  clear hc5 hu5
  go_wp2_with fail
  go_ret
  exact ⟨rfl, F5, H5.out⟩
end Go.Proofs.YtcifiibpiooeiaaGreatDoor
