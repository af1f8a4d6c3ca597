import Derived.Test.YtcifiibpiooeiaaGreatDoorE2
namespace Go.Proofs.YtcifiibpiooeiaaGreatDoor
set_option linter.unusedVariables false
open Go.RowKit Go.Sort

theorem cut_any {w : World} {a r : List UInt8} (h : (10 : UInt8) ∉ a) (hs : (a ++ 10 :: r).length < 4294967281) (hmax : Max w) :
    Calls Tryz.prog 25 #[.string ⟨(a ++ 10 :: r).toArray⟩, .string ⟨#[10]⟩] w fun e w' => e = .returned (.tuple #[.string ⟨a.toArray⟩, .string ⟨r.toArray⟩, .bool true]) ∧ Below w.heap.size w w' := by
  obtain ⟨m, hm⟩ := hmax
  have hc := Tryz.strings_Cut ⟨(a ++ 10 :: r).toArray⟩ ⟨#[10]⟩ m w (by show (a ++ 10 :: r).toArray.size < _; rw [List.size_toArray]; exact hs) hm
  rw [show (⟨(a ++ 10 :: r).toArray⟩ : ByteArray).data.toList = a ++ 10 :: r by simp, show (⟨#[10]⟩ : ByteArray).data.toList = [10] from rfl, cut_line h] at hc
  refine hc.mono fun e w' hh => ⟨hh.1, ?_⟩
  obtain ⟨n, hn⟩ := hh.2
  rw [hn]; exact below_drewN n
theorem restT_len {v : Nat} {cls : List (List Int)} (hw : WFC v cls) : ∀ j i, cls.length - i = j → (restT cls i).length ≤ 30000 * j
  | 0, i, h => by unfold restT; rw [List.drop_eq_nil_of_le (by omega)]; simp
  | j + 1, i, h => by
    have hi : i < cls.length := by omega
    have ih := restT_len hw j (i + 1) (by omega)
    rw [restT_step cls i hi, List.length_append, List.length_cons]
    have hl := hw.l i hi
    have hb := join_itoa (cls.getD i [] ++ [0]) (fun x hx => by
      rcases List.mem_append.1 hx with hx | hx
      · have := hl.2.1 x hx; have := hw.hv; omega
      · simp at hx; omega)
    have := hl.2.2.2
    simp only [List.length_append, List.length_cons, List.length_nil] at hb
    omega
theorem textC_len {v : Nat} {cls : List (List Int)} (hw : WFC v cls) : (textC v cls).length ≤ 100 + 30000 * cls.length := by
  have h := restT_len hw cls.length 0 (by omega)
  have hb := join_itoa [(v : Int), (cls.length : Int)] (fun x hx => by have := hw.hv; have := hw.n; simp at hx; omega)
  rw [textC_head, List.length_append, List.length_append, List.length_cons]
  simp only [List.length_cons, List.length_nil] at hb
  have : hdr.length = 6 := rfl
  omega
theorem Below.next' {B : Nat} {a b c : World} (h : Below B a b) (k : Below b.heap.size b c) (hB : B ≤ b.heap.size) : Below B a c := h.trans (k.mono hB)
/-- the state of Parse's loop: the lines that are left, the clauses so far -/
structure PS (w : World) (v : Nat) (cls : List (List Int)) (i bc : Nat) (F : Nat → Prop) (wr : World) : Prop where
  hc : HasC (fun k => k < w.heap.size) wr bc F v (cls.take i)
  ge : ∀ k, F k → w.heap.size ≤ k
  bel : Below w.heap.size w wr
theorem PS.step {w : World} {v : Nat} {cls : List (List Int)} {i bc : Nat} {F F' : Nat → Prop} {wr wr' w1 : World} (h : PS w v cls i bc F wr) (hi : i < cls.length) (hb : Below wr.heap.size wr w1)
    (hc : HasC (fun k => k < w.heap.size) wr' bc F' v (cls.take i ++ [cls.getD i []])) (hu : Upd F F' w1 wr') : PS w v cls (i + 1) bc F' wr' := by
  have hb1 := h.bel.trans (hb.mono h.bel.size)
  refine ⟨?_, fun k hk => ?_, hb1.trans (hu.toBelow h.ge hb1.size)⟩
  · rw [List.take_add_one, List.getElem?_eq_getElem hi]
    simpa [List.getD, List.getElem?_eq_getElem hi] using hc
  · rcases hu.sub k hk with hh | hh
    · exact h.ge k hh
    · have := hb1.size; omega
theorem has_nil (A : Nat → Prop) {w : World} {b v : Nat} (h : Blk w b 61 [.int .i64 v, .slice none 0 0]) : HasC A w b (foot b (.slice none 0 0)) v [] :=
  ⟨.slice none 0 0, [], ⟨h, World.ownsRow_nil _ _ _ _, (by intro h; cases h), rfl, fun i hi => absurd hi (by simp)⟩, rfl, fun i hi => absurd hi (by simp)⟩

/-- what Parse makes of a text that Text wrote -/
def ParseR (w : World) (v : Nat) (cls : List (List Int)) (e : Ending) (w' : World) : Prop :=
  ∃ bc F, e = .returned (.tuple #[.pointer (some ⟨bc, 0, none⟩), .int .i64 0, .int .i64 0]) ∧ HasC (fun k => k < w.heap.size) w' bc F v cls ∧ (∀ k, F k → w.heap.size ≤ k) ∧ Below w.heap.size w w'
theorem WFC.takeP {v : Nat} {b : List (List Int)} (hb : WFC v b) (k : Nat) : WFC v (b.take k) :=
  ⟨hb.hv, by have := hb.n; simp; omega, fun i hi => by
    rw [List.length_take] at hi
    have : (b.take k).getD i [] = b.getD i [] := by simp [List.getD, show i < k by omega]
    rw [this]; exact hb.l i (by omega)⟩

set_option maxRecDepth 100000 in
set_option maxHeartbeats 16000000 in
theorem parse_any {w : World} {v : Nat} {cls : List (List Int)} (hw : WFC v cls) (hn : cls.length ≤ 1000) (hmax : Max w) (htab : Lib.TabIs Tryz.prog w "internal/strconv.uint64pow10" .u64 Lib.pow10Tab) :
    Calls Tryz.prog 8 #[.string ⟨(textC v cls).toArray⟩] w (ParseR w v cls) := by
  obtain ⟨n, hnl⟩ : ∃ n, cls.length = n := ⟨_, rfl⟩
  obtain ⟨S, hS⟩ : ∃ S : ByteArray, S = ⟨(textC v cls).toArray⟩ := ⟨_, rfl⟩
  have HW := Lib.hid (And.intro hw (And.intro hnl (And.intro (fun wr (hb : Below w.heap.size w wr) => hmax.below hb) (fun wr (hb : Below w.heap.size w wr) => tab_below htab hb))))
  have HS := Lib.hid hS
  rw [← hS]
  have hni : (n : Int) ≤ 1000 := by omega
  clear hw hn hmax htab hnl hS
  go_enter Tryz.func8, Tryz.ntmps8
  go_wp2_with fail
  go_loopw [0, 5, 6, 7] (fun sv cv lv av wr => (sv = .string S ∧ cv = .pointer none ∧ lv = .int .i64 0 ∧ av = .int .i64 1 ∧ wr = w) ∨ ∃ (i bc : Nat) (F : Nat → Prop) (T : ByteArray), i ≤ n ∧ T = ⟨(restT cls i).toArray⟩ ∧ sv = .string T ∧ cv = .pointer (some ⟨bc, 0, none⟩) ∧ lv = .int .i64 ((n : Int) - i) ∧ av = .int .i64 ((i : Int) + 2) ∧ PS w v cls i bc F wr) (fun _ _ _ av _ => n + 2 - (intOf av).toNat)
  case atStart => exact Or.inl ⟨rfl, rfl, rfl, rfl, rfl⟩
  case round =>
    rcases hrel with ⟨rfl, rfl, rfl, rfl, rfl⟩ | ⟨i, bc, F, T, hi, hT, rfl, rfl, rfl, rfl, hP⟩
    · have hl0 : textC v cls ≠ [] := by rw [textC_head]; simp
      have hne : ¬ S.toList = [] := by rw [HS.out, ByteArray.toList_eq]; simpa using hl0
      have hne2 : (!S.toList.isEmpty) = true := by simpa [List.isEmpty_iff] using hne
      have hcut := cut_any (w := wr) (a := hdr ++ Lib.join ([(v : Int), (cls.length : Int)].map Lib.itoa) [32]) (r := restT cls 0) (nl_head _) (by
        have := textC_len HW.out.1
        rw [textC_head] at this
        have := HW.out.2.1
        omega) (HW.out.2.2.1 wr (Below.refl _ _))
      rw [← textC_head, ← HS.out, HW.out.2.1] at hcut
      have hfi := fun W (hW : Below wr.heap.size wr W) => first_any (v := v) (k := n) (HW.out.2.2.1 W hW) (HW.out.2.2.2 W hW) HW.out.1.hv (by have := HW.out.1.n; have := HW.out.2.1; omega)
      obtain ⟨J, hJ⟩ : ∃ J, (hdr ++ Lib.join ([(v : Int), (n : Int)].map Lib.itoa) [32]).toArray = J := ⟨_, rfl⟩
      obtain ⟨T, hT⟩ : ∃ T : ByteArray, T = ⟨(restT cls 0).toArray⟩ := ⟨_, rfl⟩
      rw [hJ] at hcut hfi
      rw [← hT] at hcut
      have HC := Lib.hid (And.intro hcut hfi)
      have HT := Lib.hid hT
      have hnv : newV (v : Int) = v := by have := HW.out.1.hv; unfold newV; omega
      have hnw := new_any (v : Int)
      rw [hnv] at hnw
      have HNw := Lib.hid hnw
      clear hl0 hcut hfi hJ hT hnv hnw
      go_wp2_with fail
      refine HC.out.1.mono ?_
      rintro e w1 ⟨rfl, hb1⟩
      have HB1 := Lib.hid hb1
      clear hb1
      go_wp2_with fail
      refine (HC.out.2 w1 HB1.out).mono ?_
      rintro e w2 ⟨rfl, hb2⟩
      have HB2 := Lib.hid (Below.next HB1.out hb2)
      clear hb2
      go_wp2_with fail
      refine (HNw.out w2).mono ?_
      rintro e w3 ⟨rfl, hw3⟩
      have hcc := Blk.new (w := w2) 61 [.int .i64 v, .slice none 0 0]
      have hbn := Below.new w2 (.cells #[.int .i64 v, .slice none 0 0] 61)
      rw [← show w3 = _ from hw3] at hcc hbn
      have HP0 : Hid (PS wr v cls 0 w2.heap.size (foot w2.heap.size (.slice none 0 0)) w3) := Lib.hid ⟨by rw [List.take_zero]; exact has_nil _ hcc, (fun k hk => by
        have := HB2.out.size
        rcases hk with hh | hh
        · omega
        · cases hh), Below.next HB2.out hbn⟩
      clear hcc hbn hw3
      go_wp2_with fail
      go_roundw
      case rel => exact Or.inr ⟨0, w2.heap.size, _, T, Nat.zero_le _, HT.out, rfl, rfl, by go_num, by go_num, HP0.out⟩
      case measure => simp [intOf]; try omega
    · have HP := Lib.hid hP
      have HT := Lib.hid hT
      by_cases hlt : i < n
      · have hil : i < cls.length := by rw [HW.out.2.1]; exact hlt
        have hst := restT_step cls i hil
        have hne : ¬ T.toList = [] := by rw [HT.out, ByteArray.toList_eq, hst]; simp
        have hne2 : (!T.toList.isEmpty) = true := by simpa [List.isEmpty_iff] using hne
        obtain ⟨J, hJ⟩ : ∃ J, (Lib.join ((cls.getD i [] ++ [0]).map Lib.itoa) [32]) = J := ⟨_, rfl⟩
        have hcut := cut_any (w := wr) (a := Lib.join ((cls.getD i [] ++ [0]).map Lib.itoa) [32]) (r := restT cls (i + 1)) (nl_join _) (by
          have := restT_len HW.out.1 (cls.length - i) i rfl
          rw [hst] at this
          have := HW.out.2.1
          omega) (HW.out.2.2.1 wr HP.out.bel)
        rw [← hst, ← HT.out] at hcut
        obtain ⟨T2, hT2⟩ : ∃ T2 : ByteArray, T2 = ⟨(restT cls (i + 1)).toArray⟩ := ⟨_, rfl⟩
        rw [← hT2, hJ] at hcut
        have hcl : ∀ W, Below wr.heap.size wr W → Calls Tryz.prog 27 #[.pointer (some ⟨bc, 0, none⟩), .string ⟨J.toArray⟩] W fun e w' => e = .returned (.int .i64 0) ∧ ∃ F', HasC (fun k => k < w.heap.size) w' bc F' v (cls.take i ++ [cls.getD i []]) ∧ Upd F F' W w' := fun W hW => by
          have hl := HW.out.1.l i hil
          have hbW := HP.out.bel.trans (hW.mono HP.out.bel.size)
          have h := clausep_any (fun k hk => Nat.lt_of_lt_of_le hk hbW.size) (HP.out.hc.below hW) (HW.out.1.takeP i) (HW.out.2.2.1 W hbW) (HW.out.2.2.2 W hbW) hl.1 hl.2.1 hl.2.2.1 hl.2.2.2 (by have := HW.out.1.n; simp; omega)
          rwa [hJ] at h
        have HX := Lib.hid (And.intro hcut (And.intro hcl (And.intro hT2 hil)))
        have hn0 : (((n : Int) - i) == 0) = false := by simp; omega
        have hw1 : IntKind.i64.wrap ((n : Int) - i - 1) = (n : Int) - i - 1 := i64_of (by omega)
        have hw2 : IntKind.i64.wrap ((i : Int) + 2 + 1) = (i : Int) + 2 + 1 := i64_of (by omega)
        clear hst hcut hcl hT2 hJ hT hP hil hi
        go_wp2_with fail
        refine HX.out.1.mono ?_
        rintro e w1 ⟨rfl, hb1⟩
        have HB1 := Lib.hid hb1
        clear hb1
        go_wp2_with fail
        refine (HX.out.2.1 w1 HB1.out).mono ?_
        rintro e w2 ⟨rfl, F2, hc2, hu2⟩
        have HP2 := Lib.hid (HP.out.step HX.out.2.2.2 HB1.out hc2 hu2)
        clear hc2 hu2
        go_wp2_with fail
        go_roundw
        case rel => exact Or.inr ⟨i + 1, bc, F2, T2, hlt, HX.out.2.2.1, rfl, rfl, by go_num, by go_num, HP2.out⟩
        case measure => simp [intOf]; try omega
      · obtain rfl : i = n := by omega
        have hre := restT_end cls
        rw [HW.out.2.1] at hre
        have he : T.toList = [] := by rw [HT.out, ByteArray.toList_eq, hre]
        have he2 : (!T.toList.isEmpty) = false := by rw [he]; rfl
        have hz : ((i : Int) - i) = 0 := by omega
        clear hT hP hlt hi hre
        go_wp2_with fail
        go_ret3
        have hc := HP.out.hc
        rw [List.take_of_length_le (Nat.le_of_eq HW.out.2.1)] at hc
        exact ⟨bc, F, rfl, hc, HP.out.ge, HP.out.bel⟩
end Go.Proofs.YtcifiibpiooeiaaGreatDoor
