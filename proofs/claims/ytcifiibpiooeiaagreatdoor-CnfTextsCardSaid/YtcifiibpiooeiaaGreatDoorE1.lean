import Derived.Test.YtcifiibpiooeiaaGreatDoorP5
import Derived.Lib.AtoiErrMem
namespace Go.Proofs.YtcifiibpiooeiaaGreatDoor
set_option linter.unusedVariables false
open Go.RowKit Go.Sort

/-- the library's variable that the searches read holds a number -/
def Max (w : World) : Prop := ∃ m, w.cell? ⟨0, 0, none⟩ = some (.int .i64 m)
theorem Max.below {w w' : World} (h : Max w) (hb : Below w.heap.size w w') : Max w' := by
  obtain ⟨m, hm⟩ := h
  exact ⟨m, (hb.cell (World.block_lt_of_cell? _ _ hm)).trans hm⟩
/-- a line of numbers -/
def numsS (l : List Int) : Value := .string ⟨(Lib.join (l.map Lib.itoa) [32]).toArray⟩
/-- what numbers hands back -/
def NumR (w : World) (l : List Int) (e : Ending) (w' : World) : Prop := ∃ v, e = .returned (.tuple #[v, .bool true]) ∧ w'.ownsRow w.heap.size 3 1 v l.length (ints l) ∧ Below w.heap.size w w'
/-- what strings.Split hands back of a line of numbers -/
theorem split_any {w : World} {x : Int} {r : List Int} (hmax : Max w) (hb : ∀ y ∈ x :: r, y.natAbs < 1000000000) (hn : (x :: r).length ≤ 2000) :
    Calls Tryz.prog 87 #[numsS (x :: r), .string ⟨#[32]⟩] w fun e w' => e = .returned (.slice (some ⟨w.heap.size, 0, none⟩) (r.length + 1) (r.length + 1)) ∧ w' = w.alloc (.cells ((x :: r).map strI).toArray 9) := by
  obtain ⟨m, hm⟩ := hmax
  have hj := join_itoa (x :: r) (fun y hy => by have := hb y hy; omega)
  have hs : (⟨(Lib.join ((x :: r).map Lib.itoa) [32]).toArray⟩ : ByteArray).size < 4294967281 := by
    show (Lib.join ((x :: r).map Lib.itoa) [32]).toArray.size < _
    simp only [List.size_toArray]; omega
  have h := Tryz.strings_Split ⟨(Lib.join ((x :: r).map Lib.itoa) [32]).toArray⟩ ⟨#[32]⟩ m w hs hm (by decide)
  obtain ⟨h1, h2⟩ := split_nums x r
  rw [h1, h2] at h
  refine h.mono fun e w' hh => ⟨hh.1, hh.2.trans ?_⟩
  rw [List.map_map]
  rfl
set_option maxRecDepth 100000 in
set_option maxHeartbeats 8000000 in
theorem numbers_any {w : World} {x : Int} {r : List Int} (hmax : Max w) (htab : Lib.TabIs Tryz.prog w "internal/strconv.uint64pow10" .u64 Lib.pow10Tab) (hb : ∀ y ∈ x :: r, y.natAbs < 1000000000) (hn : (x :: r).length ≤ 2000) :
    Calls Tryz.prog 58 #[numsS (x :: r)] w (NumR w (x :: r)) := by
  have HSp := Lib.hid (split_any hmax hb hn)
  obtain ⟨l, hl⟩ : ∃ l, x :: r = l := ⟨_, rfl⟩
  obtain ⟨n, hnl⟩ : ∃ n, r.length + 1 = n := ⟨_, rfl⟩
  have hll : l.length = n := by rw [← hl, ← hnl]; rfl
  rw [hl, hnl] at HSp
  rw [hl] at hb hn ⊢
  have HN := Lib.hid (And.intro hll hb)
  have hni : (n : Int) ≤ 2000 := by omega
  have HT := Lib.hid (fun wr (hb : Below w.heap.size w wr) => tab_below htab hb)
  clear hmax htab hb hn hl hnl hll
  unfold numsS at HSp ⊢
  go_enter Tryz.func58, Tryz.ntmps58
  go_wp2_with fail
  refine HSp.out.mono ?_
  rintro e w1 ⟨rfl, rfl⟩
  have hB := Blk.new (w := w) 9 (l.map strI)
  have hbw := Below.new w (.cells (l.map strI).toArray 9)
  have HB := Lib.hid (And.intro hB (And.intro hbw (Nat.le_of_lt hB.lt)))
  clear hB hbw HSp
  generalize w.alloc (.cells (l.map strI).toArray 9) = W at *
  go_wp2_with fail
  go_loopw [12, 4] (fun iv ov wr => ∃ i : Nat, i ≤ n ∧ iv = .int .i64 i ∧ Stp W.heap.size W wr 3 ov i (ints (l.take i))) (fun iv _ _ => n - (intOf iv).toNat)
  case atStart => exact ⟨0, Nat.zero_le _, rfl, World.ownsRow_nil _ _ _ _, (fun j hj => by cases hj), Below.refl _ _⟩
  case round =>
    obtain ⟨i, hi, rfl, hS⟩ := hrel
    obtain ⟨po, co, rfl⟩ := ownsRow_form hS.own
    have HS := Lib.hid hS
    clear hS
    by_cases hlt : i < n
    · obtain ⟨y, hy⟩ : ∃ y, l.getD i 0 = y := ⟨_, rfl⟩
      have hil : i < l.length := by rw [HN.out.1]; exact hlt
      have hmem : y ∈ l := by rw [← hy]; simp [List.getD, List.getElem?_eq_getElem hil]
      have hyb := HN.out.2 y hmem
      have hat : (l.map strI)[i]? = some (strI y) := by rw [List.getElem?_map, ← hy]; simp [List.getD, List.getElem?_eq_getElem hil]
      have hc := (HB.out.1.next HS.out.bel).cell hat
      unfold strI at hc
      have hsh := itoa_short y hyb
      have HA := Lib.hid (Tryz.strconv_Atoi ⟨(Lib.itoa y).toArray⟩ y (by show (Lib.itoa y).toArray.size ≤ 18; simp only [List.size_toArray]; omega) (by simpa using atoi_itoa y) wr)
      have htk : l.take (i + 1) = l.take i ++ [y] := by rw [← hy]; exact take_snoc hil
      have HX := Lib.hid (And.intro htk (And.intro hlt hyb))
      have hii : (i : Int) < n := by omega
      have hiw : IntKind.i64.wrap ((i : Int) + 1) = (i : Int) + 1 := i64_of (by omega)
      clear hi hlt hil hmem hyb hat hsh hy htk
      go_wp2_with fail
      refine HA.out.mono ?_
      rintro e w2 ⟨rfl, t, hw2⟩
      have hb2 : Below wr.heap.size wr w2 := by rw [hw2]; exact Lib.bytesWorld_below _ _ _
      have hS2 := HS.out.below hb2
      have hbW := HB.out.2.1.trans (hS2.bel.mono HB.out.2.2)
      have HI := Lib.hid (Tryz.strconv_Itoa y (by have := HX.out.2.2; omega) (by have := HX.out.2.2; omega) w2 (HT.out w2 hbW))
      have HS2 := Lib.hid hS2
      clear hw2 hb2 hS2 hbW HA hc
      go_wp2_with fail
      refine HI.out.mono ?_
      rintro e w3 ⟨rfl, kk, os, rfl⟩
      have hbg : Below w2.heap.size w2 (grow (w2.drewN kk) os) := (below_drewN kk).trans (grow_below _ _ os (Nat.le_refl _))
      have HS3 := Lib.hid (HS2.out.below hbg)
      clear hbg
      generalize grow (w2.drewN kk) os = w3 at *
      have hd9 : decide ((1000000000 : Int) ≤ (y.natAbs : Int)) = false := decide_eq_false (by have := HX.out.2.2; omega)
      have HOf := Lib.hid (of_any y (by have := HX.out.2.2; omega) w3)
      go_wp2_with fail
      refine HOf.out.mono ?_
      rintro e w4 ⟨rfl, rfl⟩
      clear HOf HI
      go_upto_region 8 with fail
      have hs1 := HS3.out.alloc (.cells #[.int .i64 y] 3)
      have hr1 : RO (w3.alloc (.cells #[.int .i64 y] 3)) (.slice (some ⟨w3.heap.size, 0, none⟩) 1 1) 1 1 [.int .i64 y] := ro_one _ _
      have hsz := hs1.bel.size
      have HP := Lib.hid (And.intro hs1 hr1)
      clear hs1 hr1 hd9
      go_wp2_with (at_builtin; refine wpList_appR rfl _ _ 48 rfl TInts W.heap.size (.slice po i co) i _ rfl HP.out.1.own _ 1 _ rfl HP.out.2 (by simp [Value.oneCell']) (by omega) (by omega) hsz ?_; intro v8 w8 happ; have hs8 := HP.out.1.app happ; obtain ⟨p8, c8, ev8⟩ := ownsRow_form hs8.own; subst ev8; have H8 := Lib.hid hs8; clear happ hs8 hsz)
      go_roundw
      case rel =>
        refine ⟨i + 1, HX.out.2.1, by go_num, ?_⟩
        have h8 := H8.out
        rw [HX.out.1, show ints (l.take i ++ [y]) = ints (l.take i) ++ [.int .i64 y] by simp [ints]]
        exact h8
      case measure => have := HX.out.2.1; simp [intOf]; omega
    · obtain rfl : i = n := by omega
      clear hlt hi
      go_wp2_with fail
      go_ret2
      have h := own_base HS.out.own HB.out.2.2
      rw [List.take_of_length_le (Nat.le_of_eq HN.out.1)] at h
      refine ⟨_, rfl, ?_, HB.out.2.1.trans (HS.out.bel.mono HB.out.2.2)⟩
      rw [HN.out.1]
      exact h
end Go.Proofs.YtcifiibpiooeiaaGreatDoor
