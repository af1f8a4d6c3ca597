import Derived.Test.YtcifiibpiooeiaaGreatDoorB6
import Derived.Lib.ItoaLen
namespace Go.Proofs.YtcifiibpiooeiaaGreatDoor
set_option linter.unusedVariables false
open Go.RowKit Go.Sort

theorem grow_below (B : Nat) (w : World) (os : Array Obj) (hB : B ≤ w.heap.size) : Below B w (grow w os) :=
  ⟨rfl, rfl, rfl, by simp [grow], fun k hk => by simp only [grow]; rw [Array.getElem?_append_left (by omega)]⟩
/-- one line of a file -/
def lineT (l : List Int) : List UInt8 := Lib.join (l.map Lib.itoa) [32] ++ [10]
def strI (x : Int) : Value := .string ⟨(Lib.itoa x).toArray⟩
theorem infoStr : (Tryz.prog.info? 9).map (fun i => (i.zero, i.size, i.bytes)) = some (some (.string ⟨#[]⟩), 1, 16) := by kernel_rfl
set_option maxRecDepth 100000 in
theorem mk_strs (n : Nat) (hn : n ≤ 1000000) (w : World) : (Instr.makeSlice 85 (.int .i64 n) (.int .i64 n)).run Tryz.prog w = .ok (.slice (some ⟨w.heap.size, 0, none⟩) n n) (w.alloc (.cells (List.replicate n (Value.string ⟨#[]⟩)).toArray 9)) := by
  obtain ⟨i0, hi, hz0, hz1, hz2⟩ := info_parts infoStr
  have h := run_make (P := Tryz.prog) w 85 9 i0 _ Tryz.underlying85 hi hz0 .i64 .i64 n n (by omega) (by omega) (by rw [hz2]; omega) (by omega)
  rw [h, hz1]
  simp only [Int.toNat_natCast, Nat.mul_one, Value.cells]
  congr 3
  apply Array.ext'
  rw [toList_madeCells_one]
theorem tab_below {P : Program} {w w' : World} {name : String} {k : IntKind} {zs : List Int} (h : Lib.TabIs P w name k zs) (hb : Below w.heap.size w w') : Lib.TabIs P w' name k zs := by
  unfold Lib.TabIs World.var? at h ⊢
  cases hg : P.globalNamed name with
  | none => rw [hg] at h; simp at h
  | some g =>
    rw [hg] at h
    simp only [Option.bind_some] at h ⊢
    have hlt : g < w.heap.size := by
      rcases Nat.lt_or_ge g w.heap.size with h' | h'
      · exact h'
      · rw [Array.getElem?_eq_none h'] at h; simp at h
    rw [hb.block g hlt]
    exact h
/-- the words after k of them are made -/
def strsV (l : List Int) (k : Nat) : List Value := (l.take k).map strI ++ List.replicate (l.length - k) (.string ⟨#[]⟩)
theorem strsV_length (l : List Int) (k : Nat) (h : k ≤ l.length) : (strsV l k).length = l.length := by simp [strsV]; omega
theorem strsV_zero (l : List Int) : strsV l 0 = List.replicate l.length (.string ⟨#[]⟩) := by simp [strsV]
theorem strsV_all (l : List Int) : strsV l l.length = l.map strI := by simp [strsV]
theorem strsV_at (l : List Int) (k : Nat) (h : k < l.length) : (strsV l k)[k]? = some (.string ⟨#[]⟩) := by
  unfold strsV
  rw [List.getElem?_append_right (by simp; omega)]
  rw [List.getElem?_replicate, if_pos (by simp; omega)]
theorem strsV_set (l : List Int) (k : Nat) (h : k < l.length) : (strsV l k).set k (strI (l.getD k 0)) = strsV l (k + 1) := by
  have e : l.length - k = (l.length - (k + 1)) + 1 := by omega
  have hk : ((l.take k).map strI).length = k := by simp; omega
  unfold strsV
  rw [take_snoc h, List.map_append, List.append_assoc, e, List.replicate_succ, List.set_append_right _ _ (by omega), hk, Nat.sub_self]
  rfl

theorem lens_itoa : ∀ (l : List Int), (∀ x ∈ l, -9223372036854775808 ≤ x ∧ x ≤ 9223372036854775807) → Lib.lens (l.map Lib.itoa) ≤ 21 * l.length
  | [], _ => by simp [Lib.lens]
  | x :: l, h => by
    have h1 := Lib.itoa_length_le x (h x (by simp)).1 (h x (by simp)).2
    have h2 := lens_itoa l fun y hy => h y (by simp [hy])
    simp only [Lib.lens, List.map_cons, List.sum_cons, List.length_cons] at h2 ⊢
    omega
theorem join_itoa (l : List Int) (h : ∀ x ∈ l, -9223372036854775808 ≤ x ∧ x ≤ 9223372036854775807) : (Lib.join (l.map Lib.itoa) [32]).length ≤ 22 * l.length := by
  cases l with
  | nil => simp [Lib.join]
  | cons x l =>
    have h1 := lens_itoa (x :: l) h
    rw [List.map_cons, Lib.join_length, ← List.map_cons]
    simp only [List.length_cons, List.length_map, List.length_nil] at h1 ⊢
    omega
theorem join_any {w : World} {b n : Nat} {l : List Int} (hB : Blk w b 9 (l.map strI)) (hl : l.length = n) (h : ∀ x ∈ l, -9223372036854775808 ≤ x ∧ x ≤ 9223372036854775807) (hn : n ≤ 1000000) :
    Calls Tryz.prog 55 #[.slice (some ⟨b, 0, none⟩) n n, .string ⟨#[32]⟩] w fun e w' => e = .returned (.string ⟨(Lib.join (l.map Lib.itoa) [32]).toArray⟩) ∧ Below w.heap.size w w' := by
  have hx : (l.map fun x => (⟨(Lib.itoa x).toArray⟩ : ByteArray)).length = n := by simpa using hl
  have he : (l.map fun x => (⟨(Lib.itoa x).toArray⟩ : ByteArray)).map (·.data.toList) = l.map Lib.itoa := by
    rw [List.map_map]; exact List.map_congr_left fun x _ => rfl
  have hj := Tryz.strings_Join b 0 n (l.map fun x => (⟨(Lib.itoa x).toArray⟩ : ByteArray)) ⟨#[32]⟩ w (fun j x hj => by
      rw [List.getElem?_map] at hj
      obtain ⟨y, hy, rfl⟩ := Option.map_eq_some_iff.1 hj
      rw [Nat.zero_add]
      exact hB.cell (by rw [List.getElem?_map, hy]; rfl)) hB.lt (by omega) (by omega) (by rw [he]; have := join_itoa l h; exact Nat.le_trans this (by omega))
  rw [hx, he] at hj
  exact hj

set_option maxRecDepth 100000 in
set_option maxHeartbeats 8000000 in
theorem line_any {w : World} {lv : Value} {l : List Int} (htab : Lib.TabIs Tryz.prog w "internal/strconv.uint64pow10" .u64 Lib.pow10Tab) (hl : RO w lv 1 l.length (ints l)) (hb : ∀ x ∈ l, -9223372036854775808 ≤ x ∧ x ≤ 9223372036854775807) (h0 : 0 < l.length) (hn : l.length ≤ 10000) :
    Calls Tryz.prog 22 #[lv] w fun e w' => e = .returned (.string ⟨(lineT l).toArray⟩) ∧ Below w.heap.size w w' := by
  obtain ⟨pl, cl, rfl⟩ := hl.form
  obtain ⟨n, hnl⟩ : ∃ n, l.length = n := ⟨_, rfl⟩
  have HN := Lib.hid (And.intro hnl (And.intro hb (And.intro h0 hn)))
  rw [hnl] at hl hn ⊢
  have H := Lib.hid (And.intro hl (fun wr (hb : Below w.heap.size w wr) => tab_below htab hb))
  have hni : (n : Int) ≤ 10000 := by omega
  have hmk := fun w => mk_strs n (by omega) w
  clear hnl hb h0 hl htab
  go_enter Tryz.func22, Tryz.ntmps22
  go_wp2_with fail
  have hB : Blk (w.alloc (.cells (Array.replicate n (Value.string ⟨#[]⟩)) 9)) w.heap.size 9 (strsV l 0) := by
    have h := Blk.new (w := w) 9 (List.replicate n (Value.string ⟨#[]⟩))
    rw [strsV_zero, HN.out.1]
    rwa [List.toArray_replicate] at h
  have HB := Lib.hid (And.intro hB (Below.new w (.cells (Array.replicate n (Value.string ⟨#[]⟩)) 9)))
  clear hB hmk
  generalize w.alloc (.cells (Array.replicate n (Value.string ⟨#[]⟩)) 9) = W at *
  go_loopw [11] (fun iv wr => ∃ i : Nat, i ≤ n ∧ iv = .int .i64 i ∧ Blk wr w.heap.size 9 (strsV l i) ∧ Below w.heap.size w wr) (fun iv _ => n - (intOf iv).toNat)
  case atStart => exact ⟨0, Nat.zero_le _, rfl, HB.out⟩
  case round =>
    obtain ⟨i, hi, rfl, hB, hbl⟩ := hrel
    have HR := Lib.hid (And.intro hB hbl)
    clear hB hbl
    by_cases hlt : i < n
    · have hat := ints_at l i (by rw [HN.out.1]; exact hlt)
      obtain ⟨bl, ol, rfl⟩ := H.out.1.sl hat
      have hc := (H.out.1.below HR.out.2).cell hat
      obtain ⟨x, hx⟩ : ∃ x, l.getD i 0 = x := ⟨_, rfl⟩
      rw [hx] at hc
      have hmem : x ∈ l := by rw [← hx]; simp [List.getD, List.getElem?_eq_getElem (show i < l.length by rw [HN.out.1]; exact hlt)]
      have hxb := HN.out.2.1 x hmem
      have HI := Lib.hid (Tryz.strconv_Itoa x hxb.1 hxb.2 wr (H.out.2 wr HR.out.2))
      have HX := Lib.hid (And.intro hx hlt)
      have hii : (i : Int) < n := by omega
      have hiw : IntKind.i64.wrap ((i : Int) + 1) = (i : Int) + 1 := i64_of (by omega)
      clear hat hx hmem hxb hlt hi
      go_wp2_with fail
      refine HI.out.mono ?_
      rintro e w1 ⟨rfl, kk, os, rfl⟩
      have hbg : Below wr.heap.size wr (grow (wr.drewN kk) os) := (below_drewN kk).trans (grow_below _ _ os (Nat.le_refl _))
      have hB1 := HR.out.1.next hbg
      have hb1 := HR.out.2.trans (hbg.mono HR.out.2.size)
      have hcell := hB1.cell (strsV_at l i (by rw [HN.out.1]; exact HX.out.2))
      have hfr := hB1.frz i
      have hB2 := hB1.set i (strI x)
      rw [← HX.out.1, strsV_set l i (by rw [HN.out.1]; exact HX.out.2), HX.out.1] at hB2
      unfold strI at hB2
      have hb2 : Below w.heap.size w ((grow (wr.drewN kk) os).setCell ⟨w.heap.size, i, none⟩ (.string ⟨(Lib.itoa x).toArray⟩)) := hb1.trans ((upd_set (F := fun k => k = w.heap.size) _ rfl).toBelow (fun j e => by omega) hb1.size)
      have HZ := Lib.hid (And.intro hB2 hb2)
      clear hbg hB1 hb1 hB2 hb2
      generalize grow (wr.drewN kk) os = wg at *
      go_wp2_with fail
      go_roundw
      case rel => exact ⟨i + 1, HX.out.2, by go_num, HZ.out.1, HZ.out.2⟩
      case measure => have := HX.out.2; simp [intOf]; omega
    · obtain rfl : i = n := by omega
      clear hlt hi
      have hB := HR.out.1
      have hall := strsV_all l
      rw [HN.out.1] at hall
      rw [hall] at hB
      go_wp2_with fail
      refine (join_any hB HN.out.1 HN.out.2.1 (by omega)).mono ?_
      rintro e w1 ⟨rfl, hb1⟩
      have hj := join_itoa l HN.out.2.1
      rw [HN.out.1] at hj
      have hj2 : ¬ 9223372036854775807 < (Lib.join (l.map Lib.itoa) [32]).length + 1 := by omega
      have hj3 : ¬ (9223372036854775807 : Int) < ((Lib.join (l.map Lib.itoa) [32]).length : Int) + 1 := by omega
      clear hj
      go_wp2_with fail
      all_goals try (exfalso; omega)
      go_ret
      refine ⟨?_, HR.out.2.trans (hb1.mono HR.out.2.size)⟩
      unfold lineT
      congr 2
end Go.Proofs.YtcifiibpiooeiaaGreatDoor
