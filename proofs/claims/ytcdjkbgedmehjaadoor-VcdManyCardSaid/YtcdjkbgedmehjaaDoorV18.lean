import Derived.Test.YtcdjkbgedmehjaaDoorV17
namespace Go.Proofs.YtcdjkbgedmehjaaDoor
set_option linter.unusedVariables false
open Go.RowKit Go.Sort

/-! # the reference's names; lines -/
theorem bytes_ext {a b : ByteArray} (h : a.data.toList = b.data.toList) : a = b := by
  obtain ⟨⟨a⟩⟩ := a; obtain ⟨⟨b⟩⟩ := b
  simp at h; rw [h]
theorem bstr_app (a b : Bs) : bstr a ++ bstr b = bstr (a ++ b) := bytes_ext (by simp [bstr])
theorem run_one {w : World} (x : Int) (c : UInt8) (hx : x = ((c.toNat : Nat) : Int)) : (convert 44 9 (.slice (some ⟨w.heap.size, 0, none⟩) 1 1)).run Tryd.prog (w.alloc (.cells #[.int .u8 x] 5)) = .ok (.string (bstr [c])) (w.alloc (.cells #[.int .u8 x] 5)) := by
  subst hx
  exact run_own (l := [c]) (base := w.heap.size) ((Blk.new (w := w) 5 [.int .u8 ((c.toNat : Nat) : Int)]).own (n := 1) (size := 1) rfl (by decide) w.heap.size (Nat.le_refl _)) rfl (by decide)
set_option maxRecDepth 100000 in
set_option maxHeartbeats 4000000 in
theorem refid_1 (n : Nat) (hn : n < 94) (w : World) : Calls Tryd.prog 5 #[.int .i64 n] w fun e w' => e = .returned (.string (bstr (idL n))) ∧ Below w.heap.size w w' := by
  have h1 := tmod94 n
  rw [show n % 94 = n by omega] at h1
  have hw1 : IntKind.i64.wrap (n : Int) = (n : Int) := i64_of (by omega)
  have hw3 : IntKind.i64.wrap (33 + (n : Int)) = 33 + (n : Int) := i64_of (by omega)
  have hw4 : IntKind.u8.wrap (33 + (n : Int)) = 33 + (n : Int) := IntWalk.u8_in _ (by omega)
  have hid : idL n = [UInt8.ofNat (33 + n)] := by rw [idL, dif_pos hn]
  have hrun := fun w => run_one (w := w) (33 + (n : Int)) (UInt8.ofNat (33 + n)) (by simp only [UInt8.toNat_ofNat']; omega)
  have hlt : ¬ (94 : Int) ≤ n := by omega
  have HB := Lib.hid (Below.new w (.cells #[.int .u8 (33 + (n : Int))] 5))
  rw [hid]
  clear hid hn
  go_enter Tryd.func5, Tryd.ntmps5
  go_wp2_with fail
  go_ret
  exact ⟨rfl, HB.out⟩
set_option maxRecDepth 100000 in
set_option maxHeartbeats 4000000 in
theorem refid_any (n : Nat) (hn : n < 8836) (w : World) : Calls Tryd.prog 5 #[.int .i64 n] w fun e w' => e = .returned (.string (bstr (idL n))) ∧ Below w.heap.size w w' := by
  by_cases h94 : n < 94
  · exact refid_1 n h94 w
  have h1 := tmod94 n
  have h2 := tdiv94 n
  obtain ⟨r, hr⟩ : ∃ r, n % 94 = r := ⟨_, rfl⟩
  obtain ⟨q, hq⟩ : ∃ q, n / 94 = q := ⟨_, rfl⟩
  rw [hr] at h1
  rw [hq] at h2
  have hr94 : r < 94 := by omega
  have hw1 : IntKind.i64.wrap (r : Int) = (r : Int) := i64_of (by omega)
  have hw2 : IntKind.i64.wrap (q : Int) = (q : Int) := i64_of (by omega)
  have hw3 : IntKind.i64.wrap (33 + (r : Int)) = 33 + (r : Int) := i64_of (by omega)
  have hw4 : IntKind.u8.wrap (33 + (r : Int)) = 33 + (r : Int) := IntWalk.u8_in _ (by omega)
  have hid : bstr (idL n) = bstr [UInt8.ofNat (33 + r)] ++ bstr (idL q) := by
    rw [bstr_app, idL, dif_neg h94, hr, hq]; rfl
  have hrun := fun w => run_one (w := w) (33 + (r : Int)) (UInt8.ofNat (33 + r)) (by simp only [UInt8.toNat_ofNat']; omega)
  have hlt : (94 : Int) ≤ n := by omega
  have HR := Lib.hid (fun w => refid_1 q (by omega) w)
  have HB := Lib.hid (Below.new w (.cells #[.int .u8 (33 + (r : Int))] 5))
  have hs1 : (bstr [UInt8.ofNat (33 + r)]).size = 1 := by rw [bstr_size]; rfl
  have hs2 : (bstr (idL q)).size ≤ 2 := by rw [bstr_size]; exact (idL_len q (by omega)).2
  rw [hid]
  generalize bstr [UInt8.ofNat (33 + r)] = A at *
  generalize bstr (idL q) = B at *
  have hs3 : ¬ (9223372036854775807 : Int) < (A.size : Int) + (B.size : Int) := by omega
  have hs4 : ¬ 9223372036854775807 < A.size + B.size := by omega
  clear hid hn h94 hr hq hs1 hs2
  go_enter Tryd.func5, Tryd.ntmps5
  go_wp2_with fail
  refine (HR.out _).mono ?_; rintro e w2 ⟨rfl, hb2⟩
  have H2 := Lib.hid (HB.out.trans (hb2.mono HB.out.size))
  clear hb2
  go_wp2_with fail
  all_goals try (exfalso; omega)
  go_ret
  exact ⟨rfl, H2.out⟩
/-! # a builder -/
def IsB (b : Nat) (l : List UInt8) (w : World) : Prop := Lib.IsBuilder 51 5 b b (Lib.byteCells l) w
theorem IsB.below {b : Nat} {l : List UInt8} {w w' : World} (h : IsB b l w) (hb : Below w.heap.size w w') : IsB b l w' := by
  have go : ∀ p, Lib.BuilderAt 51 5 b b p (Lib.byteCells l) w → Lib.BuilderAt 51 5 b b p (Lib.byteCells l) w' := fun p h => by
    have hlt := h.lt
    obtain ⟨hB, v, hv, hown, hne⟩ := h
    exact ⟨hB, v, (hb.block b hlt).trans hv, ownsRow_below hown hb, hne⟩
  exact h.elim (fun x => .inl (go _ x)) (fun x => .inr (go _ x))
theorem write_any {b : Nat} {l s : List UInt8} {w : World} (h : IsB b l w) (hlen : l.length + s.length ≤ 140737488355328) (hb : b ≤ w.heap.size) :
    Calls Tryd.prog 15 #[.pointer (some ⟨b, 0, none⟩), .string (bstr s)] w fun e w' => e = .returned (.tuple #[.int .i64 s.length, .nilIface]) ∧ IsB b (l ++ s) w' ∧ Below b w w' := by
  refine (Tryd.Builder_WriteString b b (Lib.byteCells l) (bstr s) w h (by rw [bstr_size]; simp [Lib.byteCells]; omega) hb).mono ?_
  rintro e w' ⟨rfl, hB, hbl⟩
  refine ⟨by rw [bstr_size], .inr ?_, hbl⟩
  have e : Lib.byteCells (l ++ s) = Lib.byteCells l ++ Lib.strCells (bstr s) := by simp [Lib.byteCells, Lib.strCells, bstr]
  rw [e]
  exact hB
theorem join_words {w : World} {g n : Nat} {ws : List Bs} (hB : Blk w g 9 (strCells ws)) (hn : ws.length = n) (hl : n ≤ 1000) (hj : (Lib.join ws [32]).length ≤ 1000000) :
    Calls Tryd.prog 16 #[.slice (some ⟨g, 0, none⟩) n n, .string ⟨#[32]⟩] w fun e w' => e = .returned (.string (bstr (Lib.join ws [32]))) ∧ Below w.heap.size w w' := by
  have hx : (ws.map bstr).length = n := by simpa using hn
  have he : (ws.map bstr).map (·.data.toList) = ws := by
    rw [List.map_map]
    conv => rhs; rw [← List.map_id ws]
    exact List.map_congr_left fun x _ => by simp [bstr]
  have h := Tryd.strings_Join g 0 n (ws.map bstr) ⟨#[32]⟩ w (fun j x hj => by
      rw [List.getElem?_map] at hj
      obtain ⟨y, hy, rfl⟩ := Option.map_eq_some_iff.1 hj
      rw [Nat.zero_add]
      exact hB.cell (by unfold strCells; rw [List.getElem?_map, hy]; rfl)) hB.lt (by omega) (by omega) (by rw [he]; show (Lib.join ws [32]).length ≤ _; omega)
  rw [hx, he] at h
  exact h
def lineG (ws : List Bs) : Bs := Lib.join ws [32] ++ [10]
set_option maxRecDepth 100000 in
set_option maxHeartbeats 4000000 in
theorem line_any {b g n : Nat} {l : Bs} {ws : List Bs} {w : World} (h : IsB b l w) (hB : Blk w g 9 (strCells ws)) (hn : ws.length = n) (hl : n ≤ 1000) (hj : (Lib.join ws [32]).length ≤ 1000000) (hll : l.length ≤ 100000000) (hb : b ≤ w.heap.size) :
    Calls Tryd.prog 14 #[.slice (some ⟨g, 0, none⟩) n n, .pointer (some ⟨b, 0, none⟩)] w fun e w' => e = .returned (.tuple #[]) ∧ IsB b (l ++ lineG ws) w' ∧ Below b w w' := by
  have HJ := Lib.hid (join_words hB hn hl hj)
  have HW : Hid (∀ w', Below w.heap.size w w' → Calls Tryd.prog 15 #[.pointer (some ⟨b, 0, none⟩), .string (bstr (Lib.join ws [32] ++ [10]))] w' fun e w'' => e = .returned (.tuple #[.int .i64 (Lib.join ws [32] ++ [10]).length, .nilIface]) ∧ IsB b (l ++ lineG ws) w'' ∧ Below b w' w'') := Lib.hid fun w' hbw =>
    write_any (h.below hbw) (by rw [List.length_append]; simp only [List.length_cons, List.length_nil]; omega) (Nat.le_trans hb hbw.size)
  have hcat : bstr (Lib.join ws [32]) ++ ⟨#[10]⟩ = bstr (Lib.join ws [32] ++ [10]) := bstr_app _ _
  have hjs : (bstr (Lib.join ws [32])).size ≤ 1000000 := by rw [bstr_size]; exact hj
  have HC := Lib.hid hcat
  have HBb := Lib.hid hb
  generalize hJ : bstr (Lib.join ws [32]) = J at *
  have h3 : ¬ (9223372036854775807 : Int) < (J.size : Int) + 1 := by omega
  have h4 : ¬ 9223372036854775807 < J.size + 1 := by omega
  clear h hB hn hl hj hll hb hcat hjs hJ
  go_enter Tryd.func14, Tryd.ntmps14
  go_wp2_with fail
  refine HJ.out.mono ?_; rintro e w2 ⟨rfl, hb2⟩
  have H2 := Lib.hid hb2
  have HW2 := Lib.hid (HW.out w2 hb2)
  rw [← HC.out] at HW2
  clear hb2
  go_wp2_with fail
  all_goals try (exfalso; omega)
  refine HW2.out.mono ?_; rintro e w3 ⟨rfl, h3, hb3⟩
  have H3 := Lib.hid (And.intro h3 ((H2.out.mono HBb.out).trans hb3))
  clear h3 hb3
  go_wp2_with fail
  go_end0
  exact ⟨rfl, H3.out.1, H3.out.2⟩
end Go.Proofs.YtcdjkbgedmehjaaDoor
