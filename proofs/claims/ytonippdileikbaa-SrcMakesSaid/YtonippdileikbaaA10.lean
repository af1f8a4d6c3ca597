import Derived.Test.YtonippdileikbaaA9
namespace Go.Proofs.Ytonippdileikbaa
set_option linter.unusedVariables false
open Go.RowKit

theorem lower_place (L : List Int) (t : Int) (i : Nat) (h : Lower L t i) (h0 : 0 < L.length) (hL0 : L.getD 0 0 = 0) (ht : 0 ≤ t) (hs : ∀ a b, a < b → b < L.length → L.getD a 0 < L.getD b 0) :
    ∃ k, k < L.length ∧ (foundB L t i = true ∧ i = k ∨ foundB L t i = false ∧ i = k + 1) ∧ L.getD k 0 ≤ t ∧ (k + 1 < L.length → t < L.getD (k + 1) 0) := by
  by_cases hf : i < L.length ∧ L.getD i 0 = t
  · exact ⟨i, hf.1, .inl ⟨decide_eq_true hf, rfl⟩, Int.le_of_eq hf.2, fun hk => by have := hs i (i + 1) (by omega) hk; omega⟩
  · have hi0 : i ≠ 0 := by
      rintro rfl
      have := h.hi 0 (Nat.le_refl _) h0
      exact hf ⟨h0, by omega⟩
    have hle := h.le
    refine ⟨i - 1, by omega, .inr ⟨decide_eq_false hf, by omega⟩, Int.le_of_lt (h.lo _ (by omega)), fun hk => ?_⟩
    have e : i - 1 + 1 = i := by omega
    rw [e] at hk ⊢
    have := h.hi i (Nat.le_refl _) hk
    rcases Int.lt_or_eq_of_le this with g | g
    · exact g
    · exact absurd ⟨hk, g.symm⟩ hf

theorem pos_end {w w1 : World} {t : TypeId} {a b c : Value} (hk : Blk w1 w.heap.size t [a, b, c]) (hb : Below w.heap.size w w1) (o : Obj) (x y z : Value) :
    Blk ((((w1.setCell ⟨w.heap.size, 0, none⟩ x).setCell ⟨w.heap.size, 1, none⟩ y).setCell ⟨w.heap.size, 2, none⟩ z).alloc o) w.heap.size t [x, y, z] ∧
    Below w.heap.size w ((((w1.setCell ⟨w.heap.size, 0, none⟩ x).setCell ⟨w.heap.size, 1, none⟩ y).setCell ⟨w.heap.size, 2, none⟩ z).alloc o) :=
  ⟨(((hk.set 0 x).set 1 y).set 2 z).alloc o, (((hb.setCell (Nat.le_refl _) x).setCell (Nat.le_refl _) y).setCell (Nat.le_refl _) z).alloc (by simp only [World.size_setCell]; exact hb.size) o⟩

set_option maxHeartbeats 1000000 in
theorem pos_nofile {w : World} {bt ps} (h : Tab w bt ps) (n m : Int) (hn : n < 1 ∨ (ps.length : Int) < n) (hl : ps.length ≤ 100000) :
    Calls Try.prog 18 #[.pointer (some ⟨bt, 0, none⟩), .int .i64 n, .int .i64 m] w fun e w' => e = .returned (.tuple #[.agg #[.int .i64 0, .int .i64 0, .int .i64 0], .int .i64 21]) ∧ Below w.heap.size w w' := by
  have HO := Lib.hid (fun o => one_out (h.below ((Below.refl w.heap.size w).alloc (Nat.le_refl _) o)) n hn hl)
  clear h hn hl
  go_enter Try.func18, Try.ntmps18
  go_wp2_with fail
  refine (HO.out _).mono ?_; rintro e w1 ⟨rfl, hb⟩
  obtain ⟨hk, hb1, hlt⟩ := kept_new (l := [.int .i64 0, .int .i64 0, .int .i64 0]) hb
  have HB := Lib.hid (And.intro hk hb1)
  have c0 := hk.cell (i := 0) (u := .int .i64 0) rfl
  have c1 := hk.cell (i := 1) (u := .int .i64 0) rfl
  have c2 := hk.cell (i := 2) (u := .int .i64 0) rfl
  have f0 := hk.frz 0
  have f1 := hk.frz 1
  have f2 := hk.frz 2
  have hd : partV default = .agg #[.string { data := #[] }, .string { data := #[] }, .slice none 0 0] := rfl
  rw [hd]
  clear hb hb1 hk
  go_wp2_with fail
  have HE := pos_end HB.out.1 HB.out.2 (Obj.cells #[Value.string { data := #[] }, Value.string { data := #[] }, Value.slice none 0 0] 65) (.int .i64 0) (.int .i64 0) (.int .i64 0)
  have e0 := HE.1.cell (i := 0) (u := .int .i64 0) rfl
  have e1 := HE.1.cell (i := 1) (u := .int .i64 0) rfl
  have e2 := HE.1.cell (i := 2) (u := .int .i64 0) rfl
  refine bodyPost_ret (v := .tuple #[.agg #[.int .i64 0, .int .i64 0, .int .i64 0], .int .i64 21]) ?_ rfl ⟨rfl, HE.2⟩
  generalize ((((w1.setCell ⟨w.heap.size, 0, none⟩ (.int .i64 0)).setCell ⟨w.heap.size, 1, none⟩ (.int .i64 0)).setCell ⟨w.heap.size, 2, none⟩ (.int .i64 0)).alloc (Obj.cells #[Value.string { data := #[] }, Value.string { data := #[] }, Value.slice none 0 0] 65)) = W at *
  simp [results, Try.results18, go_sem, e0, e1, e2]

set_option maxHeartbeats 2000000 in
theorem pos_out {w : World} {bt ps} (h : Tab w bt ps) (n : Nat) (m : Int) (hn : n < ps.length) (hl : ps.length ≤ 100000) (hm : m < 0 ∨ ((ps.getD n default).text.size : Int) < m) (htx : (ps.getD n default).text.size ≤ 1000000) :
    Calls Try.prog 18 #[.pointer (some ⟨bt, 0, none⟩), .int .i64 ((n : Int) + 1), .int .i64 m] w fun e w' => e = .returned (.tuple #[.agg #[.int .i64 0, .int .i64 0, .int .i64 0], .int .i64 3]) ∧ Below w.heap.size w w' := by
  have HO := Lib.hid (fun o => one_in (h.below ((Below.refl w.heap.size w).alloc (Nat.le_refl _) o)) n hn hl)
  generalize ps.getD n default = P at *
  obtain ⟨nm, tx, sp, sn, sc⟩ := P
  dsimp only at hm htx
  have htx' : (tx.size : Int) ≤ 1000000 := by omega
  clear h hn hl htx
  go_enter Try.func18, Try.ntmps18
  go_wp2_with fail
  refine (HO.out _).mono ?_; rintro e w1 ⟨rfl, hb⟩
  obtain ⟨hk, hb1, hlt⟩ := kept_new (l := [.int .i64 0, .int .i64 0, .int .i64 0]) hb
  have HB := Lib.hid (And.intro hk hb1)
  have c0 := hk.cell (i := 0) (u := .int .i64 0) rfl
  have c1 := hk.cell (i := 1) (u := .int .i64 0) rfl
  have c2 := hk.cell (i := 2) (u := .int .i64 0) rfl
  have f0 := hk.frz 0
  have f1 := hk.frz 1
  have f2 := hk.frz 2
  dsimp only [partV, Part.st]
  clear hb hb1 hk
  rcases hm with hm | hm
  all_goals
    have hm2 : 0 ≤ m ∨ m < 0 := by omega
    rcases hm2 with hm2 | hm2
  all_goals first
    | (exfalso; omega)
    | (go_wp2_with fail
       have HE := pos_end HB.out.1 HB.out.2 (Obj.cells #[Value.string nm, Value.string tx, Value.slice sp sn sc] 65) (.int .i64 0) (.int .i64 0) (.int .i64 0)
       have e0 := HE.1.cell (i := 0) (u := .int .i64 0) rfl
       have e1 := HE.1.cell (i := 1) (u := .int .i64 0) rfl
       have e2 := HE.1.cell (i := 2) (u := .int .i64 0) rfl
       refine bodyPost_ret (v := .tuple #[.agg #[.int .i64 0, .int .i64 0, .int .i64 0], .int .i64 3]) ?_ rfl ⟨rfl, HE.2⟩
       generalize ((((w1.setCell ⟨w.heap.size, 0, none⟩ (.int .i64 0)).setCell ⟨w.heap.size, 1, none⟩ (.int .i64 0)).setCell ⟨w.heap.size, 2, none⟩ (.int .i64 0)).alloc (Obj.cells #[Value.string nm, Value.string tx, Value.slice sp sn sc] 65)) = W at *
       simp [results, Try.results18, go_sem, e0, e1, e2])
end Go.Proofs.Ytonippdileikbaa
