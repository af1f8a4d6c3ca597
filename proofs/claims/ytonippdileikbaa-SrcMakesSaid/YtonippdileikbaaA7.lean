import Derived.Test.YtonippdileikbaaA6
namespace Go.Proofs.Ytonippdileikbaa
set_option linter.unusedVariables false
open Go.RowKit

theorem RO.count {w : World} {p : Option Addr} {n c size n' : Nat} {cs} (h : RO w (.slice p n c) size n' cs) : n = n' := by
  obtain ⟨_, p', c', e, _⟩ := h
  simp only [Value.slice.injEq] at e
  exact e.2.1

/-- what is known of a part: its starts, and their bounds -/
structure Known (w : World) (P : Part) (L : List Int) : Prop where
  ro : RO w P.st 1 L.length (ints L)
  len : L.length ≤ 1000000
  tx : P.text.size ≤ 1000000
  bd : ∀ i, i < L.length → 0 ≤ L.getD i 0 ∧ L.getD i 0 ≤ endOf L P.text.size i ∧ endOf L P.text.size i ≤ P.text.size
theorem Known.below {w w' P L} (h : Known w P L) (hb : Below w.heap.size w w') : Known w' P L := ⟨h.ro.below hb, h.len, h.tx, h.bd⟩

theorem line_nofile {w : World} {bt ps} (h : Tab w bt ps) (n m : Int) (hn : n < 1 ∨ (ps.length : Int) < n) (hl : ps.length ≤ 100000) :
    Calls Try.prog 21 #[.pointer (some ⟨bt, 0, none⟩), .int .i64 n, .int .i64 m] w fun e w' => e = .returned (.tuple #[.string { data := #[] }, .int .i64 21]) ∧ Below w.heap.size w w' := by
  have HO := Lib.hid (one_out h n hn hl)
  clear h hn hl
  go_enter Try.func21, Try.ntmps21
  go_wp2_with fail
  refine HO.out.mono ?_; rintro e w1 ⟨rfl, hb⟩
  have HB := Lib.hid hb
  clear hb
  have hd : partV default = .agg #[.string { data := #[] }, .string { data := #[] }, .slice none 0 0] := rfl
  rw [hd]
  go_wp2_with fail
  go_ret2
  exact ⟨rfl, HB.out.alloc HB.out.size _⟩

set_option maxHeartbeats 1000000 in
theorem line_noline {w : World} {bt ps} (h : Tab w bt ps) (n : Nat) (m : Int) (hn : n < ps.length) (hl : ps.length ≤ 100000) {L : List Int} (hK : Known w (ps.getD n default) L) (hm : m < 1 ∨ (L.length : Int) < m) :
    Calls Try.prog 21 #[.pointer (some ⟨bt, 0, none⟩), .int .i64 ((n : Int) + 1), .int .i64 m] w fun e w' => e = .returned (.tuple #[.string { data := #[] }, .int .i64 3]) ∧ Below w.heap.size w w' := by
  have HO := Lib.hid (one_in h n hn hl)
  generalize ps.getD n default = P at *
  obtain ⟨nm, tx, sp, sn, sc⟩ := P
  have hsn : sn = L.length := hK.ro.count
  subst hsn
  have HB : Hid (∀ w, Calls Try.prog 33 #[.agg #[.string nm, .string tx, .slice sp L.length sc], .int .i64 m] w fun e w' => e = .returned (.tuple #[.int .i64 0, .int .i64 0, .int .i64 3]) ∧ Below w.heap.size w w') := Lib.hid fun w => bounds_out w nm tx sp L.length sc m hm hK.len
  clear h hn hl hK hm
  go_enter Try.func21, Try.ntmps21
  go_wp2_with fail
  refine HO.out.mono ?_; rintro e w1 ⟨rfl, hb⟩
  have HB1 := Lib.hid hb
  clear hb
  dsimp only [partV, Part.st]
  go_wp2_with fail
  refine (HB.out _).mono ?_; rintro e w2 ⟨rfl, hb⟩
  have HB2 := Lib.hid (Below.then (HB1.out.alloc HB1.out.size _) hb (Nat.le_refl _))
  clear hb
  go_wp2_with fail
  go_ret2
  exact ⟨rfl, HB2.out⟩

set_option maxHeartbeats 1000000 in
theorem line_in {w : World} {bt ps} (h : Tab w bt ps) (n k : Nat) (hn : n < ps.length) (hl : ps.length ≤ 100000) {L : List Int} (hK : Known w (ps.getD n default) L) (hk : k < L.length) :
    Calls Try.prog 21 #[.pointer (some ⟨bt, 0, none⟩), .int .i64 ((n : Int) + 1), .int .i64 ((k : Int) + 1)] w fun e w' => e = .returned (.tuple #[.string ((ps.getD n default).text.extract (L.getD k 0).toNat (endOf L (ps.getD n default).text.size k).toNat), .int .i64 0]) ∧ Below w.heap.size w w' := by
  have HO := Lib.hid (one_in h n hn hl)
  generalize ps.getD n default = P at *
  obtain ⟨nm, tx, sp, sn, sc⟩ := P
  have hsn : sn = L.length := hK.ro.count
  subst hsn
  have hbd := hK.bd k hk
  have htx := hK.tx
  have HB : Hid (∀ w', Below w.heap.size w w' → Calls Try.prog 33 #[.agg #[.string nm, .string tx, .slice sp L.length sc], .int .i64 ((k : Int) + 1)] w' fun e w'' => e = .returned (.tuple #[.int .i64 (L.getD k 0), .int .i64 (endOf L tx.size k), .int .i64 0]) ∧ Below w'.heap.size w' w'') :=
    Lib.hid fun w' hb => bounds_in w' nm tx sp sc L k hk hK.len (hK.ro.below hb) (by have := hK.tx; simp only [maxLen]; dsimp only at this; omega) (fun i hi => by have := hK.bd i hi; have := hK.tx; dsimp only at *; omega)
  dsimp only at hbd htx ⊢
  generalize L.getD k 0 = X at *
  generalize endOf L tx.size k = Y at *
  obtain ⟨h0, h1, h2⟩ := hbd
  have htx' : (tx.size : Int) ≤ 1000000 := by omega
  clear h hn hl hK hk htx
  go_enter Try.func21, Try.ntmps21
  go_wp2_with fail
  refine HO.out.mono ?_; rintro e w1 ⟨rfl, hb⟩
  have HB1 := Lib.hid hb
  clear hb
  dsimp only [partV, Part.st]
  go_wp2_with fail
  refine (HB.out _ (HB1.out.alloc HB1.out.size _)).mono ?_; rintro e w2 ⟨rfl, hb⟩
  have hk2 : Blk w2 w1.heap.size 65 [.string nm, .string tx, .slice sp L.length sc] := by
    have := hb.block w1.heap.size (by rw [World.size_alloc]; omega)
    rw [heap_alloc_new] at this
    exact this
  have c1 := hk2.cell (i := 1) (u := .string tx) rfl
  have HB2 := Lib.hid (Below.then (HB1.out.alloc HB1.out.size _) hb (Nat.le_refl _))
  clear hb hk2
  go_wp2_with fail

  go_ret2
  exact ⟨rfl, HB2.out⟩
end Go.Proofs.Ytonippdileikbaa
