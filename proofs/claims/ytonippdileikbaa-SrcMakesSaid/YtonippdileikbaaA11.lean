import Derived.Test.YtonippdileikbaaA10
namespace Go.Proofs.Ytonippdileikbaa
set_option linter.unusedVariables false
open Go.RowKit

/-- line k + 1 is the line of byte t -/
structure LineOf (L : List Int) (t : Int) (k : Nat) : Prop where
  lt : k < L.length
  lo : L.getD k 0 ≤ t
  hi : k + 1 < L.length → t < L.getD (k + 1) 0

set_option maxHeartbeats 4000000 in
theorem pos_in {w : World} {bt ps} (h : Tab w bt ps) (n : Nat) (m : Nat) (hn : n < ps.length) (hl : ps.length ≤ 100000) {L : List Int} (hK : Known w (ps.getD n default) L) (hm : m ≤ (ps.getD n default).text.size)
    (h0 : 0 < L.length) (hL0 : L.getD 0 0 = 0) (hs : ∀ a b, a < b → b < L.length → L.getD a 0 < L.getD b 0) :
    Calls Try.prog 18 #[.pointer (some ⟨bt, 0, none⟩), .int .i64 ((n : Int) + 1), .int .i64 m] w fun e w' => ∃ k, LineOf L m k ∧ e = .returned (.tuple #[.agg #[.int .i64 ((n : Int) + 1), .int .i64 ((k : Int) + 1), .int .i64 (1 + m - L.getD k 0)], .int .i64 0]) ∧ Below w.heap.size w w' := by
  have HO := Lib.hid (fun o => one_in (h.below ((Below.refl w.heap.size w).alloc (Nat.le_refl _) o)) n hn hl)
  generalize ps.getD n default = P at *
  obtain ⟨nm, tx, sp, sn, sc⟩ := P
  have hsn : sn = L.length := hK.ro.count
  subst hsn
  have htx := hK.tx
  dsimp only at hm htx
  have hm1 : (m : Int) ≤ tx.size := by omega
  have HM := Lib.hid (And.intro htx hm)
  have HS : Hid (∀ w', Below w.heap.size w w' → Calls Try.prog 32 #[.slice sp L.length sc, .int .i64 m] w' fun e w'' => ∃ i, Lower L m i ∧ e = .returned (.tuple #[.int .i64 i, .bool (foundB L m i)]) ∧ w' = w'') :=
    Lib.hid fun w' hb => search_any w' _ L m (hK.ro.below hb) hK.len (fun a b hab hb => by
      by_cases e : a = b
      · subst e; exact Int.le_refl _
      · exact Int.le_of_lt (hs a b (by omega) hb))
  have HP := Lib.hid (fun i hi => lower_place L m i hi h0 hL0 (by omega) hs)
  have HK := Lib.hid hK
  have HN := Lib.hid (Nat.lt_of_lt_of_le hn hl)
  clear h hn hl hK hm h0 hL0 hs htx
  go_enter Try.func18, Try.ntmps18
  go_wp2_with fail
  refine (HO.out _).mono ?_; rintro e w1 ⟨rfl, hb⟩
  obtain ⟨hk, hb1, hlt⟩ := kept_new (l := [.int .i64 0, .int .i64 0, .int .i64 0]) hb
  have HB := Lib.hid (And.intro hk hb1)
  have c0 := hk.cell (i := 0) (u := .int .i64 0) rfl
  have c1 := hk.cell (i := 1) (u := .int .i64 0) rfl
  have c2 := hk.cell (i := 2) (u := .int .i64 0) rfl
  have f0 := hk.frz 0
  have f1 := hk.frz 1
  have f2 := hk.frz 2
  dsimp only [partV, Part.st]
  clear hb hb1 hk
  go_wp2_with fail
  refine (HS.out _ (HB.out.2.alloc HB.out.2.size _)).mono ?_; rintro e w' ⟨i, hi, rfl, rfl⟩
  obtain ⟨k, hkL, hf, hlo, hhi⟩ := HP.out i hi
  have HLn : Hid (LineOf L m k) := Lib.hid ⟨hkL, hlo, hhi⟩
  have hro := HK.out.ro.below (HB.out.2.alloc HB.out.2.size (Obj.cells #[Value.string nm, Value.string tx, Value.slice sp L.length sc] 65))
  dsimp only [Part.st] at hro
  obtain ⟨bb, o, rfl⟩ := hro.sl (ints_at L k hkL)
  have hc := hro.cell (ints_at L k hkL)
  have hbd := HK.out.bd k hkL
  have hklen := HK.out.len
  have hkL' : (k : Int) < L.length := by omega
  have hk6 : (k : Int) ≤ 1000000 := by omega
  generalize hX : L.getD k 0 = X at *
  have HX := Lib.hid hX
  clear hX
  have hX0 : 0 ≤ X := hbd.1
  have hm6 : (m : Int) ≤ 1000000 := by have := HM.out; omega
  have hX1 : X ≤ m := hlo
  clear hi hlo hhi hro hbd hklen
  have hE := pos_end HB.out.1 HB.out.2 (Obj.cells #[Value.string nm, Value.string tx, Value.slice (some ⟨bb, o, none⟩) L.length sc] 65) (.int .i64 ((n : Int) + 1)) (.int .i64 ((k : Int) + 1)) (.int .i64 (1 + (m : Int) - X))
  have HE := Lib.hid hE
  clear hE
  rcases hf with ⟨hf, hik⟩ | ⟨hf, hik⟩
  · have hki := hik.symm
    clear hik
    subst hki
    rw [hf]
    clear hf
    go_wp2_with fail
    have e0 := HE.out.1.cell (i := 0) (u := .int .i64 ((n : Int) + 1)) rfl
    have e1 := HE.out.1.cell (i := 1) (u := .int .i64 ((k : Int) + 1)) rfl
    have e2 := HE.out.1.cell (i := 2) (u := .int .i64 (1 + (m : Int) - X)) rfl
    refine bodyPost_ret (v := .tuple #[.agg #[.int .i64 ((n : Int) + 1), .int .i64 ((k : Int) + 1), .int .i64 (1 + (m : Int) - X)], .int .i64 0]) ?_ rfl ⟨k, HLn.out, by rw [HX.out], HE.out.2⟩
    generalize ((((w1.setCell ⟨w.heap.size, 0, none⟩ (.int .i64 ((n : Int) + 1))).setCell ⟨w.heap.size, 1, none⟩ (.int .i64 ((k : Int) + 1))).setCell ⟨w.heap.size, 2, none⟩ (.int .i64 (1 + (m : Int) - X))).alloc (Obj.cells #[Value.string nm, Value.string tx, Value.slice (some ⟨bb, o, none⟩) L.length sc] 65)) = W at *
    simp [results, Try.results18, go_sem, e0, e1, e2]
  · subst hik
    rw [hf]
    clear hf
    go_wp2_with fail
    have e0 := HE.out.1.cell (i := 0) (u := .int .i64 ((n : Int) + 1)) rfl
    have e1 := HE.out.1.cell (i := 1) (u := .int .i64 ((k : Int) + 1)) rfl
    have e2 := HE.out.1.cell (i := 2) (u := .int .i64 (1 + (m : Int) - X)) rfl
    refine bodyPost_ret (v := .tuple #[.agg #[.int .i64 ((n : Int) + 1), .int .i64 ((k : Int) + 1), .int .i64 (1 + (m : Int) - X)], .int .i64 0]) ?_ rfl ⟨k, HLn.out, by rw [HX.out], HE.out.2⟩
    generalize ((((w1.setCell ⟨w.heap.size, 0, none⟩ (.int .i64 ((n : Int) + 1))).setCell ⟨w.heap.size, 1, none⟩ (.int .i64 ((k : Int) + 1))).setCell ⟨w.heap.size, 2, none⟩ (.int .i64 (1 + (m : Int) - X))).alloc (Obj.cells #[Value.string nm, Value.string tx, Value.slice (some ⟨bb, o, none⟩) L.length sc] 65)) = W at *
    simp [results, Try.results18, go_sem, e0, e1, e2]
end Go.Proofs.Ytonippdileikbaa
