/- Texts of this claim, one behind another: UA10, UA11, UA12, UA13, UA14, UA15, UA16, UA17. They state lemmas; each names its own conditions. -/
import Derived.Test.YtcjfelndnnhgjaaGreatDoorZ1
import Derived.StillTailTactics
import Derived.Deep.RegionLaw
import Derived.Deep.RegionHeld3
namespace Go.Proofs.YtcjfelndnnhgjaaGreatDoor
set_option linter.unusedVariables false
open Go.RowKit
theorem lower_place (L : List Int) (t : Int) (i : Nat) (h : Lower L t i) (h0 : 0 < L.length) (hL0 : L.getD 0 0 = 0) (ht : 0 ≤ t) (hs : ∀ a b, a < b → b < L.length → L.getD a 0 < L.getD b 0) :
    ∃ k, k < L.length ∧ (foundB L t i = true ∧ i = k ∨ foundB L t i = false ∧ i = k + 1) ∧ L.getD k 0 ≤ t ∧ (k + 1 < L.length → t < L.getD (k + 1) 0) := by
  by_cases hf : i < L.length ∧ L.getD i 0 = t
  · exact ⟨i, hf.1, .inl ⟨decide_eq_true hf, rfl⟩, Int.le_of_eq hf.2, fun hk => by have := hs i (i + 1) (by omega) hk; omega⟩
  · have hi0 : i ≠ 0 := by
      rintro rfl
      have := h.hi 0 (Nat.le_refl _) h0
      exact hf ⟨h0, by omega⟩
    have hle := h.le
    refine ⟨i - 1, by omega, .inr ⟨decide_eq_false hf, by omega⟩, Int.le_of_lt (h.lo _ (by omega)), fun hk => ?_⟩
    have e : i - 1 + 1 = i := by omega
    rw [e] at hk ⊢
    have := h.hi i (Nat.le_refl _) hk
    rcases Int.lt_or_eq_of_le this with g | g
    · exact g
    · exact absurd ⟨hk, g.symm⟩ hf
theorem pos_end {w w1 : World} {t : TypeId} {a b c : Value} (hk : Blk w1 w.heap.size t [a, b, c]) (hb : Below w.heap.size w w1) (o : Obj) (x y z : Value) :
    Blk ((((w1.setCell ⟨w.heap.size, 0, none⟩ x).setCell ⟨w.heap.size, 1, none⟩ y).setCell ⟨w.heap.size, 2, none⟩ z).alloc o) w.heap.size t [x, y, z] ∧
    Below w.heap.size w ((((w1.setCell ⟨w.heap.size, 0, none⟩ x).setCell ⟨w.heap.size, 1, none⟩ y).setCell ⟨w.heap.size, 2, none⟩ z).alloc o) :=
  ⟨(((hk.set 0 x).set 1 y).set 2 z).alloc o, (((hb.setCell (Nat.le_refl _) x).setCell (Nat.le_refl _) y).setCell (Nat.le_refl _) z).alloc (by simp only [World.size_setCell]; exact hb.size) o⟩
set_option maxHeartbeats 1000000 in
theorem pos_nofile {w : World} {bt ps} (h : Tab w bt ps) (n m : Int) (hn : n < 1 ∨ (ps.length : Int) < n) (hl : ps.length ≤ 100000) :
    Calls Tryz.prog 28 #[.pointer (some ⟨bt, 0, none⟩), .int .i64 n, .int .i64 m] w fun e w' => e = .returned (.tuple #[.agg #[.int .i64 0, .int .i64 0, .int .i64 0], .int .i64 21]) ∧ Below w.heap.size w w' := by
  have HO := Lib.hid (fun o => one_out (h.below ((Below.refl w.heap.size w).alloc (Nat.le_refl _) o)) n hn hl)
  clear h hn hl
  go_enter Tryz.func28, Tryz.ntmps28
  go_wp2_with fail
  refine (HO.out _).mono ?_; rintro e w1 ⟨rfl, hb⟩
  obtain ⟨hk, hb1, hlt⟩ := kept_new (l := [.int .i64 0, .int .i64 0, .int .i64 0]) hb
  have HB := Lib.hid (And.intro hk hb1)
  have c0 := hk.cell (i := 0) (u := .int .i64 0) rfl
  have c1 := hk.cell (i := 1) (u := .int .i64 0) rfl
  have c2 := hk.cell (i := 2) (u := .int .i64 0) rfl
  have f0 := hk.frz 0
  have f1 := hk.frz 1
  have f2 := hk.frz 2
  have hd : partV default = .agg #[.string { data := #[] }, .string { data := #[] }, .slice none 0 0] := rfl
  rw [hd]
  clear hb hb1 hk
  go_wp2_with fail
  have HE := pos_end HB.out.1 HB.out.2 (Obj.cells #[Value.string { data := #[] }, Value.string { data := #[] }, Value.slice none 0 0] 58) (.int .i64 0) (.int .i64 0) (.int .i64 0)
  have e0 := HE.1.cell (i := 0) (u := .int .i64 0) rfl
  have e1 := HE.1.cell (i := 1) (u := .int .i64 0) rfl
  have e2 := HE.1.cell (i := 2) (u := .int .i64 0) rfl
  refine bodyPost_ret (v := .tuple #[.agg #[.int .i64 0, .int .i64 0, .int .i64 0], .int .i64 21]) ?_ rfl ⟨rfl, HE.2⟩
  generalize ((((w1.setCell ⟨w.heap.size, 0, none⟩ (.int .i64 0)).setCell ⟨w.heap.size, 1, none⟩ (.int .i64 0)).setCell ⟨w.heap.size, 2, none⟩ (.int .i64 0)).alloc (Obj.cells #[Value.string { data := #[] }, Value.string { data := #[] }, Value.slice none 0 0] 58)) = W at *
  simp [results, Tryz.results28, go_sem, e0, e1, e2]
set_option maxHeartbeats 2000000 in
theorem pos_out {w : World} {bt ps} (h : Tab w bt ps) (n : Nat) (m : Int) (hn : n < ps.length) (hl : ps.length ≤ 100000) (hm : m < 0 ∨ ((ps.getD n default).text.size : Int) < m) (htx : (ps.getD n default).text.size ≤ 1000000) :
    Calls Tryz.prog 28 #[.pointer (some ⟨bt, 0, none⟩), .int .i64 ((n : Int) + 1), .int .i64 m] w fun e w' => e = .returned (.tuple #[.agg #[.int .i64 0, .int .i64 0, .int .i64 0], .int .i64 3]) ∧ Below w.heap.size w w' := by
  have HO := Lib.hid (fun o => one_in (h.below ((Below.refl w.heap.size w).alloc (Nat.le_refl _) o)) n hn hl)
  generalize ps.getD n default = P at *
  obtain ⟨nm, tx, sp, sn, sc⟩ := P
  dsimp only at hm htx
  have htx' : (tx.size : Int) ≤ 1000000 := by omega
  clear h hn hl htx
  go_enter Tryz.func28, Tryz.ntmps28
  go_wp2_with fail
  refine (HO.out _).mono ?_; rintro e w1 ⟨rfl, hb⟩
  obtain ⟨hk, hb1, hlt⟩ := kept_new (l := [.int .i64 0, .int .i64 0, .int .i64 0]) hb
  have HB := Lib.hid (And.intro hk hb1)
  have c0 := hk.cell (i := 0) (u := .int .i64 0) rfl
  have c1 := hk.cell (i := 1) (u := .int .i64 0) rfl
  have c2 := hk.cell (i := 2) (u := .int .i64 0) rfl
  have f0 := hk.frz 0
  have f1 := hk.frz 1
  have f2 := hk.frz 2
  dsimp only [partV, Part.st]
  clear hb hb1 hk
  rcases hm with hm | hm
  all_goals
    have hm2 : 0 ≤ m ∨ m < 0 := by omega
    rcases hm2 with hm2 | hm2
  all_goals first
    | (exfalso; omega)
    | (go_wp2_with fail
       have HE := pos_end HB.out.1 HB.out.2 (Obj.cells #[Value.string nm, Value.string tx, Value.slice sp sn sc] 58) (.int .i64 0) (.int .i64 0) (.int .i64 0)
       have e0 := HE.1.cell (i := 0) (u := .int .i64 0) rfl
       have e1 := HE.1.cell (i := 1) (u := .int .i64 0) rfl
       have e2 := HE.1.cell (i := 2) (u := .int .i64 0) rfl
       refine bodyPost_ret (v := .tuple #[.agg #[.int .i64 0, .int .i64 0, .int .i64 0], .int .i64 3]) ?_ rfl ⟨rfl, HE.2⟩
       generalize ((((w1.setCell ⟨w.heap.size, 0, none⟩ (.int .i64 0)).setCell ⟨w.heap.size, 1, none⟩ (.int .i64 0)).setCell ⟨w.heap.size, 2, none⟩ (.int .i64 0)).alloc (Obj.cells #[Value.string nm, Value.string tx, Value.slice sp sn sc] 58)) = W at *
       simp [results, Tryz.results28, go_sem, e0, e1, e2])
end Go.Proofs.YtcjfelndnnhgjaaGreatDoor
namespace Go.Proofs.YtcjfelndnnhgjaaGreatDoor
set_option linter.unusedVariables false
open Go.RowKit
/-- line k + 1 is the line of byte t -/
structure LineOf (L : List Int) (t : Int) (k : Nat) : Prop where
  lt : k < L.length
  lo : L.getD k 0 ≤ t
  hi : k + 1 < L.length → t < L.getD (k + 1) 0
set_option maxHeartbeats 4000000 in
theorem pos_in {w : World} {bt ps} (h : Tab w bt ps) (n : Nat) (m : Nat) (hn : n < ps.length) (hl : ps.length ≤ 100000) {L : List Int} (hK : Known w (ps.getD n default) L) (hm : m ≤ (ps.getD n default).text.size)
    (h0 : 0 < L.length) (hL0 : L.getD 0 0 = 0) (hs : ∀ a b, a < b → b < L.length → L.getD a 0 < L.getD b 0) :
    Calls Tryz.prog 28 #[.pointer (some ⟨bt, 0, none⟩), .int .i64 ((n : Int) + 1), .int .i64 m] w fun e w' => ∃ k, LineOf L m k ∧ e = .returned (.tuple #[.agg #[.int .i64 ((n : Int) + 1), .int .i64 ((k : Int) + 1), .int .i64 (1 + m - L.getD k 0)], .int .i64 0]) ∧ Below w.heap.size w w' := by
  have HO := Lib.hid (fun o => one_in (h.below ((Below.refl w.heap.size w).alloc (Nat.le_refl _) o)) n hn hl)
  generalize ps.getD n default = P at *
  obtain ⟨nm, tx, sp, sn, sc⟩ := P
  have hsn : sn = L.length := hK.ro.count
  subst hsn
  have htx := hK.tx
  dsimp only at hm htx
  have hm1 : (m : Int) ≤ tx.size := by omega
  have HM := Lib.hid (And.intro htx hm)
  have HS : Hid (∀ w', Below w.heap.size w w' → Calls Tryz.prog 40 #[.slice sp L.length sc, .int .i64 m] w' fun e w'' => ∃ i, Lower L m i ∧ e = .returned (.tuple #[.int .i64 i, .bool (foundB L m i)]) ∧ w' = w'') :=
    Lib.hid fun w' hb => search_any w' _ L m (hK.ro.below hb) hK.len (fun a b hab hb => by
      by_cases e : a = b
      · subst e; exact Int.le_refl _
      · exact Int.le_of_lt (hs a b (by omega) hb))
  have HP := Lib.hid (fun i hi => lower_place L m i hi h0 hL0 (by omega) hs)
  have HK := Lib.hid hK
  have HN := Lib.hid (Nat.lt_of_lt_of_le hn hl)
  clear h hn hl hK hm h0 hL0 hs htx
  go_enter Tryz.func28, Tryz.ntmps28
  go_wp2_with fail
  refine (HO.out _).mono ?_; rintro e w1 ⟨rfl, hb⟩
  obtain ⟨hk, hb1, hlt⟩ := kept_new (l := [.int .i64 0, .int .i64 0, .int .i64 0]) hb
  have HB := Lib.hid (And.intro hk hb1)
  have c0 := hk.cell (i := 0) (u := .int .i64 0) rfl
  have c1 := hk.cell (i := 1) (u := .int .i64 0) rfl
  have c2 := hk.cell (i := 2) (u := .int .i64 0) rfl
  have f0 := hk.frz 0
  have f1 := hk.frz 1
  have f2 := hk.frz 2
  dsimp only [partV, Part.st]
  clear hb hb1 hk
  go_wp2_with fail
  refine (HS.out _ (HB.out.2.alloc HB.out.2.size _)).mono ?_; rintro e w' ⟨i, hi, rfl, rfl⟩
  obtain ⟨k, hkL, hf, hlo, hhi⟩ := HP.out i hi
  have HLn : Hid (LineOf L m k) := Lib.hid ⟨hkL, hlo, hhi⟩
  have hro := HK.out.ro.below (HB.out.2.alloc HB.out.2.size (Obj.cells #[Value.string nm, Value.string tx, Value.slice sp L.length sc] 58))
  dsimp only [Part.st] at hro
  obtain ⟨bb, o, rfl⟩ := hro.sl (ints_at L k hkL)
  have hc := hro.cell (ints_at L k hkL)
  have hbd := HK.out.bd k hkL
  have hklen := HK.out.len
  have hkL' : (k : Int) < L.length := by omega
  have hk6 : (k : Int) ≤ 1000000 := by omega
  generalize hX : L.getD k 0 = X at *
  have HX := Lib.hid hX
  clear hX
  have hX0 : 0 ≤ X := hbd.1
  have hm6 : (m : Int) ≤ 1000000 := by have := HM.out; omega
  have hX1 : X ≤ m := hlo
  clear hi hlo hhi hro hbd hklen
  have hE := pos_end HB.out.1 HB.out.2 (Obj.cells #[Value.string nm, Value.string tx, Value.slice (some ⟨bb, o, none⟩) L.length sc] 58) (.int .i64 ((n : Int) + 1)) (.int .i64 ((k : Int) + 1)) (.int .i64 (1 + (m : Int) - X))
  have HE := Lib.hid hE
  clear hE
  rcases hf with ⟨hf, hik⟩ | ⟨hf, hik⟩
  · have hki := hik.symm
    clear hik
    subst hki
    rw [hf]
    clear hf
    go_wp2_with fail
    have e0 := HE.out.1.cell (i := 0) (u := .int .i64 ((n : Int) + 1)) rfl
    have e1 := HE.out.1.cell (i := 1) (u := .int .i64 ((k : Int) + 1)) rfl
    have e2 := HE.out.1.cell (i := 2) (u := .int .i64 (1 + (m : Int) - X)) rfl
    refine bodyPost_ret (v := .tuple #[.agg #[.int .i64 ((n : Int) + 1), .int .i64 ((k : Int) + 1), .int .i64 (1 + (m : Int) - X)], .int .i64 0]) ?_ rfl ⟨k, HLn.out, by rw [HX.out], HE.out.2⟩
    generalize ((((w1.setCell ⟨w.heap.size, 0, none⟩ (.int .i64 ((n : Int) + 1))).setCell ⟨w.heap.size, 1, none⟩ (.int .i64 ((k : Int) + 1))).setCell ⟨w.heap.size, 2, none⟩ (.int .i64 (1 + (m : Int) - X))).alloc (Obj.cells #[Value.string nm, Value.string tx, Value.slice (some ⟨bb, o, none⟩) L.length sc] 58)) = W at *
    simp [results, Tryz.results28, go_sem, e0, e1, e2]
  · subst hik
    rw [hf]
    clear hf
    go_wp2_with fail
    have e0 := HE.out.1.cell (i := 0) (u := .int .i64 ((n : Int) + 1)) rfl
    have e1 := HE.out.1.cell (i := 1) (u := .int .i64 ((k : Int) + 1)) rfl
    have e2 := HE.out.1.cell (i := 2) (u := .int .i64 (1 + (m : Int) - X)) rfl
    refine bodyPost_ret (v := .tuple #[.agg #[.int .i64 ((n : Int) + 1), .int .i64 ((k : Int) + 1), .int .i64 (1 + (m : Int) - X)], .int .i64 0]) ?_ rfl ⟨k, HLn.out, by rw [HX.out], HE.out.2⟩
    generalize ((((w1.setCell ⟨w.heap.size, 0, none⟩ (.int .i64 ((n : Int) + 1))).setCell ⟨w.heap.size, 1, none⟩ (.int .i64 ((k : Int) + 1))).setCell ⟨w.heap.size, 2, none⟩ (.int .i64 (1 + (m : Int) - X))).alloc (Obj.cells #[Value.string nm, Value.string tx, Value.slice (some ⟨bb, o, none⟩) L.length sc] 58)) = W at *
    simp [results, Tryz.results28, go_sem, e0, e1, e2]
end Go.Proofs.YtcjfelndnnhgjaaGreatDoor
namespace Go.Proofs.YtcjfelndnnhgjaaGreatDoor
set_option linter.unusedVariables false
open Go.RowKit
def sameS (a b : ByteArray) : Bool := a.toList == b.toList
theorem find1_any {w : World} (b : Nat) (s : ByteArray) (p : Part) (hb : Blk w b 9 [.string s]) (r : Bool) (hr : sameS p.name s = r) :
    Calls Tryz.prog 25 #[.agg #[.string p.name, .string p.text, .slice p.sp p.sn p.sc], .pointer (some ⟨b, 0, none⟩)] w fun e w' => e = .returned (.bool r) ∧ Below w.heap.size w w' := by
  obtain ⟨nm, tx, sp, sn, sc⟩ := p
  have hc := hb.cell (i := 0) (u := .string s) rfl
  have hlt := hb.lt
  have HR := Lib.hid hr
  clear hr
  dsimp only
  go_enter Tryz.func25, Tryz.ntmps25
  go_wp2_with fail
  go_ret
  exact ⟨congrArg (fun b => Ending.returned (Value.bool b)) HR.out, (Below.refl _ _).alloc (Nat.le_refl _) _⟩
/-- the first of n places at which f holds, or -1 -/
def FirstAt (f : Nat → Bool) (n : Nat) (r : Int) : Prop := (∃ i : Nat, i < n ∧ f i = true ∧ (∀ j, j < i → f j = false) ∧ r = i) ∨ ((∀ j, j < n → f j = false) ∧ r = -1)
set_option maxHeartbeats 1000000 in
theorem index30 {w : World} (v : Value) (b : Nat) (s : ByteArray) (ps : List Part) (hr : RO w v 3 ps.length (partCells ps)) (hb : Blk w b 9 [.string s]) (hl : ps.length ≤ 100000) :
    Calls Tryz.prog 24 #[v, .func (Fn.func 25) #[] #[.pointer (some ⟨b, 0, none⟩)]] w fun e w' => ∃ r, FirstAt (fun i => sameS (ps.getD i default).name s) ps.length r ∧ e = .returned (.int .i64 r) ∧ Below w.heap.size w w' := by
  obtain ⟨p, c, rfl⟩ := hr.form
  have hl' : (ps.length : Int) ≤ 100000 := by omega
  have H := Lib.hid (And.intro hr hb)
  clear hr hb hl
  go_enter Tryz.func24, Tryz.ntmps24
  go_wp2_with fail
  generalize hB : w.heap.size = B at *
  go_loopw [8] (fun i wr => ∃ k : Nat, k ≤ ps.length ∧ i = .int .i64 k ∧ (∀ j, j < k → sameS (ps.getD j default).name s = false) ∧ Below B w wr) (fun i _ => ps.length - (intOf i).toNat)
  case atStart => exact ⟨0, Nat.zero_le _, rfl, fun j hj => absurd hj (Nat.not_lt_zero _), Below.refl _ _⟩
  case round =>
    obtain ⟨k, hk, rfl, hno, hbel⟩ := hrel
    have HR := Lib.hid (And.intro hno hbel)
    by_cases hlt : k < ps.length
    · obtain ⟨bb, o, rfl⟩ := H.out.1.sl (parts_at ps k hlt).1
      have hro := H.out.1.below (hB ▸ hbel)
      have h0 := hro.cell (parts_at ps k hlt).1
      have h1 := hro.cell (parts_at ps k hlt).2.1
      have h2 := hro.cell (parts_at ps k hlt).2.2
      rw [← Nat.add_assoc] at h1 h2
      obtain ⟨r, hr⟩ : ∃ r, sameS (ps.getD k default).name s = r := ⟨_, rfl⟩
      have HS := Lib.hid (show (fun i => sameS (ps.getD i default).name s) k = r from hr)
      have HC := Lib.hid (find1_any (w := wr) b s (ps.getD k default) (H.out.2.below (hB ▸ hbel) H.out.2.lt) r hr)
      generalize ps.getD k default = P at *
      obtain ⟨nm, tx, sp, sn, sc⟩ := P
      dsimp only [Part.st] at h0 h1 h2 HC
      clear hno hbel hro hr
      go_wp2_with fail
      refine HC.out.mono ?_; rintro e w2 ⟨rfl, hb2⟩
      have HB := Lib.hid (HR.out.2.trans (hb2.mono (by have := HR.out.2.size; omega)))
      clear hb2
      cases r
      · go_wp2_with fail
        go_roundw
        case rel => exact ⟨k + 1, by omega, by go_num, fun j hj => by
                      by_cases e : j = k
                      · subst e; exact HS.out
                      · exact HR.out.1 j (by omega), HB.out⟩
        case measure => simp [intOf]; omega
      · go_wp2_with fail
        go_ret
        exact ⟨k, .inl ⟨k, hlt, HS.out, HR.out.1, rfl⟩, rfl, hB ▸ HB.out⟩
    · obtain rfl : k = ps.length := by omega
      clear hno hbel hlt
      go_wp2_with fail
      go_ret
      exact ⟨-1, .inr ⟨HR.out.1, rfl⟩, rfl, hB ▸ HR.out.2⟩
/-- the number that Find gives -/
theorem find_any {w : World} {bt ps} (h : Tab w bt ps) (s : ByteArray) (hl : ps.length ≤ 100000) :
    Calls Tryz.prog 15 #[.pointer (some ⟨bt, 0, none⟩), .string s] w fun e w' => ∃ r, FirstAt (fun i => sameS (ps.getD i default).name s) ps.length r ∧ e = .returned (.int .i64 (1 + r)) ∧ Below w.heap.size w w' := by
  obtain ⟨v, hc, hr⟩ := h
  obtain ⟨p, c, rfl⟩ := hr.form
  have hb := World.block_lt_of_cell? _ _ hc
  have HI := Lib.hid (index30 (w := w.alloc (Obj.cells #[Value.string s] 9)) _ w.heap.size s ps (hr.below ((Below.refl _ _).alloc (Nat.le_refl _) _)) (Blk.new 9 [.string s]) hl)
  have hl' : (ps.length : Int) ≤ 100000 := by omega
  clear hr hl
  go_enter Tryz.func15, Tryz.ntmps15
  go_wp2_with fail
  refine HI.out.mono ?_; rintro e w2 ⟨r, hf, rfl, hb2⟩
  have hr0 : -1 ≤ r ∧ r ≤ 100000 := by rcases hf with ⟨i, h1, _, _, rfl⟩ | ⟨_, rfl⟩ <;> omega
  obtain ⟨hr1, hr2⟩ := hr0
  have HF := Lib.hid (And.intro hf (((Below.refl w.heap.size w).alloc (Nat.le_refl _) (Obj.cells #[Value.string s] 9)).trans (hb2.mono (by rw [World.size_alloc]; omega))))
  clear hf hb2
  go_wp2_with fail
  go_ret
  exact ⟨r, HF.out.1, rfl, HF.out.2⟩
end Go.Proofs.YtcjfelndnnhgjaaGreatDoor
namespace Go.Proofs.YtcjfelndnnhgjaaGreatDoor
set_option linter.unusedVariables false
open Go.RowKit
/-- a file: its name, its text -/
structure Fil where
  name : ByteArray
  text : ByteArray
instance : Inhabited Fil := ⟨⟨.empty, .empty⟩⟩
def filCells (l : List Fil) : List Value := l.flatMap fun p => [.string p.name, .string p.text]
theorem fils_at (l : List Fil) (i : Nat) (h : i < l.length) : (filCells l)[i * 2]? = some (.string (l.getD i default).name) ∧ (filCells l)[i * 2 + 1]? = some (.string (l.getD i default).text) := by
  induction l generalizing i with
  | nil => simp at h
  | cons p l ih =>
    cases i with
    | zero => simp [filCells]
    | succ i =>
      have := ih i (by simpa using h)
      simp only [filCells, List.flatMap_cons, List.getD_cons_succ] at *
      rw [show (i + 1) * 2 = i * 2 + 2 by omega, show i * 2 + 2 + 1 = i * 2 + 1 + 2 by omega]
      simpa using this
theorem new1_any {w : World} (nm tx : ByteArray) (hs : nm.size ≤ maxLen) (r : Bool) (hr : isName nm = r) :
    Calls Tryz.prog 13 #[.agg #[.string nm, .string tx]] w fun e w' => e = .returned (.bool (!r)) ∧ Below w.heap.size w w' := by
  have HN := Lib.hid (fun w => named_any nm w hs)
  rw [hr] at HN
  clear hs hr
  go_enter Tryz.func13, Tryz.ntmps13
  go_wp2_with fail
  refine (HN.out _).mono ?_; rintro e w' ⟨rfl, rfl⟩
  go_wp2_with fail
  go_ret
  exact ⟨rfl, (Below.refl _ _).alloc (Nat.le_refl _) _⟩
set_option maxHeartbeats 1000000 in
theorem index36 {w : World} (v : Value) (fs : List Fil) (hr : RO w v 2 fs.length (filCells fs)) (hl : fs.length ≤ 100000) (hsz : ∀ i, i < fs.length → (fs.getD i default).name.size ≤ maxLen) :
    Calls Tryz.prog 22 #[v, .func (Fn.func 13) #[] #[]] w fun e w' => ∃ r, FirstAt (fun i => !isName (fs.getD i default).name) fs.length r ∧ e = .returned (.int .i64 r) ∧ Below w.heap.size w w' := by
  obtain ⟨p, c, rfl⟩ := hr.form
  have hl' : (fs.length : Int) ≤ 100000 := by omega
  have H := Lib.hid (And.intro hr hsz)
  clear hr hsz hl
  go_enter Tryz.func22, Tryz.ntmps22
  go_wp2_with fail
  generalize hB : w.heap.size = B at *
  go_loopw [8] (fun i wr => ∃ k : Nat, k ≤ fs.length ∧ i = .int .i64 k ∧ (∀ j, j < k → (!isName (fs.getD j default).name) = false) ∧ Below B w wr) (fun i _ => fs.length - (intOf i).toNat)
  case atStart => exact ⟨0, Nat.zero_le _, rfl, fun j hj => absurd hj (Nat.not_lt_zero _), Below.refl _ _⟩
  case round =>
    obtain ⟨k, hk, rfl, hno, hbel⟩ := hrel
    have HR := Lib.hid (And.intro hno hbel)
    by_cases hlt : k < fs.length
    · obtain ⟨bb, o, rfl⟩ := H.out.1.sl (fils_at fs k hlt).1
      have hro := H.out.1.below (hB ▸ hbel)
      have h0 := hro.cell (fils_at fs k hlt).1
      have h1 := hro.cell (fils_at fs k hlt).2
      rw [← Nat.add_assoc] at h1
      obtain ⟨r, hr⟩ : ∃ r, isName (fs.getD k default).name = r := ⟨_, rfl⟩
      have HS := Lib.hid (show (fun i => isName (fs.getD i default).name) k = r from hr)
      have HC := Lib.hid (new1_any (w := wr) (fs.getD k default).name (fs.getD k default).text (H.out.2 k hlt) r hr)
      generalize fs.getD k default = P at *
      obtain ⟨nm, tx⟩ := P
      dsimp only at h0 h1 HC
      clear hno hbel hro hr
      go_wp2_with fail
      refine HC.out.mono ?_; rintro e w2 ⟨rfl, hb2⟩
      have HB := Lib.hid (HR.out.2.trans (hb2.mono (by have := HR.out.2.size; omega)))
      clear hb2
      cases r
      · go_wp2_with fail
        go_ret
        exact ⟨k, .inl ⟨k, hlt, congrArg (fun b => !b) HS.out, HR.out.1, rfl⟩, rfl, hB ▸ HB.out⟩
      · go_wp2_with fail
        go_roundw
        case rel => exact ⟨k + 1, by omega, by go_num, fun j hj => by
                      by_cases e : j = k
                      · subst e; exact congrArg (fun b => !b) HS.out
                      · exact HR.out.1 j (by omega), HB.out⟩
        case measure => simp [intOf]; omega
    · obtain rfl : k = fs.length := by omega
      clear hno hbel hlt
      go_wp2_with fail
      go_ret
      exact ⟨-1, .inr ⟨HR.out.1, rfl⟩, rfl, hB ▸ HR.out.2⟩
theorem contains_any {w : World} (v : Value) (fs : List Fil) (hr : RO w v 2 fs.length (filCells fs)) (hl : fs.length ≤ 100000) (hsz : ∀ i, i < fs.length → (fs.getD i default).name.size ≤ maxLen) :
    Calls Tryz.prog 12 #[v, .func (Fn.func 13) #[] #[]] w fun e w' => ∃ r, FirstAt (fun i => !isName (fs.getD i default).name) fs.length r ∧ e = .returned (.bool (decide (0 ≤ r))) ∧ Below w.heap.size w w' := by
  have HI := Lib.hid (index36 v fs hr hl hsz)
  clear hr hl hsz
  go_enter Tryz.func12, Tryz.ntmps12
  go_wp2_with fail
  refine HI.out.mono ?_; rintro e w2 ⟨r, hf, rfl, hb2⟩
  have HF := Lib.hid (And.intro hf hb2)
  clear hf hb2
  go_wp2_with fail
  go_ret
  exact ⟨r, HF.out.1, rfl, HF.out.2⟩
end Go.Proofs.YtcjfelndnnhgjaaGreatDoor
namespace Go.Proofs.YtcjfelndnnhgjaaGreatDoor
set_option linter.unusedVariables false
open Go.RowKit
/-- the reference's line and column of byte k -/
def plTo (l : List UInt8) : Nat → Nat × Nat
  | 0 => (1, 1)
  | k + 1 => if l.getD k 0 = 10 then ((plTo l k).1 + 1, 1) else ((plTo l k).1, (plTo l k).2 + 1)
theorem plTo_succ (l : List UInt8) (k : Nat) : plTo l (k + 1) = if l.getD k 0 = 10 then ((plTo l k).1 + 1, 1) else ((plTo l k).1, (plTo l k).2 + 1) := rfl
theorem plTo_le (l : List UInt8) : ∀ k, (plTo l k).1 ≤ k + 1 ∧ (plTo l k).2 ≤ k + 1
  | 0 => ⟨Nat.le_refl _, Nat.le_refl _⟩
  | k + 1 => by have := plTo_le l k; rw [plTo_succ]; split <;> simp only <;> omega
end Go.Proofs.YtcjfelndnnhgjaaGreatDoor
namespace Go.Proofs.YtcjfelndnnhgjaaGreatDoor
set_option linter.unusedVariables false
open Go.RowKit
theorem Blk.drew {w : World} {b t l} (h : Blk w b t l) : Blk w.drew b t l := h
end Go.Proofs.YtcjfelndnnhgjaaGreatDoor
namespace Go.Proofs.YtcjfelndnnhgjaaGreatDoor
set_option linter.unusedVariables false
open Go.RowKit
theorem step_app {P : Program} {w : World} {ops : Array Oper} {o : Oper} {a : Act} {K : Act → World → Prop} {Q : Exit → Act → World → Prop} {E : Prop} (hgd : o.guard = none) (s x : Operand) (t : TypeId)
    (ho : o.op = .call { callee := .builtin .append, args := #[s, x], argTypes := #[t, t] })
    {e size bytes : Nat} {z : Value} (T : SlTy P t e size bytes z) (base : Nat)
    (v : Value) (n : Nat) (xs : List Value) (hs : a.eval s = v) (hown : w.ownsRow base e size v n xs)
    (b m c : Nat) (news : List Value) (hx : a.eval x = .slice (some ⟨b, 0, none⟩) m c) (cs : Array Value) (hb : w.heap[b]? = some (.cells cs e (0, 0))) (hcs : cs.toList = news) (hl : news.length = m * size) (h1 : ∀ u ∈ news, u.oneCell' = true)
    (hm : 0 < m) (hbytes : (n + m) * bytes ≤ 140737488355328) (h63 : n + m ≤ 140737488355328) (hbase : base ≤ w.heap.size)
    (h : ∀ g cap w', App base e size w v n m (xs ++ news) g cap w' → K (a.put o.dst (.slice (some ⟨g, 0, none⟩) (n + m) cap)) w') : if Region.wanted o (yielded ops a.tmps) = true then Oper.wp P o a w K Q else E := by
  obtain ⟨i, hi, hz, hsz, hby⟩ := T.i
  exact step_append_lies w hgd s x t ho base e i z size bytes T.u hi hz hsz hby T.zs T.sz v n xs hs hown ⟨b, 0, none⟩ m c news hx hl (seg_row hb hcs) h1 hm (by simp only [maxLen]; omega) hbytes hbase _ rfl
    fun g cap w' h2 h3 h4 h5 => h g cap w' ⟨h2, h3, h4, h5⟩
def partOf (f : Fil) : Part := ⟨f.name, f.text, none, 0, 0⟩
def rawParts (fs : List Fil) : List Part := fs.map partOf
theorem partCells_snoc (ps : List Part) (p : Part) : partCells (ps ++ [p]) = partCells ps ++ [.string p.name, .string p.text, p.st] := by simp [partCells]
theorem partCells_length (ps : List Part) : (partCells ps).length = ps.length * 3 := flatMap_len _ 3 (fun _ => rfl) ps
def total (fs : List Fil) : Nat := (fs.map fun f => f.text.size).sum
def dupIn (fs : List Fil) (n : Nat) : Prop := ∃ i j, j < i ∧ i < n ∧ sameS (fs.getD j default).name (fs.getD i default).name = true
def badName (fs : List Fil) : Prop := ∃ i, i < fs.length ∧ isName (fs.getD i default).name = false
/-- the error that New gives -/
def NewErr (fs : List Fil) (e : Int) : Prop :=
  (16 < fs.length ∧ e = 19) ∨ (fs.length ≤ 16 ∧ badName fs ∧ e = 9) ∨ (fs.length ≤ 16 ∧ ¬ badName fs ∧ dupIn fs fs.length ∧ e = 10) ∨
  (fs.length ≤ 16 ∧ ¬ badName fs ∧ ¬ dupIn fs fs.length ∧ 32768 < total fs ∧ e = 4) ∨ (fs.length ≤ 16 ∧ ¬ badName fs ∧ ¬ dupIn fs fs.length ∧ total fs ≤ 32768 ∧ e = 0)
theorem NewErr.one {fs : List Fil} {e e' : Int} (h : NewErr fs e) (h' : NewErr fs e') : e = e' := by
  unfold NewErr at h h'
  by_cases a : fs.length ≤ 16
  · by_cases b : badName fs
    · simp [a, b, Nat.not_lt.2 a] at h h'; omega
    · by_cases c : dupIn fs fs.length
      · simp [a, b, c, Nat.not_lt.2 a] at h h'; omega
      · simp [a, b, c, Nat.not_lt.2 a] at h h'; omega
  · simp [a] at h h'; omega
theorem total_take (fs : List Fil) (k : Nat) (h : k < fs.length) : total (fs.take (k + 1)) = total (fs.take k) + (fs.getD k default).text.size := by
  rw [List.take_succ_eq_append_getElem h, total, total, List.map_append, List.sum_append, List.getD, List.getElem?_eq_getElem h]; simp
theorem text_le (fs : List Fil) (k : Nat) (h : k < fs.length) : (fs.getD k default).text.size ≤ total fs := by
  induction fs generalizing k with
  | nil => simp at h
  | cons f fs ih =>
    cases k with
    | zero => simp [total]
    | succ k =>
      have := ih k (by simpa using h)
      simp only [total, List.map_cons, List.sum_cons, List.getD_cons_succ] at *
      omega
theorem raw_take (fs : List Fil) (k : Nat) (h : k < fs.length) : rawParts (fs.take (k + 1)) = rawParts (fs.take k) ++ [partOf (fs.getD k default)] := by
  rw [List.take_succ_eq_append_getElem h, rawParts, rawParts, List.map_append, List.getD, List.getElem?_eq_getElem h]; rfl
theorem raw_len (fs : List Fil) (k : Nat) (h : k ≤ fs.length) : (rawParts (fs.take k)).length = k := by simp [rawParts]; omega
theorem raw_get (fs : List Fil) (k j : Nat) (h : k ≤ fs.length) (hj : j < k) : (rawParts (fs.take k)).getD j default = partOf (fs.getD j default) := by
  rw [List.getD, List.getD, rawParts, List.getElem?_map, List.getElem?_take_of_lt hj, List.getElem?_eq_getElem (by omega)]; rfl
/-- the table that holds the parts ps, behind which nothing of before has changed -/
structure TabOwn (B bt : Nat) (v : Value) (ps : List Part) (w : World) : Prop where
  blk : Blk w bt 54 [v]
  own : w.ownsRow B 58 3 v ps.length (partCells ps)
  ne : v.ownBlock ≠ some bt
theorem TabOwn.tab {B bt v ps w} (h : TabOwn B bt v ps w) : Tab w bt ps := ⟨v, h.blk.cell (i := 0) rfl, RO.own h.own⟩
theorem TabOwn.below {B bt v ps w w'} (h : TabOwn B bt v ps w) (hb : Below w.heap.size w w') : TabOwn B bt v ps w' := ⟨h.blk.below hb h.blk.lt, ownsRow_below h.own hb, h.ne⟩
/-- what New's first loop has done behind k files -/
structure New1 (w : World) (B bt : Nat) (fs : List Fil) (k : Nat) (wr : World) : Prop where
  tab : ∃ v, TabOwn B bt v (rawParts (fs.take k)) wr
  bel : Below B w wr
  lt : B ≤ bt
  nodup : ∀ i j, j < i → i < k → sameS (fs.getD j default).name (fs.getD i default).name = false
theorem Tryz.info65 : (Tryz.prog.info? 58).map (fun i => (i.zero, i.size, i.bytes)) = some (some (.agg #[.string { data := #[] }, .string { data := #[] }, .slice none 0 0]), 3, 56) := by kernel_rfl
theorem Tryz.T60 : SlTy Tryz.prog 52 58 3 56 (.agg #[.string { data := #[] }, .string { data := #[] }, .slice none 0 0]) := SlTy.of Tryz.underlying52 Tryz.info65 rfl (by decide)
theorem New1.step {w w2 w3 : World} {B bt : Nat} {fs : List Fil} {k : Nat} {u : Value} {nm tx : ByteArray} {g cap : Nat} (hk : k < fs.length) (hP : fs.getD k default = ⟨nm, tx⟩)
    (hT : TabOwn B bt u (rawParts (fs.take k)) w2) (hb : Below B w w2) (hBt : B ≤ bt) (hnd : ∀ i j, j < i → i < k → sameS (fs.getD j default).name (fs.getD i default).name = false)
    (hnk : ∀ j, j < k → sameS ((rawParts (fs.take k)).getD j default).name nm = false)
    (happ : App B 58 3 (w2.alloc (Obj.cells #[.string nm, .string tx, .slice none 0 0] 58)).drew u k 1 (partCells (rawParts (fs.take k)) ++ [.string nm, .string tx, .slice none 0 0]) g cap w3) :
    New1 w B bt fs (k + 1) (w3.setCell ⟨bt, 0, none⟩ (.slice (some ⟨g, 0, none⟩) (k + 1) cap)) := by
  have hbt := hT.blk.lt
  have hBw : B ≤ w2.heap.size := by omega
  have e3 : w3.heap[bt]? = w2.heap[bt]? := (happ.old (by show bt < (w2.alloc _).heap.size; rw [World.size_alloc]; omega) hT.ne).trans (heap_alloc_old _ _ hbt)
  have hg : g ≠ bt := by
    rcases happ.at_ with h | h
    · intro e; exact hT.ne (e ▸ h)
    · rw [h]; show (w2.alloc _).heap.size ≠ bt; rw [World.size_alloc]; omega
  have hb3 : Below B w w3 := happ.below (hb.alloc hBw _).drew (by show B ≤ (w2.alloc _).heap.size; rw [World.size_alloc]; omega) (fun j hj => (hT.own.lt j hj).1)
  refine ⟨⟨.slice (some ⟨g, 0, none⟩) (k + 1) cap, ?_, ?_, ?_⟩, hb3.setCell hBt _, hBt, ?_⟩
  · have hk3 : Blk w3 bt 54 [u] := by unfold Blk; rw [e3]; exact hT.blk
    exact hk3.set 0 _
  · rw [raw_len fs (k + 1) (by omega), raw_take fs k hk, partCells_snoc, hP]
    exact ownsRow_keep happ.own fun j hj => by
      have : j = g := by simpa [Value.ownBlock, eq_comm] using hj
      subst this
      exact Below.heap_setCell _ _ _ _ hg
  · simp only [Value.ownBlock]; intro e; exact hg (by simpa using e)
  · intro i j hj hi
    rcases Nat.lt_or_ge i k with h | h
    · exact hnd i j hj h
    · obtain rfl : i = k := by omega
      have := hnk j hj
      rw [raw_get fs i j (by omega) hj] at this
      rw [hP]; exact this
theorem ownsRow_setIn {w : World} {base e size n g cap : Nat} {xs : List Value} (h : w.ownsRow base e size (.slice (some ⟨g, 0, none⟩) n cap) n xs) (j : Nat) (hj : j < xs.length) (u : Value) :
    (w.setCell ⟨g, j, none⟩ u).ownsRow base e size (.slice (some ⟨g, 0, none⟩) n cap) n (xs.set j u) := by
  obtain ⟨h1, h2⟩ := h
  rcases h2 with ⟨h2, _⟩ | ⟨g', cap', cur, h2, h3, h4, h5, h6, h7, h8⟩
  · cases h2
  · simp only [Value.slice.injEq, Option.some.injEq, Addr.mk.injEq, and_true, true_and] at h2
    obtain ⟨rfl, rfl⟩ := h2
    refine ⟨by simpa using h1, .inr ⟨g, cap, cur.setIfInBounds j u, rfl, h3, ?_, h5, h6, by simpa using h7, ?_⟩⟩
    · simp [World.setCell, Array.getElem?_modify, h4]
    · rw [Array.toList_setIfInBounds, ← h8, List.take_set]
theorem ownsRow_setCell_far {w : World} {base e size n : Nat} {v : Value} {xs : List Value} (h : w.ownsRow base e size v n xs) {a : Addr} (ha : v.ownBlock ≠ some a.block) (u : Value) : (w.setCell a u).ownsRow base e size v n xs :=
  ownsRow_keep h fun k hk => Below.heap_setCell _ _ _ _ (fun e => ha (e ▸ hk))
theorem partCells_set (ps : List Part) (k : Nat) (p' : Part) (h : k < ps.length) (hn : p'.name = (ps.getD k default).name) (ht : p'.text = (ps.getD k default).text) : (partCells ps).set (k * 3 + 2) p'.st = partCells (ps.set k p') := by
  induction ps generalizing k with
  | nil => simp at h
  | cons q ps ih =>
    cases k with
    | zero =>
      simp only [List.getD_cons_zero] at hn ht
      simp [partCells, hn, ht]
    | succ k =>
      simp only [List.getD_cons_succ] at hn ht
      have := ih k (by simpa using h) hn ht
      simp only [partCells, List.flatMap_cons, List.set_cons_succ] at *
      rw [show (k + 1) * 3 + 2 = (k * 3 + 2) + 1 + 1 + 1 by omega, ← this]
      simp only [List.cons_append, List.nil_append, List.set_cons_succ]
theorem getD_set (ps : List Part) (k i : Nat) (p' : Part) (h : k < ps.length) : (ps.set k p').getD i default = if i = k then p' else ps.getD i default := by
  simp only [List.getD, List.getElem?_set]
  by_cases e : k = i
  · subst e; simp [h]
  · simp [e, Ne.symm e]
/-- what New's second loop has done behind k files -/
structure New2 (w : World) (B bt : Nat) (v : Value) (fs : List Fil) (k : Nat) (wr : World) : Prop where
  bel : Below B w wr
  lt : B ≤ bt
  ex : ∃ ps, TabOwn B bt v ps wr ∧ ps.length = fs.length ∧ (∀ i, i < fs.length → (ps.getD i default).name = (fs.getD i default).name ∧ (ps.getD i default).text = (fs.getD i default).text) ∧
    ∀ i, i < k → wr.ownsRow B 3 1 (ps.getD i default).st (starts (fs.getD i default).text).length (ints (starts (fs.getD i default).text)) ∧ (ps.getD i default).st.ownBlock ≠ some bt ∧ ((ps.getD i default).st.ownBlock = v.ownBlock → v.ownBlock = none)
theorem New2.start {w wr : World} {B bt : Nat} {v : Value} {fs : List Fil} (hb : Below B w wr) (hBt : B ≤ bt) (hT : TabOwn B bt v (rawParts fs) wr) : New2 w B bt v fs 0 wr := by
  refine ⟨hb, hBt, rawParts fs, hT, by simp [rawParts], fun i hi => ?_, fun i hi => absurd hi (Nat.not_lt_zero _)⟩
  have := raw_get fs fs.length i (Nat.le_refl _) hi
  rw [List.take_length] at this
  rw [this]; exact ⟨rfl, rfl⟩
theorem st_of {w : World} {base n : Nat} {v : Value} {xs : List Value} (h : w.ownsRow base 3 1 v n xs) (nm tx : ByteArray) : ∃ p c, v = .slice p n c ∧ (⟨nm, tx, p, n, c⟩ : Part).st = v := by
  obtain ⟨p, c, rfl⟩ := ownsRow_form h
  exact ⟨p, c, rfl, rfl⟩
theorem New2.step {w wr w3 : World} {B bt g cap k : Nat} {fs : List Fil} (hk : k < fs.length) (h : New2 w B bt (.slice (some ⟨g, 0, none⟩) fs.length cap) fs k wr) (hb : Below wr.heap.size wr w3) {sv : Value}
    (hs : w3.ownsRow wr.heap.size 3 1 sv (starts (fs.getD k default).text).length (ints (starts (fs.getD k default).text))) :
    New2 w B bt (.slice (some ⟨g, 0, none⟩) fs.length cap) fs (k + 1) (w3.setCell ⟨g, k * 3 + 2, none⟩ sv) := by
  obtain ⟨h1, h2, ps, hT, hl, hn, hst⟩ := h
  have hT3 := hT.below hb
  have hbt := hT.blk.lt
  have hg : g ≠ bt := fun e => hT.ne (by simp [Value.ownBlock, e])
  have hgl : B ≤ g ∧ g < wr.heap.size := hT.own.lt g rfl
  obtain ⟨p, c, hsv, hst'⟩ := st_of hs (fs.getD k default).name (fs.getD k default).text
  have hkp : k < ps.length := by omega
  obtain ⟨hnk, htk⟩ := hn k hk
  have hfar : ∀ j, sv.ownBlock = some j → wr.heap.size ≤ j := fun j hj => (hs.lt j hj).1
  refine ⟨(h1.trans (hb.mono (by omega))).setCell hgl.1 _, h2, ps.set k ⟨(fs.getD k default).name, (fs.getD k default).text, p, (starts (fs.getD k default).text).length, c⟩, ⟨?_, ?_, hT.ne⟩, by simpa using hl, fun i hi => ?_, fun i hi => ?_⟩
  · exact hT3.blk.other _ (Ne.symm hg)
  · rw [List.length_set, ← partCells_set ps k _ hkp hnk.symm htk.symm, hst']
    have hown : w3.ownsRow B 58 3 (.slice (some ⟨g, 0, none⟩) fs.length cap) fs.length (partCells ps) := by have := hT3.own; rwa [hl] at this
    rw [hl]
    exact ownsRow_setIn hown _ (by rw [partCells_length]; omega) _
  · rw [getD_set _ _ _ _ hkp]
    split
    · rename_i e; subst e; exact ⟨rfl, rfl⟩
    · exact hn i hi
  · rw [getD_set _ _ _ _ hkp]
    split
    · rename_i e
      subst e
      have hne : sv.ownBlock ≠ some g := fun e => by have := hfar g e; omega
      rw [hst']
      refine ⟨?_, fun e => by have := hfar bt e; omega, fun e => absurd e hne⟩
      have hs' := ownsRow_setCell_far hs (a := ⟨g, i * 3 + 2, none⟩) hne sv
      refine ⟨hs'.1, hs'.2.imp id fun ⟨g', c', cu, e1, e2, e3⟩ => ⟨g', c', cu, e1, by omega, e3⟩⟩
    · obtain ⟨a1, a2, a3⟩ := hst i (by omega)
      refine ⟨ownsRow_setCell_far (ownsRow_below a1 hb) (fun e => ?_) _, a2, a3⟩
      have := a3 e
      simp [Value.ownBlock] at this
/-- what the table holds lies from block B on -/
def Far (B : Nat) (w : World) (bt : Nat) (ps : List Part) : Prop :=
  B ≤ bt ∧ (∃ v, w.cell? ⟨bt, 0, none⟩ = some v ∧ ∀ k, v.ownBlock = some k → B ≤ k) ∧ ∀ i, i < ps.length → ∀ k, (ps.getD i default).st.ownBlock = some k → B ≤ k
def NewPost (w : World) (fs : List Fil) (e : Ending) (w' : World) : Prop :=
  ∃ err p, NewErr fs err ∧ e = .returned (.tuple #[.pointer p, .int .i64 err]) ∧ Below w.heap.size w w' ∧ (err ≠ 0 → p = none) ∧
    (err = 0 → ∃ bt ps, p = some ⟨bt, 0, none⟩ ∧ Tab w' bt ps ∧ ps.length = fs.length ∧ Far w.heap.size w' bt ps ∧ ∀ i, i < fs.length → (ps.getD i default).name = (fs.getD i default).name ∧ (ps.getD i default).text = (fs.getD i default).text ∧ Known w' (ps.getD i default) (starts (fs.getD i default).text))
theorem getD_snoc (L : List Int) (a : Int) (i : Nat) : (L ++ [a]).getD i 0 = if i < L.length then L.getD i 0 else if i = L.length then a else 0 := by
  simp only [List.getD]
  by_cases h : i < L.length
  · rw [List.getElem?_append_left h, if_pos h]
  · rw [List.getElem?_append_right (by omega), if_neg h]
    by_cases e : i = L.length
    · subst e; simp
    · rw [if_neg e, List.getElem?_eq_none (by simp; omega)]; rfl
theorem stTo_facts (l : List UInt8) : ∀ k, (∀ i, i < (stTo l k).length → 0 ≤ (stTo l k).getD i 0 ∧ (stTo l k).getD i 0 ≤ k) ∧ (∀ i j, i < j → j < (stTo l k).length → (stTo l k).getD i 0 < (stTo l k).getD j 0) ∧ (stTo l k).getD 0 0 = 0
  | 0 => ⟨fun i hi => by
      obtain rfl : i = 0 := by simpa [stTo] using hi
      simp [stTo], fun i j hij hj => by simp [stTo] at hj; omega, rfl⟩
  | k + 1 => by
    obtain ⟨h1, h2, h3⟩ := stTo_facts l k
    have hlen := stTo_length l k
    rw [stTo_succ]
    split
    · refine ⟨fun i hi => ?_, fun i j hij hj => ?_, ?_⟩
      · rw [getD_snoc]
        split
        · rename_i h; have := h1 i h; omega
        · rw [if_pos (by simp at hi; omega)]; omega
      · rw [List.length_append] at hj
        rw [getD_snoc, getD_snoc, if_pos (by simp at hj; omega)]
        split
        · rename_i h; exact h2 i j hij h
        · rw [if_pos (by simp at hj; omega)]
          have := h1 i (by simp at hj; omega); omega
      · rw [getD_snoc, if_pos hlen.1, h3]
    · exact ⟨fun i hi => by have := h1 i hi; omega, h2, h3⟩
theorem starts_len (s : ByteArray) : 0 < (starts s).length ∧ (starts s).length ≤ s.size + 1 := stTo_length _ _
theorem known_of {w : World} {P : Part} {s : ByteArray} (ht : P.text = s) (hs : s.size ≤ 32768) (h : RO w P.st 1 (starts s).length (ints (starts s))) : Known w P (starts s) := by
  subst ht
  obtain ⟨h1, h2, h3⟩ := stTo_facts P.text.data.toList P.text.size
  have hl := starts_len P.text
  refine ⟨h, by omega, by omega, fun i hi => ⟨(h1 i hi).1, ?_, ?_⟩⟩
  · unfold endOf
    split
    · exact (h1 i hi).2
    · have := h2 i (i + 1) (by omega) (show i + 1 < (starts P.text).length by omega)
      show (stTo _ _).getD i 0 ≤ (stTo _ _).getD (i + 1) 0 - 1
      omega
  · unfold endOf
    split
    · exact Int.le_refl _
    · have := (h1 (i + 1) (show i + 1 < (starts P.text).length by omega)).2
      show (stTo _ _).getD (i + 1) 0 - 1 ≤ _
      omega
theorem ownsRow_mono {w : World} {base base' e size n : Nat} {v : Value} {xs : List Value} (h : w.ownsRow base e size v n xs) (hb : base' ≤ base) : w.ownsRow base' e size v n xs :=
  ⟨h.1, h.2.imp id fun ⟨g', c', cu, e1, e2, e3⟩ => ⟨g', c', cu, e1, by omega, e3⟩⟩
theorem New2.made {w wr : World} {B bt : Nat} {v : Value} {fs : List Fil} (h : New2 w B bt v fs fs.length wr) (htot : total fs ≤ 32768) :
    ∃ b ps, some (⟨bt, 0, none⟩ : Addr) = some ⟨b, 0, none⟩ ∧ Tab wr b ps ∧ ps.length = fs.length ∧ Far B wr b ps ∧ ∀ i, i < fs.length → (ps.getD i default).name = (fs.getD i default).name ∧ (ps.getD i default).text = (fs.getD i default).text ∧ Known wr (ps.getD i default) (starts (fs.getD i default).text) := by
  obtain ⟨_, hBt, ps, hT, hl, hn, hst⟩ := h
  exact ⟨bt, ps, rfl, hT.tab, hl, ⟨hBt, ⟨v, hT.blk.cell (i := 0) rfl, fun k hk => (hT.own.lt k hk).1⟩, fun i hi k hk => ((hst i (hl ▸ hi)).1.lt k hk).1⟩, fun i hi => ⟨(hn i hi).1, (hn i hi).2, known_of (hn i hi).2 (Nat.le_trans (text_le fs i hi) htot) (RO.own (hst i hi).1)⟩⟩
theorem FirstAt.none {f : Nat → Bool} {n : Nat} {r : Int} (h : FirstAt f n r) (hr : r < 0) : ∀ j, j < n → f j = false := by
  rcases h with ⟨i, _, _, _, rfl⟩ | ⟨h, _⟩
  · omega
  · exact h
theorem FirstAt.some {f : Nat → Bool} {n : Nat} {r : Int} (h : FirstAt f n r) (hr : 0 ≤ r) : ∃ j, j < n ∧ f j = true ∧ (∀ i, i < j → f i = false) ∧ r = j := by
  rcases h with ⟨i, h1, h2, h3, rfl⟩ | ⟨h, rfl⟩
  · exact ⟨i, h1, h2, h3, rfl⟩
  · omega
theorem new_many {w : World} (v : Value) (fs : List Fil) (hr : RO w v 2 fs.length (filCells fs)) (hl : fs.length ≤ 1000000) (hm : 16 < fs.length) : Calls Tryz.prog 5 #[v] w (NewPost w fs) := by
  obtain ⟨p, c, rfl⟩ := hr.form
  have h1 : (fs.length : Int) ≤ 1000000 := by omega
  have h2 : (16 : Int) < fs.length := by omega
  go_enter Tryz.func5, Tryz.ntmps5
  go_wp2_with fail
  go_ret2
  exact ⟨19, _, .inl ⟨hm, rfl⟩, rfl, Below.refl _ _, fun _ => rfl, fun h => by cases h⟩
theorem new_bad {w : World} (v : Value) (fs : List Fil) (hr : RO w v 2 fs.length (filCells fs)) (hl : fs.length ≤ 16) (hsz : ∀ i, i < fs.length → (fs.getD i default).name.size ≤ maxLen) (hbad : badName fs) : Calls Tryz.prog 5 #[v] w (NewPost w fs) := by
  have HC := Lib.hid (contains_any v fs hr (by omega) hsz)
  obtain ⟨p, c, rfl⟩ := hr.form
  have h1 : (fs.length : Int) ≤ 16 := by omega
  have HH := Lib.hid (And.intro hl hbad)
  clear hr hl hsz hbad
  go_enter Tryz.func5, Tryz.ntmps5
  go_wp2_with fail
  refine HC.out.mono ?_; rintro e w1 ⟨r, hf, rfl, hb⟩
  have hd : decide (0 ≤ r) = true := by
    rcases Int.lt_or_le r 0 with h | h
    · obtain ⟨i, hi, hb⟩ := HH.out.2
      have := hf.none h i hi
      rw [hb] at this; cases this
    · simpa using h
  rw [hd]
  have HB := Lib.hid hb
  clear hf hd hb
  go_wp2_with fail
  go_ret2
  exact ⟨9, _, .inr (.inl ⟨HH.out.1, HH.out.2, rfl⟩), rfl, HB.out, fun _ => rfl, fun h => by cases h⟩
end Go.Proofs.YtcjfelndnnhgjaaGreatDoor
namespace Go.Proofs.YtcjfelndnnhgjaaGreatDoor
set_option linter.unusedVariables false
open Go.RowKit
theorem Below.of_grown {B : Nat} {w w' : World} {r : Option Nat} (h : w.grownBy w' r) (hB : B ≤ w.heap.size) (hr : ∀ k, r = some k → B ≤ k) : Below B w w' := (Below.refl B w).grown h hB hr
set_option maxHeartbeats 2000000 in
theorem new_rest {w : World} (v : Value) (fs : List Fil) (hr : RO w v 2 fs.length (filCells fs)) (hl : fs.length ≤ 16) (hsz : ∀ i, i < fs.length → (fs.getD i default).name.size ≤ maxLen) (htz : ∀ i, i < fs.length → (fs.getD i default).text.size ≤ 140737488355328) (hbad : ¬ badName fs) : Calls Tryz.prog 5 #[v] w (NewPost w fs) := by
  have HC := Lib.hid (contains_any v fs hr (by omega) hsz)
  obtain ⟨p, c, rfl⟩ := hr.form
  have h1 : (fs.length : Int) ≤ 16 := by omega
  have HH := Lib.hid (And.intro hl (And.intro hbad (And.intro hr (And.intro hsz htz))))
  clear hr hl hsz hbad htz
  go_enter Tryz.func5, Tryz.ntmps5
  go_wp2_with fail
  refine HC.out.mono ?_; rintro e w1 ⟨r, hf, rfl, hb⟩
  have hd : decide (0 ≤ r) = false := by
    rcases Int.lt_or_le r 0 with h | h
    · simpa using h
    · obtain ⟨j, hj, hfj, _⟩ := hf.some h
      exact absurd ⟨j, hj, by simpa using hfj⟩ HH.out.2.1
  rw [hd]
  have HB := Lib.hid hb
  clear hf hd hb HC
  go_wp2_with fail
  have K0 : Hid (New1 w w.heap.size w1.heap.size fs 0 (w1.alloc (Obj.cells #[Value.slice none 0 0] 54))) := Lib.hid ⟨⟨.slice none 0 0, Blk.new 54 _, World.ownsRow_nil _ _ _ _, by simp [Value.ownBlock]⟩, HB.out.alloc HB.out.size _, HB.out.size, fun i j hj hi => absurd hi (Nat.not_lt_zero _)⟩
  generalize hbt : w1.heap.size = bt at *
  go_loopw [5, 19] (fun s i wr => ∃ k : Nat, k ≤ fs.length ∧ i = .int .i64 k ∧ s = .int .i64 (min (total (fs.take k)) 32769) ∧ New1 w w.heap.size bt fs k wr) (fun _ i _ => fs.length - (intOf i).toNat)
  case atStart => exact ⟨0, Nat.zero_le _, rfl, rfl, K0.out⟩
  case round =>
    obtain ⟨k, hk, rfl, rfl, hN⟩ := hrel
    by_cases hlt : k < fs.length
    · obtain ⟨bb, o, rfl⟩ := HH.out.2.2.1.sl (fils_at fs k hlt).1
      obtain ⟨⟨u, hT⟩, hbel, hBt, hnd⟩ := hN
      have hro := HH.out.2.2.1.below hbel
      have f0 := hro.cell (fils_at fs k hlt).1
      have f1 := hro.cell (fils_at fs k hlt).2
      rw [← Nat.add_assoc] at f1
      have htk := total_take fs k hlt
      have hraw := raw_take fs k hlt
      have hrl := raw_len fs k (by omega)
      have hsn := HH.out.2.2.2.1 k hlt
      have hst := HH.out.2.2.2.2 k hlt
      have hbtl := hT.blk.lt
      have HT : Hid (∀ o, TabOwn w.heap.size bt u (rawParts (fs.take k)) (wr.alloc o)) := Lib.hid fun o => hT.below ((Below.refl _ _).alloc (Nat.le_refl _) _)
      have HF := Lib.hid (fun o => find_any ((HT.out o).tab) (fs.getD k default).name (by omega))
      generalize hP : fs.getD k default = P at *
      have HP := Lib.hid hP
      obtain ⟨nm, tx⟩ := P
      dsimp only at f0 f1 htk hst hsn HF
      have HX := Lib.hid (And.intro htk (And.intro hraw (And.intro hrl (And.intro hbel (And.intro hBt (And.intro hnd (And.intro hsn hst)))))))
      clear hro hT hbel hBt hnd htk hraw hrl hP hsn hst
      go_wp2_with fail
      refine (HF.out _).mono ?_; rintro e w2 ⟨r, hf, rfl, hb⟩
      have hr1 : -1 ≤ r ∧ r ≤ 100000 := by
        have := HX.out.2.2.1
        rcases hf with ⟨i, h1, _, _, rfl⟩ | ⟨_, rfl⟩ <;> omega
      obtain ⟨hr1, hr2⟩ := hr1
      have HFR := Lib.hid (And.intro hf hb)
      clear hf hb
      have HKl := Lib.hid hlt
      by_cases hr0 : 0 ≤ r
      · go_wp2_with fail
        go_ret2
        obtain ⟨j, hj, hfj, _⟩ := HFR.out.1.some hr0
        rw [HX.out.2.2.1] at hj
        rw [raw_get fs k j (by omega) hj] at hfj
        exact ⟨10, _, .inr (.inr (.inl ⟨HH.out.1, HH.out.2.1, ⟨k, j, hj, HKl.out, by rw [HP.out]; exact hfj⟩, rfl⟩)), rfl, Below.then (HX.out.2.2.2.1.alloc HX.out.2.2.2.1.size _) HFR.out.2 (Nat.le_refl _), fun _ => rfl, fun h => by cases h⟩
      · have hr3 : r < 0 := by omega
        have hsz := HFR.out.2.size
        rw [World.size_alloc] at hsz
        have hTw := (HT.out (Obj.cells #[Value.string nm, Value.string tx] 43)).below HFR.out.2
        have hkf : Blk w2 wr.heap.size 43 [.string nm, .string tx] := (Blk.new 43 [.string nm, .string tx]).below HFR.out.2 (by rw [World.size_alloc]; omega)
        have hbel2 : Below wr.heap.size wr w2 := Below.then ((Below.refl _ _).alloc (Nat.le_refl _) _) HFR.out.2 (Nat.le_refl _)
        have hct := hTw.blk.cell (i := 0) rfl
        have hcf0 := hkf.cell (i := 0) rfl
        have hcf1 := hkf.cell (i := 1) rfl
        have hff := hTw.blk.frz 0
        have HY := Lib.hid (And.intro hTw (And.intro hkf hbel2))
        have HKb : Hid (Below w.heap.size w w2) := Lib.hid (HX.out.2.2.2.1.trans (hbel2.mono (by have := HX.out.2.2.2.1.size; omega)))
        have hM0 : 0 ≤ (min (total (fs.take k) : Int) 32769) ∧ (min (total (fs.take k) : Int) 32769) ≤ 32769 := by omega
        have htx : (tx.size : Int) ≤ 140737488355328 := by have := HX.out.2.2.2.2.2.2.2; omega
        have hM1 : min (total (fs.take (k + 1)) : Int) 32769 = min (min (total (fs.take k) : Int) 32769 + tx.size) 32769 := by have := HX.out.1; omega
        have HM := Lib.hid hM1
        clear hM1
        generalize (min (total (fs.take k) : Int) 32769) = M at *
        obtain ⟨hM0, hM2⟩ := hM0
        clear hTw hkf hbel2
        by_cases hMt : M + tx.size ≤ 32769
        all_goals
          go_wp2_with fail
          generalize hM3 : M + (tx.size : Int) = M' at *
          have HM3 := Lib.hid hM3
          clear hM3
          have hkeep : Hid (∀ g cap w3, App w.heap.size 58 3 (w2.alloc (Obj.cells #[.string nm, .string tx, .slice none 0 0] 58)).drew u k 1 (partCells (rawParts (fs.take k)) ++ [.string nm, .string tx, .slice none 0 0]) g cap w3 → w3.heap[bt]? = w2.heap[bt]?) := Lib.hid fun g cap w3 happ =>
            (happ.old (by show bt < (w2.alloc _).heap.size; rw [World.size_alloc]; omega) HY.out.1.ne).trans (heap_alloc_old _ _ (by omega))
          have HO : Hid ((w2.alloc (Obj.cells #[.string nm, .string tx, .slice none 0 0] 58)).drew.ownsRow w.heap.size 58 3 u k (partCells (rawParts (fs.take k)))) := by
            have := HY.out.1.own
            rw [HX.out.2.2.1] at this
            exact Lib.hid (this.alloc _)
          obtain ⟨hBw⟩ : Nonempty (w.heap.size ≤ w2.heap.size) := ⟨by have := HX.out.2.2.2.1.size; omega⟩
          have hk16 : k ≤ 16 := by omega
          have hbt2 : bt < w2.heap.size := by omega
          have hwr2 : wr.heap.size < w2.heap.size := by omega
          go_region_law (refine step_app rfl _ _ 52 rfl Tryz.T60 w.heap.size _ _ _ rfl HO.out w2.heap.size 1 1 _ rfl _ (heap_alloc_new w2 _) rfl rfl (by simp [Value.oneCell']) Nat.one_pos (by omega) (by omega) (by simp; omega) ?_; intro g3 cap3 w3 happ; have e3 := hkeep.out _ _ _ happ; have hc3 := (World.cell?_of_block (a := ⟨bt, 0, none⟩) e3).trans hct; have hf3 := (World.frozen?_of_block (a := ⟨bt, 0, none⟩) e3).trans hff; have H3 := Lib.hid happ; clear happ e3)
          all_goals
            go_wp2_with fail
            go_roundw
            case rel => exact ⟨k + 1, by omega, by go_num, by rw [HM.out]; congr 1; omega, New1.step HKl.out HP.out HY.out.1 HKb.out HX.out.2.2.2.2.1 HX.out.2.2.2.2.2.1 (fun j hj => HFR.out.1.none hr3 j (by rw [HX.out.2.2.1]; exact hj)) H3.out⟩
            case measure => simp [intOf]; omega
    · obtain rfl : k = fs.length := by omega
      clear hlt
      have HN := Lib.hid hN
      have HHt := Lib.hid (List.take_length (l := fs))
      have hM0 : 0 ≤ (min (total (fs.take fs.length) : Int) 32769) ∧ (min (total (fs.take fs.length) : Int) 32769) ≤ 32769 := by omega
      have hM1 : min (total fs : Int) 32769 = min (total (fs.take fs.length) : Int) 32769 := by rw [List.take_length]
      generalize (min (total (fs.take fs.length) : Int) 32769) = M at *
      have HM := Lib.hid hM1
      clear hM1 hN
      obtain ⟨hM0, hM2⟩ := hM0
      by_cases hMt : M ≤ 32768
      · obtain ⟨⟨v, hT⟩, hbel, hBt, hnd⟩ := HN.out
        have hrl := raw_len fs fs.length (Nat.le_refl _)
        rw [List.take_length] at hT hrl
        obtain ⟨sp, sc, rfl⟩ := ownsRow_form hT.own
        rw [hrl] at hT
        have hct := hT.blk.cell (i := 0) rfl
        have K2 : Hid (New2 w w.heap.size bt (.slice sp fs.length sc) fs 0 wr) := Lib.hid (New2.start hbel hBt hT)
        have htot : Hid (total fs ≤ 32768) := Lib.hid (by have := HM.out; omega)
        clear hT hbel hBt hnd hrl HHt
        go_wp2_with fail
        clear hct
        go_loopw [53] (fun i wr => ∃ k : Nat, k ≤ fs.length ∧ i = .int .i64 k ∧ New2 w w.heap.size bt (.slice sp fs.length sc) fs k wr) (fun i _ => fs.length - (intOf i).toNat)
        case atStart => exact ⟨0, Nat.zero_le _, rfl, K2.out⟩
        case round =>
          obtain ⟨k, hk, rfl, hN⟩ := hrel
          by_cases hlt : k < fs.length
          · obtain ⟨b2, hBt2, ps, hT, hpl, hpn, hst⟩ := hN
            have hN' := Lib.hid (New2.mk b2 hBt2 ⟨ps, hT, hpl, hpn, hst⟩)
            have hro := RO.own hT.own
            rw [hpl] at hro
            obtain ⟨g, og, rfl⟩ := hro.sl (parts_at ps k (by omega)).1
            have hg0 : og = 0 := by
              rcases hT.own.2 with ⟨h, _⟩ | ⟨g', cap', cur, h, _⟩
              · cases h
              · simp only [Value.slice.injEq, Option.some.injEq, Addr.mk.injEq] at h; exact h.1.2.1
            subst hg0
            have p0 := hro.cell (parts_at ps k (by omega)).1
            have p1 := hro.cell (parts_at ps k (by omega)).2.1
            have p2 := hro.cell (parts_at ps k (by omega)).2.2
            rw [Nat.zero_add] at p0 p1 p2
            obtain ⟨hnk, htk⟩ := hpn k hlt
            rw [hnk] at p0
            rw [htk] at p1
            dsimp only [Part.st] at p2
            have hct := hT.blk.cell (i := 0) rfl
            have hbtl := hT.blk.lt
            have hgl : g < wr.heap.size := (hT.own.lt g rfl).2
            have hgf : wr.frozen? ⟨g, k * 3 + 2, none⟩ = false := by
              rcases hT.own.2 with ⟨h, _⟩ | ⟨g', cap', cur, h, _, h4, _⟩
              · cases h
              · simp only [Value.slice.injEq, Option.some.injEq, Addr.mk.injEq] at h
                obtain ⟨⟨rfl, _⟩, _⟩ := h
                simp [World.frozen?, h4]
            have htx : (fs.getD k default).text.size ≤ 32768 := Nat.le_trans (text_le fs k hlt) htot.out
            generalize hQ : (ps.getD k default).sp = qp at *
            generalize hQ2 : (ps.getD k default).sn = qn at *
            generalize hQ3 : (ps.getD k default).sc = qc at *
            have hgbt : g ≠ bt := fun e => hT.ne (by simp [Value.ownBlock, e])
            have hgw : g ≠ wr.heap.size := by omega
            clear hQ hQ2 hQ3 hnk htk hpn hst hpl hro hT
            have HL := Lib.hid (fun w => lines_own (fs.getD k default).text w (by omega))
            have HTX := Lib.hid htx
            clear htx
            generalize hP : fs.getD k default = P at *
            obtain ⟨nm, tx⟩ := P
            have HP := Lib.hid hP
            clear hP
            dsimp only at p0 p1 HL
            go_wp2_with fail
            have kb : Blk (wr.alloc (Obj.cells #[.string nm, .string tx, .slice qp qn qc] 58)).drew wr.heap.size 58 [.string nm, .string tx, .slice qp qn qc] := Blk.new 58 _
            have hct1 : (wr.alloc (Obj.cells #[.string nm, .string tx, .slice qp qn qc] 58)).drew.cell? ⟨bt, 0, none⟩ = some (.slice (some ⟨g, 0, none⟩) fs.length sc) := (World.cell?_of_block (a := ⟨bt, 0, none⟩) (heap_alloc_old _ _ hbtl)).trans hct
            have hgc1 : (wr.alloc (Obj.cells #[.string nm, .string tx, .slice qp qn qc] 58)).drew.cell? ⟨g, k * 3 + 2, none⟩ = some (.slice qp qn qc) := (World.cell?_of_block (a := ⟨g, k * 3 + 2, none⟩) (heap_alloc_old _ _ hgl)).trans p2
            have hgf1 : (wr.alloc (Obj.cells #[.string nm, .string tx, .slice qp qn qc] 58)).drew.frozen? ⟨g, k * 3 + 2, none⟩ = false := (World.frozen?_of_block (a := ⟨g, k * 3 + 2, none⟩) (heap_alloc_old _ _ hgl)).trans hgf
            have hb1 : Below wr.heap.size wr (wr.alloc (Obj.cells #[.string nm, .string tx, .slice qp qn qc] 58)).drew := ((Below.refl _ _).alloc (Nat.le_refl _) _).drew
            have hs1 : (wr.alloc (Obj.cells #[.string nm, .string tx, .slice qp qn qc] 58)).drew.heap.size = wr.heap.size + 1 := by show (wr.alloc _).heap.size = _; rw [World.size_alloc]
            have c1 := kb.cell (i := 1) (u := .string tx) rfl
            generalize hW1 : wr.alloc (Obj.cells #[.string nm, .string tx, .slice qp qn qc] 58) = W0 at *
            have HW := Lib.hid (And.intro hb1 hs1)
            clear kb hb1 hs1 hW1
            go_region_held3 (fun w' => w'.cell? ⟨bt, 0, none⟩ = some (.slice (some ⟨g, 0, none⟩) fs.length sc) ∧ w'.cell? ⟨wr.heap.size, 1, none⟩ = some (.string tx))
              (first | exact ⟨hct1, c1⟩ | exact ⟨hct3, hc13⟩ | exact ⟨(World.cell?_setCell_far _ _ _ _ hgbt).trans hct3, (World.cell?_setCell_far _ _ _ _ hgw).trans hc13⟩)
              ((go_at_call 16; refine (HL.out _).mono ?_; rintro e w3 ⟨sv, rfl, hsv, hb3⟩; have hct3 := (hb3.cell (World.block_lt_of_cell? _ _ hct1)).trans hct1; have hgc3 := (hb3.cell (World.block_lt_of_cell? _ _ hgc1)).trans hgc1; have hc13 := (hb3.cell (World.block_lt_of_cell? _ _ c1)).trans c1; have hgf3 := (hb3.frozen (World.block_lt_of_cell? _ _ hgc1)).trans hgf1; obtain ⟨ssp, ssc, rfl⟩ := ownsRow_form hsv; have HS := Lib.hid (And.intro hsv hb3); clear hsv hb3))
            go_wp2_with fail
            go_roundw
            case rel => exact ⟨k + 1, by omega, by go_num, New2.step hlt hN'.out (HW.out.1.trans (HS.out.2.mono (by have := HW.out.2; omega))) (by rw [HP.out]; exact ownsRow_mono HS.out.1 (by have := HW.out.2; omega))⟩
            case measure => simp [intOf]; omega
          · obtain rfl : k = fs.length := by omega
            clear hlt
            have HN2 := Lib.hid hN
            clear hN
            go_wp2_with fail
            go_ret2
            exact ⟨0, _, .inr (.inr (.inr (.inr ⟨HH.out.1, HH.out.2.1, fun ⟨i, j, hj, hi, h⟩ => (by rw [HN.out.nodup i j hj hi] at h; cases h), htot.out, rfl⟩))), rfl, HN2.out.bel, fun h => absurd rfl h, fun _ => HN2.out.made htot.out⟩
      · have hMt' : 32768 < M := by omega
        go_wp2_with fail
        go_ret2
        refine ⟨4, _, .inr (.inr (.inr (.inl ⟨HH.out.1, HH.out.2.1, ?_, ?_, rfl⟩))), rfl, HN.out.bel, fun _ => rfl, fun h => by cases h⟩
        · rintro ⟨i, j, hj, hi, h⟩
          rw [HN.out.nodup i j hj hi] at h; cases h
        · have := HM.out; omega
end Go.Proofs.YtcjfelndnnhgjaaGreatDoor
