import Derived.Test.YtonippdileikbaaA4
import Derived.Laws.ResultCell
namespace Go.Proofs.Ytonippdileikbaa
set_option linter.unusedVariables false
open Go.RowKit

/-- a part: its name, its text, its starts -/
structure Part where
  name : ByteArray
  text : ByteArray
  sp : Option Addr
  sn : Nat
  sc : Nat
instance : Inhabited Part := ⟨⟨.empty, .empty, none, 0, 0⟩⟩
def Part.st (p : Part) : Value := .slice p.sp p.sn p.sc

def partCells (l : List Part) : List Value := l.flatMap fun p => [.string p.name, .string p.text, p.st]
theorem parts_at (l : List Part) (i : Nat) (h : i < l.length) : (partCells l)[i * 3]? = some (.string (l.getD i default).name) ∧ (partCells l)[i * 3 + 1]? = some (.string (l.getD i default).text) ∧ (partCells l)[i * 3 + 2]? = some (l.getD i default).st := by
  induction l generalizing i with
  | nil => simp at h
  | cons p l ih =>
    cases i with
    | zero => simp [partCells]
    | succ i =>
      have := ih i (by simpa using h)
      simp only [partCells, List.flatMap_cons, List.getD_cons_succ] at *
      rw [show (i + 1) * 3 = i * 3 + 3 by omega, show i * 3 + 3 + 1 = i * 3 + 1 + 3 by omega, show i * 3 + 3 + 2 = i * 3 + 2 + 3 by omega]
      simpa using this

def Tab (w : World) (bt : Nat) (ps : List Part) : Prop := ∃ v, w.cell? ⟨bt, 0, none⟩ = some v ∧ RO w v 3 ps.length (partCells ps)
theorem Tab.below {w w' bt ps} (h : Tab w bt ps) (hb : Below w.heap.size w w') : Tab w' bt ps := by
  obtain ⟨v, hc, hr⟩ := h
  exact ⟨v, (hb.cell (World.block_lt_of_cell? _ _ hc)).trans hc, hr.below hb⟩

def partV (p : Part) : Value := .agg #[.string p.name, .string p.text, p.st]

theorem len_any {w : World} {bt ps} (h : Tab w bt ps) : Calls Try.prog 17 #[.pointer (some ⟨bt, 0, none⟩)] w fun e w' => e = .returned (.int .i64 ps.length) ∧ w = w' := by
  obtain ⟨v, hc, hr⟩ := h
  obtain ⟨p, c, rfl⟩ := hr.form
  go_enter Try.func17, Try.ntmps17
  go_wp2_with fail
  go_ret
  exact ⟨rfl, rfl⟩

theorem one_in {w : World} {bt ps} (h : Tab w bt ps) (n : Nat) (hn : n < ps.length) (hl : ps.length ≤ 100000) :
    Calls Try.prog 29 #[.pointer (some ⟨bt, 0, none⟩), .int .i64 ((n : Int) + 1)] w fun e w' => e = .returned (.tuple #[partV (ps.getD n default), .int .i64 0]) ∧ Below w.heap.size w w' := by
  obtain ⟨v, hc, hr⟩ := h
  obtain ⟨p, c, rfl⟩ := hr.form
  obtain ⟨b, o, rfl⟩ := hr.sl (parts_at ps n hn).1
  have h0 := hr.cell (parts_at ps n hn).1
  have h1 := hr.cell (parts_at ps n hn).2.1
  have h2 := hr.cell (parts_at ps n hn).2.2
  rw [← Nat.add_assoc] at h1 h2
  have hb := World.block_lt_of_cell? _ _ h0
  have hb2 := World.block_lt_of_cell? _ _ hc
  have hn' : (n : Int) < ps.length := by omega
  have hl' : (ps.length : Int) ≤ 100000 := by omega
  generalize ps.getD n default = P at *
  obtain ⟨nm, tx, sp, sn, sc⟩ := P
  dsimp only [Part.st] at h0 h1 h2
  clear hr hn hl
  go_enter Try.func29, Try.ntmps29
  go_wp2_with fail
  refine bodyPost_ret (v := .tuple #[partV ⟨nm, tx, sp, sn, sc⟩, .int .i64 0]) ?_ rfl ⟨rfl, (((Below.refl _ _).alloc (Nat.le_refl _) _))⟩
  simp [results, Try.results29, go_sem, partV, Part.st]

theorem one_out {w : World} {bt ps} (h : Tab w bt ps) (n : Int) (hn : n < 1 ∨ (ps.length : Int) < n) (hl : ps.length ≤ 100000) :
    Calls Try.prog 29 #[.pointer (some ⟨bt, 0, none⟩), .int .i64 n] w fun e w' => e = .returned (.tuple #[partV default, .int .i64 21]) ∧ Below w.heap.size w w' := by
  obtain ⟨v, hc, hr⟩ := h
  obtain ⟨p, c, rfl⟩ := hr.form
  have hb2 := World.block_lt_of_cell? _ _ hc
  have hl' : (ps.length : Int) ≤ 100000 := by omega
  clear hr hl
  go_enter Try.func29, Try.ntmps29
  rcases hn with hn | hn
  · go_wp2_with fail
    refine bodyPost_ret (v := .tuple #[partV default, .int .i64 21]) ?_ rfl ⟨rfl, (((Below.refl _ _).alloc (Nat.le_refl _) _))⟩
    simp [results, Try.results29, go_sem, partV, Part.st]
    exact ⟨rfl, rfl, rfl, rfl, rfl⟩
  · have hn1 : 1 ≤ n := by omega
    go_wp2_with fail
    refine bodyPost_ret (v := .tuple #[partV default, .int .i64 21]) ?_ rfl ⟨rfl, (((Below.refl _ _).alloc (Nat.le_refl _) _))⟩
    simp [results, Try.results29, go_sem, partV, Part.st]
    exact ⟨rfl, rfl, rfl, rfl, rfl⟩

theorem lines_in {w : World} {bt ps} (h : Tab w bt ps) (n : Nat) (hn : n < ps.length) (hl : ps.length ≤ 100000) :
    Calls Try.prog 15 #[.pointer (some ⟨bt, 0, none⟩), .int .i64 ((n : Int) + 1)] w fun e w' => e = .returned (.int .i64 (ps.getD n default).sn) ∧ Below w.heap.size w w' := by
  have HO := Lib.hid (one_in h n hn hl)
  generalize ps.getD n default = P at *
  obtain ⟨nm, tx, sp, sn, sc⟩ := P
  clear h hn hl
  go_enter Try.func15, Try.ntmps15
  go_wp2_with fail
  refine HO.out.mono ?_; rintro e w1 ⟨rfl, hb⟩
  have HB := Lib.hid hb
  clear hb
  dsimp only [partV, Part.st]
  go_wp2_with fail
  go_ret
  exact ⟨rfl, HB.out.alloc HB.out.size _⟩

theorem lines_out {w : World} {bt ps} (h : Tab w bt ps) (n : Int) (hn : n < 1 ∨ (ps.length : Int) < n) (hl : ps.length ≤ 100000) :
    Calls Try.prog 15 #[.pointer (some ⟨bt, 0, none⟩), .int .i64 n] w fun e w' => e = .returned (.int .i64 0) ∧ Below w.heap.size w w' := by
  have HO := Lib.hid (one_out h n hn hl)
  clear h hn hl
  go_enter Try.func15, Try.ntmps15
  go_wp2_with fail
  refine HO.out.mono ?_; rintro e w1 ⟨rfl, hb⟩
  have HB := Lib.hid hb
  clear hb
  dsimp only [partV, Part.st, default, instInhabitedPart]
  go_wp2_with fail
  go_ret
  exact ⟨rfl, HB.out.alloc HB.out.size _⟩

theorem get_in {w : World} {bt ps} (h : Tab w bt ps) (n : Nat) (hn : n < ps.length) (hl : ps.length ≤ 100000) :
    Calls Try.prog 13 #[.pointer (some ⟨bt, 0, none⟩), .int .i64 ((n : Int) + 1)] w fun e w' => e = .returned (.tuple #[.agg #[.string (ps.getD n default).name, .string (ps.getD n default).text], .int .i64 0]) ∧ Below w.heap.size w w' := by
  have HO := fun w h => Lib.hid (one_in (w := w) (bt := bt) (ps := ps) h n hn hl)
  have hT : Hid (∀ o : Obj, Tab (w.alloc o) bt ps) := Lib.hid fun o => h.below ((Below.refl _ _).alloc (Nat.le_refl _) _)
  generalize ps.getD n default = P at *
  obtain ⟨nm, tx, sp, sn, sc⟩ := P
  have HO := Lib.hid HO
  clear h hn hl
  go_enter Try.func13, Try.ntmps13
  go_wp2_with fail
  refine (HO.out _ (hT.out _)).out.mono ?_; rintro e w1 ⟨rfl, hb⟩
  have hsz := hb.size
  rw [World.size_alloc] at hsz
  have hk : Blk w1 w.heap.size 34 [.string { data := #[] }, .string { data := #[] }] := by
    have := hb.block w.heap.size (by rw [World.size_alloc]; omega)
    rw [heap_alloc_new] at this
    exact this
  have hb' : Below w.heap.size w w1 := ((Below.refl w.heap.size w).alloc (Nat.le_refl _) _).trans (hb.mono (by rw [World.size_alloc]; omega))
  have HB := Lib.hid (And.intro hb' hk)
  have hlt1 : w.heap.size < w1.heap.size := by omega
  have c0 := hk.cell (i := 0) (u := .string { data := #[] }) rfl
  have c1 := hk.cell (i := 1) (u := .string { data := #[] }) rfl
  have f0 := hk.frz 0
  have f1 := hk.frz 1
  clear hb hb' hk HO
  dsimp only [partV, Part.st]
  go_wp2_with fail
  have hk2 : Blk (((w1.setCell ⟨w.heap.size, 0, none⟩ (Value.string nm)).setCell ⟨w.heap.size, 1, none⟩ (Value.string tx)).alloc (Obj.cells #[Value.string nm, Value.string tx, Value.slice sp sn sc] 65)) w.heap.size 34 [.string nm, .string tx] := ((HB.out.2.set 0 _).set 1 _).alloc _
  have hbel : Below w.heap.size w (((w1.setCell ⟨w.heap.size, 0, none⟩ (Value.string nm)).setCell ⟨w.heap.size, 1, none⟩ (Value.string tx)).alloc (Obj.cells #[Value.string nm, Value.string tx, Value.slice sp sn sc] 65)) :=
    ((HB.out.1.setCell (Nat.le_refl _) _).setCell (Nat.le_refl _) _).alloc (by simp only [World.size_setCell]; exact HB.out.1.size) _
  have e0 := hk2.cell (i := 0) (u := .string nm) rfl
  have e1 := hk2.cell (i := 1) (u := .string tx) rfl
  refine bodyPost_ret (v := .tuple #[.agg #[.string nm, .string tx], .int .i64 0]) ?_ rfl ⟨rfl, hbel⟩
  generalize ((w1.setCell ⟨w.heap.size, 0, none⟩ (Value.string nm)).setCell ⟨w.heap.size, 1, none⟩ (Value.string tx)).alloc (Obj.cells #[Value.string nm, Value.string tx, Value.slice sp sn sc] 65) = W at *
  simp [results, Try.results13, go_sem, e0, e1]

theorem get_out {w : World} {bt ps} (h : Tab w bt ps) (n : Int) (hn : n < 1 ∨ (ps.length : Int) < n) (hl : ps.length ≤ 100000) :
    Calls Try.prog 13 #[.pointer (some ⟨bt, 0, none⟩), .int .i64 n] w fun e w' => e = .returned (.tuple #[.agg #[.string { data := #[] }, .string { data := #[] }], .int .i64 21]) ∧ Below w.heap.size w w' := by
  have HO := fun w h => Lib.hid (one_out (w := w) (bt := bt) (ps := ps) h n hn hl)
  have hT : Hid (∀ o : Obj, Tab (w.alloc o) bt ps) := Lib.hid fun o => h.below ((Below.refl _ _).alloc (Nat.le_refl _) _)
  have HO := Lib.hid HO
  clear h hn hl
  go_enter Try.func13, Try.ntmps13
  go_wp2_with fail
  refine (HO.out _ (hT.out _)).out.mono ?_; rintro e w1 ⟨rfl, hb⟩
  have hsz := hb.size
  rw [World.size_alloc] at hsz
  have hk : Blk w1 w.heap.size 34 [.string { data := #[] }, .string { data := #[] }] := by
    have := hb.block w.heap.size (by rw [World.size_alloc]; omega)
    rw [heap_alloc_new] at this
    exact this
  have hb' : Below w.heap.size w w1 := ((Below.refl w.heap.size w).alloc (Nat.le_refl _) _).trans (hb.mono (by rw [World.size_alloc]; omega))
  have HB := Lib.hid (And.intro hb' hk)
  have hlt1 : w.heap.size < w1.heap.size := by omega
  have c0 := hk.cell (i := 0) (u := .string { data := #[] }) rfl
  have c1 := hk.cell (i := 1) (u := .string { data := #[] }) rfl
  have f0 := hk.frz 0
  have f1 := hk.frz 1
  clear hb hb' hk HO
  have hd : partV default = .agg #[.string { data := #[] }, .string { data := #[] }, .slice none 0 0] := rfl
  rw [hd]
  go_wp2_with fail
  have hk2 : Blk (((w1.setCell ⟨w.heap.size, 0, none⟩ (Value.string { data := #[] })).setCell ⟨w.heap.size, 1, none⟩ (Value.string { data := #[] })).alloc (Obj.cells #[Value.string { data := #[] }, Value.string { data := #[] }, Value.slice none 0 0] 65)) w.heap.size 34 [.string { data := #[] }, .string { data := #[] }] := ((HB.out.2.set 0 _).set 1 _).alloc _
  have hbel : Below w.heap.size w (((w1.setCell ⟨w.heap.size, 0, none⟩ (Value.string { data := #[] })).setCell ⟨w.heap.size, 1, none⟩ (Value.string { data := #[] })).alloc (Obj.cells #[Value.string { data := #[] }, Value.string { data := #[] }, Value.slice none 0 0] 65)) :=
    ((HB.out.1.setCell (Nat.le_refl _) _).setCell (Nat.le_refl _) _).alloc (by simp only [World.size_setCell]; exact HB.out.1.size) _
  have e0 := hk2.cell (i := 0) (u := .string { data := #[] }) rfl
  have e1 := hk2.cell (i := 1) (u := .string { data := #[] }) rfl
  refine bodyPost_ret (v := .tuple #[.agg #[.string { data := #[] }, .string { data := #[] }], .int .i64 21]) ?_ rfl ⟨rfl, hbel⟩
  generalize ((w1.setCell ⟨w.heap.size, 0, none⟩ (Value.string { data := #[] })).setCell ⟨w.heap.size, 1, none⟩ (Value.string { data := #[] })).alloc (Obj.cells #[Value.string { data := #[] }, Value.string { data := #[] }, Value.slice none 0 0] 65) = W at *
  simp [results, Try.results13, go_sem, e0, e1]
end Go.Proofs.Ytonippdileikbaa
