import Derived.Test.YtonippdileikbaaA7
namespace Go.Proofs.Ytonippdileikbaa
set_option linter.unusedVariables false
open Go.RowKit

/-- a block made in w, behind what keeps the blocks of w.alloc o -/
theorem kept_new {w w1 : World} {t : TypeId} {l : List Value} (hb : Below (w.alloc (.cells l.toArray t)).heap.size (w.alloc (.cells l.toArray t)) w1) : Blk w1 w.heap.size t l ∧ Below w.heap.size w w1 ∧ w.heap.size < w1.heap.size := by
  refine ⟨(Blk.new t l).below hb (by rw [World.size_alloc]; omega), ((Below.refl w.heap.size w).alloc (Nat.le_refl _) _).trans (hb.mono (by rw [World.size_alloc]; omega)), ?_⟩
  have := hb.size
  rw [World.size_alloc] at this; omega

theorem offset_nofile {w : World} {bt ps} (h : Tab w bt ps) (f l c : Int) (hn : f < 1 ∨ (ps.length : Int) < f) (hl : ps.length ≤ 100000) :
    Calls Try.prog 20 #[.pointer (some ⟨bt, 0, none⟩), .agg #[.int .i64 f, .int .i64 l, .int .i64 c]] w fun e w' => e = .returned (.tuple #[.int .i64 0, .int .i64 21]) ∧ Below w.heap.size w w' := by
  have HO := Lib.hid (fun o => one_out (h.below ((Below.refl w.heap.size w).alloc (Nat.le_refl _) o)) f hn hl)
  clear h hn hl
  go_enter Try.func20, Try.ntmps20
  go_wp2_with fail
  refine (HO.out _).mono ?_; rintro e w1 ⟨rfl, hb⟩
  obtain ⟨_, hb1, _⟩ := kept_new (l := [.int .i64 f, .int .i64 l, .int .i64 c]) hb
  have HB := Lib.hid hb1
  clear hb hb1
  have hd : partV default = .agg #[.string { data := #[] }, .string { data := #[] }, .slice none 0 0] := rfl
  rw [hd]
  go_wp2_with fail
  go_ret2
  exact ⟨rfl, HB.out.alloc HB.out.size _⟩

set_option maxHeartbeats 1000000 in
theorem offset_noline {w : World} {bt ps} (h : Tab w bt ps) (n : Nat) (l c : Int) (hn : n < ps.length) (hl : ps.length ≤ 100000) {L : List Int} (hK : Known w (ps.getD n default) L) (hm : l < 1 ∨ (L.length : Int) < l) :
    Calls Try.prog 20 #[.pointer (some ⟨bt, 0, none⟩), .agg #[.int .i64 ((n : Int) + 1), .int .i64 l, .int .i64 c]] w fun e w' => e = .returned (.tuple #[.int .i64 0, .int .i64 3]) ∧ Below w.heap.size w w' := by
  have HO := Lib.hid (fun o => one_in (h.below ((Below.refl w.heap.size w).alloc (Nat.le_refl _) o)) n hn hl)
  generalize ps.getD n default = P at *
  obtain ⟨nm, tx, sp, sn, sc⟩ := P
  have hsn : sn = L.length := hK.ro.count
  subst hsn
  have HB : Hid (∀ w, Calls Try.prog 33 #[.agg #[.string nm, .string tx, .slice sp L.length sc], .int .i64 l] w fun e w' => e = .returned (.tuple #[.int .i64 0, .int .i64 0, .int .i64 3]) ∧ Below w.heap.size w w') := Lib.hid fun w => bounds_out w nm tx sp L.length sc l hm hK.len
  clear h hn hl hK hm
  go_enter Try.func20, Try.ntmps20
  go_wp2_with fail
  refine (HO.out _).mono ?_; rintro e w1 ⟨rfl, hb⟩
  obtain ⟨hk, hb1, hlt⟩ := kept_new (l := [.int .i64 ((n : Int) + 1), .int .i64 l, .int .i64 c]) hb
  have HB1 := Lib.hid hb1
  have c1 := hk.cell (i := 1) (u := .int .i64 l) rfl
  have c2 := hk.cell (i := 2) (u := .int .i64 c) rfl
  clear hb hb1 hk
  dsimp only [partV, Part.st]
  go_wp2_with fail
  refine (HB.out _).mono ?_; rintro e w2 ⟨rfl, hb⟩
  have HB2 := Lib.hid (Below.then (HB1.out.alloc HB1.out.size _) hb (Nat.le_refl _))
  clear hb
  go_wp2_with fail
  go_ret2
  exact ⟨rfl, HB2.out⟩

/-- a column of line k + 1 -/
def colOk (L : List Int) (size k : Nat) (c : Int) : Prop := 1 ≤ c ∧ c ≤ 1 + endOf L size k - L.getD k 0

set_option maxHeartbeats 2000000 in
theorem offset_at {w : World} {bt ps} (h : Tab w bt ps) (n k : Nat) (c : Int) (hn : n < ps.length) (hl : ps.length ≤ 100000) {L : List Int} (hK : Known w (ps.getD n default) L) (hk : k < L.length) (hcb : -9223372036854775808 ≤ c ∧ c ≤ 9223372036854775807) :
    Calls Try.prog 20 #[.pointer (some ⟨bt, 0, none⟩), .agg #[.int .i64 ((n : Int) + 1), .int .i64 ((k : Int) + 1), .int .i64 c]] w fun e w' =>
      (colOk L (ps.getD n default).text.size k c ∧ e = .returned (.tuple #[.int .i64 (L.getD k 0 + c - 1), .int .i64 0]) ∨ ¬ colOk L (ps.getD n default).text.size k c ∧ e = .returned (.tuple #[.int .i64 0, .int .i64 3])) ∧ Below w.heap.size w w' := by
  have HO := Lib.hid (fun o => one_in (h.below ((Below.refl w.heap.size w).alloc (Nat.le_refl _) o)) n hn hl)
  generalize ps.getD n default = P at *
  obtain ⟨nm, tx, sp, sn, sc⟩ := P
  have hsn : sn = L.length := hK.ro.count
  subst hsn
  have hbd := hK.bd k hk
  have htx := hK.tx
  have HB : Hid (∀ w', Below w.heap.size w w' → Calls Try.prog 33 #[.agg #[.string nm, .string tx, .slice sp L.length sc], .int .i64 ((k : Int) + 1)] w' fun e w'' => e = .returned (.tuple #[.int .i64 (L.getD k 0), .int .i64 (endOf L tx.size k), .int .i64 0]) ∧ Below w'.heap.size w' w'') :=
    Lib.hid fun w' hb => bounds_in w' nm tx sp sc L k hk hK.len (hK.ro.below hb) (by have := hK.tx; simp only [maxLen]; dsimp only at this; omega) (fun i hi => by have := hK.bd i hi; have := hK.tx; dsimp only at *; omega)
  dsimp only at hbd htx ⊢
  unfold colOk
  generalize L.getD k 0 = X at *
  generalize endOf L tx.size k = Y at *
  obtain ⟨h0, h1, h2⟩ := hbd
  obtain ⟨hc0, hc1⟩ := hcb
  have htx' : (tx.size : Int) ≤ 1000000 := by omega
  clear h hn hl hK hk htx
  go_enter Try.func20, Try.ntmps20
  go_wp2_with fail
  refine (HO.out _).mono ?_; rintro e w1 ⟨rfl, hb⟩
  obtain ⟨hk, hb1, hlt⟩ := kept_new (l := [.int .i64 ((n : Int) + 1), .int .i64 ((k : Int) + 1), .int .i64 c]) hb
  have HB1 := Lib.hid hb1
  have c1 := hk.cell (i := 1) (u := .int .i64 ((k : Int) + 1)) rfl
  have c2 := hk.cell (i := 2) (u := .int .i64 c) rfl
  have HK := Lib.hid hk
  clear hb hb1 hk
  dsimp only [partV, Part.st]
  go_wp2_with fail
  refine (HB.out _ (HB1.out.alloc HB1.out.size _)).mono ?_; rintro e w2 ⟨rfl, hb⟩
  have hk2 := (HK.out.alloc (Obj.cells #[Value.string nm, Value.string tx, Value.slice sp L.length sc] 65)).below hb (by rw [World.size_alloc]; omega)
  have d2 := hk2.cell (i := 2) (u := .int .i64 c) rfl
  have HB2 := Lib.hid (Below.then (HB1.out.alloc HB1.out.size _) hb (Nat.le_refl _))
  clear hb hk2 c1 c2
  by_cases g1 : 1 ≤ c
  · by_cases g2 : c ≤ 1 + Y - X
    · go_wp2_with fail
      go_ret2
      exact ⟨.inl ⟨⟨g1, g2⟩, rfl⟩, HB2.out⟩
    · have g2' : 1 + Y - X < c := by omega
      have G2 := Lib.hid g2
      clear g2
      go_wp2_with fail
      go_ret2
      exact ⟨.inr ⟨fun h => by have := G2.out; have := h.2; omega, rfl⟩, HB2.out⟩
  · have g1' : c < 1 := by omega
    have G1 := Lib.hid g1
    clear g1
    go_wp2_with fail
    go_ret2
    exact ⟨.inr ⟨fun h => by have := G1.out; have := h.1; omega, rfl⟩, HB2.out⟩
end Go.Proofs.Ytonippdileikbaa
