/- Texts of this claim, one behind another: X10. They state lemmas; each names its own conditions. -/
import Derived.Test.YtcjfelndnnhgjaaGreatDoorYC
namespace Go.Proofs.YtcjfelndnnhgjaaGreatDoor
set_option linter.unusedVariables false
open Go.RowKit Go.Maps

/-! # lex.Lex -/
theorem pc_cells {w : World} {B : Nat} {v : Value} {l : List Pc} (h : w.ownsRow B 67 5 v l.length (outCells l)) {i : Nat} {p : Pc} (hp : l[i]? = some p) : ∃ g c, v = .slice (some ⟨g, 0, none⟩) l.length c ∧ w.cell? ⟨g, i * 5, none⟩ = some (.string (bstr p.text)) ∧ w.cell? ⟨g, i * 5 + 1, none⟩ = some (.int .i64 p.f) ∧ w.cell? ⟨g, i * 5 + 2, none⟩ = some (.int .i64 p.l) ∧ w.cell? ⟨g, i * 5 + 3, none⟩ = some (.int .i64 p.c) ∧ w.cell? ⟨g, i * 5 + 4, none⟩ = some (.bool p.fixed) := by
  have hi : i < l.length := (List.getElem?_eq_some_iff.1 hp).1
  obtain ⟨g, c, rfl, _⟩ := h.form (by omega)
  have e : l.getD i default = p := by rw [List.getD, hp]; rfl
  have q : ∀ r u, r < 5 → (pcCells p)[r]? = some u → w.cell? ⟨g, i * 5 + r, none⟩ = some u := fun r u hr hu => by
    rw [h.cellAt (i * 5 + r) (by omega), outCells_at l i r hi hr, e, hu]
  exact ⟨g, c, rfl, q 0 _ (by decide) rfl, q 1 _ (by decide) rfl, q 2 _ (by decide) rfl, q 3 _ (by decide) rfl, q 4 _ (by decide) rfl⟩
/-- what Lex may be given -/
def PcOk (p : Pc) : Prop := ∃ L C : Nat, p.l = L ∧ p.c = C ∧ L ≤ 1000000 ∧ C ≤ 1000000 ∧ p.text.length ≤ 100000
def TokP (l : List Pc) (t : Tk) : Prop := ∃ p, p ∈ l ∧ ∃ L C : Nat, p.l = L ∧ p.c = C ∧ TokIn p.f p.fixed (L, C) (bstr p.text) t
def LexR (base : Nat) (l : List Pc) (w : World) (e : Ending) (w' : World) : Prop :=
  ∃ (v : Value) (err : Int) (p : Int × Int × Int), e = .returned (.tuple #[v, .agg #[.int .i64 p.1, .int .i64 p.2.1, .int .i64 p.2.2], .int .i64 err]) ∧ Below w.heap.size w w' ∧
    ((err = 0 ∧ p = (0, 0, 0) ∧ ∃ ts' : List Tk, w'.ownsRow base 41 5 v ts'.length (tksCells ts') ∧ ts'.length ≤ 12000 ∧ ∀ t ∈ ts', TokP l t) ∨
     (err ≠ 0 ∧ v = .slice none 0 0 ∧ ∃ x, x ∈ l ∧ ∃ L C : Nat, x.l = L ∧ x.c = C ∧ ∃ k, k ≤ x.text.length ∧ p = (x.f, ((plK x.fixed (L, C) (bstr x.text) k).1 : Int), ((plK x.fixed (L, C) (bstr x.text) k).2 : Int))))
set_option maxRecDepth 100000 in
set_option maxHeartbeats 16000000 in
theorem lex_any {w : World} {B : Nat} {v : Value} {l : List Pc} (hv : w.ownsRow B 67 5 v l.length (outCells l)) (hp : ∀ p ∈ l, PcOk p) (hln : l.length ≤ 9223372036854775807) (hM : Max w) :
    Calls Tryz.prog 8 #[v] w (LexR (w.heap.size + 1) l w) := by
  have hMb : 0 < w.heap.size := by obtain ⟨m, hm⟩ := hM; exact World.block_lt_of_cell? _ _ hm
  have hb1 := Below.new w (.cells #[.int .i64 0, .int .i64 0, .int .i64 0] 32)
  have hk1 := Blk.new (w := w) 32 [.int .i64 0, .int .i64 0, .int .i64 0]
  obtain ⟨p0, c0, rfl⟩ := ownsRow_form hv
  obtain ⟨n, hn⟩ : ∃ n, l.length = n := ⟨_, rfl⟩
  have HN := Lib.hid hn
  have HV := Lib.hid (And.intro hv (And.intro hp (And.intro hM hMb)))
  have HB := Lib.hid (And.intro hb1 hk1)
  have hni : (n : Int) ≤ 9223372036854775807 := by omega
  rw [hn]
  clear hv hp hM hMb hb1 hk1 hn hln
  go_enter Tryz.func8, Tryz.ntmps8
  go_wp2_with fail
  go_loopw [5, 13] (fun v iv wr => ∃ (i : Nat) (ts' : List Tk), i ≤ n ∧ iv = .int .i64 i ∧ Below (w.heap.size + 1) (w.alloc (.cells #[.int .i64 0, .int .i64 0, .int .i64 0] 32)) wr ∧ wr.ownsRow (w.heap.size + 1) 41 5 v ts'.length (tksCells ts') ∧ ts'.length ≤ 12000 ∧ ∀ t ∈ ts', TokP l t) (fun _ iv _ => n - (intOf iv).toNat)
  case atStart => exact ⟨0, [], Nat.zero_le _, rfl, Below.refl _ _, World.ownsRow_nil _ _ _ _, by decide, fun t h => by cases h⟩
  case round =>
    obtain ⟨i, ts', hi, rfl, hbel, hown, h12, htk⟩ := hrel
    obtain ⟨p1, c1, rfl⟩ := ownsRow_form hown
    obtain ⟨m, hm⟩ : ∃ m, ts'.length = m := ⟨_, rfl⟩
    have HT := Lib.hid (And.intro hbel (And.intro hown (And.intro h12 (And.intro htk hm))))
    rw [hm]
    have hgr : Blk wr w.heap.size 32 [.int .i64 0, .int .i64 0, .int .i64 0] := HB.out.2.below hbel (Nat.lt_succ_self _)
    have HG := Lib.hid hgr
    clear hbel hown htk hm hgr
    by_cases hlt : i < n
    · obtain ⟨p, hp⟩ : ∃ p, l[i]? = some p := ⟨_, List.getElem?_eq_getElem (by rw [HN.out]; exact hlt)⟩
      have hall : Below w.heap.size w wr := HB.out.1.trans (HT.out.1.mono (Nat.le_succ _))
      have hrw := ownsRow_below HV.out.1 hall
      obtain ⟨g, c, e, k0, k1, k2, k3, k4⟩ := pc_cells hrw hp
      rw [HN.out] at e
      cases e
      have hpm := List.mem_of_getElem? hp
      obtain ⟨L, C, hL, hC, hL1, hC1, htx⟩ := HV.out.2.1 p hpm
      rw [hL] at k2
      rw [hC] at k3
      have hii : (i : Int) < n := by omega
      have hi0 : (0 : Int) ≤ i := by omega
      have hiw : IntKind.i64.wrap ((i : Int) + 1) = (i : Int) + 1 := i64_of (by omega)
      have HP := Lib.hid (And.intro hpm (And.intro hL (And.intro hC (And.intro hL1 (And.intro hC1 htx)))))
      clear hall hrw hp hpm hL hC hL1 hC1 htx
      have hsw : w.heap.size + 1 ≤ wr.heap.size := by have h := HT.out.1.size; rwa [World.size_alloc] at h
      have hbx := Below.new wr (.cells #[.string (bstr p.text), .int .i64 p.f, .int .i64 L, .int .i64 C, .bool p.fixed] 67)
      have hMx : Max (wr.alloc (.cells #[.string (bstr p.text), .int .i64 p.f, .int .i64 L, .int .i64 C, .bool p.fixed] 67)) := HV.out.2.2.1.below ((HB.out.1.trans (HT.out.1.mono (Nat.le_succ _))).trans (hbx.mono (Nat.le_of_succ_le hsw)))
      have hPc := piece_any (HT.out.2.1.alloc (.cells #[.string (bstr p.text), .int .i64 p.f, .int .i64 L, .int .i64 C, .bool p.fixed] 67)) HT.out.2.2.1 (Nat.le_trans hsw hbx.size) p.f p.fixed L C (bstr p.text) HP.out.2.2.2.2.2 HP.out.2.2.2.1 HP.out.2.2.2.2.1 hMx (Nat.lt_succ_of_lt HV.out.2.2.2)
      rw [HT.out.2.2.2.2] at hPc
      have HPc := Lib.hid hPc
      have HS := Lib.hid (And.intro hsw hbx)
      clear hsw hbx hMx hPc
      go_wp2_with fail
      refine HPc.out.mono ?_; rintro e w3 ⟨v3, err, ⟨q1, q2, q3⟩, rfl, hb3, hcase⟩
      (try simp only at hcase)
      (try simp only)
      have hbA : Below (w.heap.size + 1) (w.alloc (.cells #[.int .i64 0, .int .i64 0, .int .i64 0] 32)) (w3.alloc (.cells #[.int .i64 q1, .int .i64 q2, .int .i64 q3] 32)) := ((HT.out.1.trans (HS.out.2.mono HS.out.1)).trans hb3).alloc (Nat.le_trans (Nat.le_trans HS.out.1 HS.out.2.size) hb3.size) _
      have HA := Lib.hid (And.intro hbA hcase)
      clear HPc hbA hcase hb3
      by_cases he : err = 0
      · subst he
        go_wp2_with fail
        go_roundw
        case rel =>
          rcases HA.out.2 with ⟨_, _, ts2, ho, hl2, ht2⟩ | ⟨h, _⟩
          · refine ⟨i + 1, ts2, hlt, by go_num, HA.out.1, ho.alloc _, hl2, fun t ht => ?_⟩
            rcases ht2 t ht with h | h
            · exact HT.out.2.2.2.1 t h
            · exact ⟨p, HP.out.1, L, C, HP.out.2.1, HP.out.2.2.1, h⟩
          · exact absurd rfl h
        case measure => simp [intOf]; omega
      · have kP := Blk.new (w := w3) 32 [.int .i64 q1, .int .i64 q2, .int .i64 q3]
        have kR : Blk (w3.alloc (.cells #[.int .i64 q1, .int .i64 q2, .int .i64 q3] 32)) w.heap.size 32 [.int .i64 0, .int .i64 0, .int .i64 0] := HB.out.2.below HA.out.1 (Nat.lt_succ_self _)
        go_upto_region 7 with fail
        have b0 := kP.drew.cell (i := 0) rfl
        have b1 := kP.drew.cell (i := 1) rfl
        have b2 := kP.drew.cell (i := 2) rfl
        have r0 := kR.drew.cell (i := 0) rfl
        have r1 := kR.cell (i := 1) rfl
        have r2 := kR.cell (i := 2) rfl
        have f0 := kR.drew.frz 0
        have f1 := kR.frz 1
        have f2 := kR.frz 2
        have HK := Lib.hid kR
        clear kP kR
        generalize w3.alloc (.cells #[.int .i64 q1, .int .i64 q2, .int .i64 q3] 32) = W3 at *
        go_region_law (fail)
        all_goals
          go_wp2_with fail
          have hk := ((HK.out.set 0 (.int .i64 q1)).set 1 (.int .i64 q2)).set 2 (.int .i64 q3)
          have e0 := hk.cell (i := 0) rfl
          have e1 := hk.cell (i := 1) rfl
          have e2 := hk.cell (i := 2) rfl
          have hb := (((HB.out.1.trans (HA.out.1.mono (Nat.le_succ _))).setCell (p := ⟨w.heap.size, 0, none⟩) (Nat.le_refl _) (.int .i64 q1)).setCell (p := ⟨w.heap.size, 1, none⟩) (Nat.le_refl _) (.int .i64 q2)).setCell (p := ⟨w.heap.size, 2, none⟩) (Nat.le_refl _) (.int .i64 q3)
          rcases HA.out.2 with ⟨h, _⟩ | ⟨_, _, k, hk, hq⟩
          · exact absurd h he
          · exact bodyPost_ret (v := .tuple #[.slice none 0 0, .agg #[.int .i64 q1, .int .i64 q2, .int .i64 q3], .int .i64 err]) (by simp [results, Tryz.results8, go_sem, e0, e1, e2]) rfl ⟨_, err, (q1, q2, q3), rfl, hb.drew, .inr ⟨he, rfl, p, HP.out.1, L, C, HP.out.2.1, HP.out.2.2.1, k, hk, hq⟩⟩
    · obtain rfl : i = n := by omega
      clear hlt
      have r0 := HG.out.cell (i := 0) rfl
      have r1 := HG.out.cell (i := 1) rfl
      have r2 := HG.out.cell (i := 2) rfl
      have f0 := HG.out.frz 0
      have f1 := HG.out.frz 1
      have f2 := HG.out.frz 2
      go_wp2_with fail
      have hk := ((HG.out.set 0 (.int .i64 0)).set 1 (.int .i64 0)).set 2 (.int .i64 0)
      have e0 := hk.cell (i := 0) rfl
      have e1 := hk.cell (i := 1) rfl
      have e2 := hk.cell (i := 2) rfl
      have hb := (((HB.out.1.trans (HT.out.1.mono (Nat.le_succ _))).setCell (p := ⟨w.heap.size, 0, none⟩) (Nat.le_refl _) (.int .i64 0)).setCell (p := ⟨w.heap.size, 1, none⟩) (Nat.le_refl _) (.int .i64 0)).setCell (p := ⟨w.heap.size, 2, none⟩) (Nat.le_refl _) (.int .i64 0)
      have ho : ((((wr.setCell ⟨w.heap.size, 0, none⟩ (.int .i64 0)).setCell ⟨w.heap.size, 1, none⟩ (.int .i64 0)).setCell ⟨w.heap.size, 2, none⟩ (.int .i64 0))).ownsRow (w.heap.size + 1) 41 5 (.slice p1 ts'.length c1) ts'.length (tksCells ts') := ownsRow_keep HT.out.2.1 fun j hj => by
        have hne : j ≠ w.heap.size := by have := (HT.out.2.1.lt j hj).1; omega
        rw [Below.heap_setCell _ _ _ _ hne, Below.heap_setCell _ _ _ _ hne, Below.heap_setCell _ _ _ _ hne]
      obtain rfl := HT.out.2.2.2.2
      exact bodyPost_ret (v := .tuple #[.slice p1 ts'.length c1, .agg #[.int .i64 0, .int .i64 0, .int .i64 0], .int .i64 0]) (by simp [results, Tryz.results8, go_sem, e0, e1, e2]) rfl ⟨_, 0, (0, 0, 0), rfl, hb, .inl ⟨rfl, rfl, ts', ho, HT.out.2.2.1, HT.out.2.2.2.1⟩⟩
end Go.Proofs.YtcjfelndnnhgjaaGreatDoor
