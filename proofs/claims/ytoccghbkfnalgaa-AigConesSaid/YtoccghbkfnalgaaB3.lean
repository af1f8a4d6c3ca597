import Derived.Test.YtoccghbkfnalgaaB2
namespace Go.Proofs.Ytoccghbkfnalgaa
set_option linter.unusedVariables false
open Go.RowKit

theorem bools_getElem? (l : List Bool) (i : Nat) : (bools l)[i]? = l[i]?.map .bool := by simp [bools]
theorem ints_getElem? (l : List Int) (i : Nat) : (ints l)[i]? = l[i]?.map (.int .i64 ·) := by simp [ints]
theorem bools_set (l : List Bool) (i : Nat) (b : Bool) : (bools l).set i (.bool b) = bools (l.set i b) := by simp [bools, List.map_set]
theorem bools_at (l : List Bool) (i : Nat) (h : i < l.length) : (bools l)[i]? = some (.bool (l.getD i false)) := by
  rw [bools, List.getElem?_map, List.getD, List.getElem?_eq_getElem h]; rfl
theorem ints_at (l : List Int) (i : Nat) (h : i < l.length) : (ints l)[i]? = some (.int .i64 (l.getD i 0)) := by
  rw [ints, List.getElem?_map, List.getD, List.getElem?_eq_getElem h]; rfl
theorem pairs_at (l : List (Int × Int)) (i : Nat) (h : i < l.length) : (pairCells l)[i * 2]? = some (.int .i64 (l.getD i (0, 0)).1) ∧ (pairCells l)[i * 2 + 1]? = some (.int .i64 (l.getD i (0, 0)).2) := by
  induction l generalizing i with
  | nil => simp at h
  | cons p l ih =>
    have e : pairCells (p :: l) = .int .i64 p.1 :: .int .i64 p.2 :: pairCells l := by simp [pairCells]
    cases i with
    | zero => simp [e]
    | succ i =>
      have := ih i (by simpa using h)
      rw [e, show (i + 1) * 2 = i * 2 + 1 + 1 from by omega]
      simpa using this

set_option maxHeartbeats 1000000 in
theorem eval_any (w : World) (bg : Nat) (F : Nat → Prop) (g : G) (vin : Value) (ins : List Bool) (hG : HasG w bg F g) (hlen : g.nodes.length ≤ 60000) (hv : RO w vin 1 ins.length (bools ins))
    (hil : g.inputs.length ≤ 60000) (hins : ins.length ≤ 9223372036854775807)
    (hin : ∀ k, k < g.inputs.length → 0 ≤ g.inputs.getD k 0 ∧ g.inputs.getD k 0 < g.nodes.length) (hnb : ∀ k, k < g.nodes.length → (g.nodes.getD k (0, 0)).1 ≠ -1 → (g.nodes.getD k (0, 0)).1 < 2^62 ∧ (g.nodes.getD k (0, 0)).2 < 2^62) :
    Calls Try.prog 18 #[.pointer (some ⟨bg, 0, none⟩), vin] w fun e w' => ∃ v, e = .returned v ∧ RO w' v 1 (gEval g ins).length (bools (gEval g ins)) ∧ Below w.heap.size w w' := by
  obtain ⟨vn, vi, bm, hG, rfl⟩ := hG
  have hrn := RO.own hG.hn
  have hri := RO.own hG.hi
  obtain ⟨pn, cn, rfl⟩ := hrn.form
  obtain ⟨pi, ci, rfl⟩ := hri.form
  obtain ⟨pv, cv, rfl⟩ := hv.form
  have hmk := mk_bools g.nodes.length (by omega)
  have hbg := hG.lt bg (.inl rfl)
  have hc0 := hG.cell0
  have hc1 := hG.cell1
  have hn1 : (g.nodes.length : Int) ≤ 60000 := by omega
  have hi1 : (g.inputs.length : Int) ≤ 60000 := by omega
  have H := Lib.hid (And.intro hG (And.intro hrn (And.intro hri (And.intro hv (And.intro hin hnb)))))
  clear hG hrn hri hv hin hnb hlen hil
  go_enter Try.func18, Try.ntmps18
  go_wp2
  generalize hB : w.heap.size = B at *
  go_loopw [21] (fun i wr => ∃ k : Nat, k ≤ g.inputs.length ∧ i = .int .i64 k ∧ Blk wr B 4 (bools (evInTo g.nodes.length g.inputs ins k)) ∧ Below B w wr) (fun i _ => g.inputs.length - (intOf i).toNat)
  case atStart => exact ⟨0, Nat.zero_le _, rfl, hB ▸ Blk.new _ _, hB ▸ (Below.refl _ _).alloc (Nat.le_refl _) _⟩
  case round =>
    obtain ⟨k, hk, rfl, hblk, hbel⟩ := hrel
    have HR := Lib.hid (And.intro hblk hbel)
    by_cases hlt : k < g.inputs.length
    · obtain ⟨bi, oi, ci', hvi, hci⟩ := (H.out.2.2.1.below (hB ▸ hbel)).get (ints_at g.inputs k hlt)
      obtain ⟨rfl, rfl⟩ : pi = some ⟨bi, oi, none⟩ ∧ ci = ci' := by simpa using hvi
      obtain ⟨hx0, hx1⟩ := H.out.2.2.2.2.1 k hlt
      have hcell := hblk.cell (bools_at (evInTo g.nodes.length g.inputs ins k) (g.inputs.getD k 0).toNat (by rw [evInTo_length]; omega))
      have hfz := hblk.frz (g.inputs.getD k 0).toNat
      have hstep := Lib.hid (bools_set (evInTo g.nodes.length g.inputs ins k) (g.inputs.getD k 0).toNat (ins.getD k false))
      have hst2 := Lib.hid (show (evInTo g.nodes.length g.inputs ins k).set (g.inputs.getD k 0).toNat (ins.getD k false) = evInTo g.nodes.length g.inputs ins (k + 1) from rfl)
      generalize g.inputs.getD k 0 = X at *
      generalize (evInTo g.nodes.length g.inputs ins k).getD X.toNat false = Y at *
      clear hblk hbel hvi
      by_cases hin : k < ins.length
      · obtain ⟨bv, ov, cv', hvv, hcv⟩ := (H.out.2.2.2.1.below (hB ▸ HR.out.2)).get (bools_at ins k hin)
        obtain ⟨rfl, rfl⟩ : pv = some ⟨bv, ov, none⟩ ∧ cv = cv' := by simpa using hvv
        generalize ins.getD k false = Z at *
        clear hvv
        go_wp2
        go_roundw
        case rel =>
          refine ⟨k + 1, by omega, by go_num, ?_, HR.out.2.setCell (Nat.le_refl _) _⟩
          have hs := HR.out.1.set X.toNat (.bool Z)
          rw [hstep.out, hst2.out] at hs
          exact hs
        case measure => simp [intOf]; omega
      · have hz : ins.getD k false = false := by simp [List.getD, List.getElem?_eq_none (Nat.le_of_not_lt hin)]
        rw [hz] at hstep hst2
        clear hz
        go_wp2
        go_roundw
        case rel =>
          refine ⟨k + 1, by omega, by go_num, ?_, HR.out.2.setCell (Nat.le_refl _) _⟩
          have hs := HR.out.1.set X.toNat (.bool false)
          rw [hstep.out, hst2.out] at hs
          exact hs
        case measure => simp [intOf]; omega
    · obtain rfl : k = g.inputs.length := by omega
      have hcb0 : wr.cell? ⟨bg, 0, none⟩ = some (.slice pn g.nodes.length cn) := (hbel.cell (p := ⟨bg, 0, none⟩) hbg).trans hc0
      clear hblk hbel
      go_wp2
      generalize hO : evInTo g.nodes.length g.inputs ins g.inputs.length = O at *
      have hOl : O.length = g.nodes.length := by rw [← hO, evInTo_length]
      have HO := Lib.hid (And.intro hO hOl)
      clear hO hOl
      go_loopw [45] (fun i wr => ∃ k : Nat, k ≤ g.nodes.length ∧ i = .int .i64 k ∧ Blk wr B 4 (bools (evNodeTo g.nodes O k)) ∧ Below B w wr) (fun i _ => g.nodes.length - (intOf i).toNat)
      case atStart => exact ⟨0, Nat.zero_le _, rfl, HR.out.1, HR.out.2⟩
      case round =>
        obtain ⟨k, hk, rfl, hblk, hbel⟩ := hrel
        have HR := Lib.hid (And.intro hblk hbel)
        by_cases hlt : k < g.nodes.length
        · obtain ⟨bn, on, rfl⟩ := H.out.2.1.sl (pairs_at g.nodes k hlt).1
          have hp0 := (H.out.2.1.below (hB ▸ hbel)).cell (pairs_at g.nodes k hlt).1
          have hp1 := (H.out.2.1.below (hB ▸ hbel)).cell (pairs_at g.nodes k hlt).2
          rw [← Nat.add_assoc] at hp1
          have hnb := H.out.2.2.2.2.2 k hlt
          have hl := evNodeTo_length g.nodes O k
          have hnext := Lib.hid (evNodeTo_succ g.nodes O k)
          have hO := HO.out.2
          have hcell := hblk.cell (bools_at (evNodeTo g.nodes O k) k (by omega))
          have hfz := hblk.frz k
          generalize hE' : evNodeTo g.nodes O (k + 1) = E' at hnext
          have hE' := Lib.hid hE'
          generalize hE : evNodeTo g.nodes O k = E at *
          generalize g.nodes.getD k (0, 0) = P at *
          obtain ⟨P1, P2⟩ := P
          dsimp only at hp0 hp1 hnb hnext
          clear hE hbel hblk
          have HL := Lib.hid (And.intro hl (And.intro hnb hO))
          generalize E.getD k false = Y at *
          have hBl := HR.out.1.lt
          clear hl hnb hO
          by_cases hP : P1 = -1
          · have hd : (P1 != -1) = false := by simp [hP]
            have HP := Lib.hid hP
            clear hP
            go_wp2
            go_roundw
            case rel =>
              refine ⟨k + 1, by omega, by go_num, ?_, HR.out.2.alloc (by omega) _⟩
              rw [hE'.out, hnext.out, if_pos HP.out]
              exact HR.out.1.alloc _
            case measure => simp [intOf]; omega
          · have hd : (P1 != -1) = true := by simp [hP]
            have HP := Lib.hid hP
            clear hP
            have HB := Lib.hid (HR.out.1.alloc (Obj.cells #[Value.int IntKind.i64 P1, Value.int IntKind.i64 P2] 58))
            have HRO : Hid (RO (wr.alloc (Obj.cells #[Value.int IntKind.i64 P1, Value.int IntKind.i64 P2] 58)) (.slice (some ⟨B, 0, none⟩) g.nodes.length g.nodes.length) 1 E.length (bools E)) := by
              have := RO.own (HB.out.own (n := g.nodes.length) (size := 1) (by simp [bools, HL.out.1, HL.out.2.2]) (by simp only [maxLen]; omega) 0 (Nat.zero_le _))
              rw [← HL.out.2.2, ← HL.out.1] at this
              rw [← HL.out.2.2, ← HL.out.1]
              exact this
            have HI1 := is_any _ _ E P1 HRO.out (HL.out.2.1 HP.out).1
            cases hv1 : isV E P1
            · rw [hv1] at HI1
              have HI1 := Lib.hid HI1
              have HV := Lib.hid hv1
              clear hv1
              go_wp2_with fail
              refine HI1.out.mono ?_
              rintro e w' ⟨rfl, rfl⟩
              go_wp2_with fail
              go_roundw
              case rel =>
                refine ⟨k + 1, by omega, by go_num, ?_, (HR.out.2.setCell (Nat.le_refl _) _).alloc (by simp; omega) _⟩
                rw [hE'.out, hnext.out, if_neg HP.out, HV.out, ← bools_set]
                exact (HR.out.1.set k _).alloc _
              case measure => simp [intOf]; omega
            · rw [hv1] at HI1
              have HI1 := Lib.hid HI1
              have HV := Lib.hid hv1
              have HI2 := Lib.hid (is_any _ _ E P2 HRO.out (HL.out.2.1 HP.out).2)
              clear hv1
              go_wp2_with fail
              refine HI1.out.mono ?_
              rintro e w' ⟨rfl, rfl⟩
              go_wp2_with fail
              refine HI2.out.mono ?_
              rintro e w' ⟨rfl, rfl⟩
              go_wp2_with fail
              go_roundw
              case rel =>
                refine ⟨k + 1, by omega, by go_num, ?_, (HR.out.2.setCell (Nat.le_refl _) _).alloc (by simp; omega) _⟩
                rw [hE'.out, hnext.out, if_neg HP.out, HV.out, ← bools_set]
                exact (HR.out.1.set k _).alloc _
              case measure => simp [intOf]; omega
        · obtain rfl : k = g.nodes.length := by omega
          clear hblk hbel
          go_wp2
          go_ret
          refine ⟨_, rfl, ?_, hB ▸ HR.out.2⟩
          have hev : evNodeTo g.nodes O g.nodes.length = gEval g ins := by rw [← HO.out.1]; rfl
          have hl := evNodeTo_length g.nodes O g.nodes.length
          have hO2 := HO.out.2
          have := RO.own (HR.out.1.own (n := g.nodes.length) (size := 1) (by simp [bools]; omega) (by simp only [maxLen]; omega) 0 (Nat.zero_le _))
          rw [hev] at this hl
          rw [show (gEval g ins).length = g.nodes.length by omega]
          exact this
end Go.Proofs.Ytoccghbkfnalgaa
