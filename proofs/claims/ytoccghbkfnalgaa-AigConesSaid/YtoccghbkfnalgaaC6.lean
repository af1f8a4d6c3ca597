import Derived.Test.YtoccghbkfnalgaaC5
import Derived.Test.YtoccghbkfnalgaaB9
import Derived.Test.YtoccghbkfnalgaaP9
namespace Go.Proofs.Ytoccghbkfnalgaa
set_option linter.unusedVariables false
open Go.RowKit

theorem Upd.blk {F F' : Nat → Prop} {w w' : World} (h : Upd F F' w w') {b t l} (hb : Blk w b t l) (hn : ¬ F b) : Blk w' b t l := by
  have := hb.lt
  unfold Blk at *; rw [h.block b this hn]; exact hb

set_option maxRecDepth 100000 in
set_option maxHeartbeats 2000000 in
theorem cone_any (w : World) (bg : Nat) (F : Nat → Prop) (g : G) (vl : Value) (lits : List Int) (hG : HasG w bg F g) (hw : WF g) (hlen : g.nodes.length ≤ 1000) (hv : RO w vl 1 lits.length (ints lits)) (hll : lits.length ≤ 1000)
    (hlb : ∀ k, k < lits.length → lits.getD k 0 < 2^62) :
    Calls Try.prog 21 #[.pointer (some ⟨bg, 0, none⟩), vl] w fun e w' => ∃ v, e = .returned v ∧ RO w' v 1 (gCone g lits).length (ints (gCone g lits)) ∧ Below w.heap.size w w' := by
  obtain ⟨vn, vi, bm, hG, rfl⟩ := hG
  have hrn := RO.own hG.hn
  obtain ⟨pn, cn, rfl⟩ := hrn.form
  obtain ⟨pv, cv, rfl⟩ := hv.form
  have hmk := mk_bools g.nodes.length (by omega)
  have hbg := hG.lt bg (.inl rfl)
  have hc0 := hG.cell0
  have hn1 : (g.nodes.length : Int) ≤ 1000 := by omega
  have hi1 : (lits.length : Int) ≤ 1000 := by omega
  have hp1 : (0 : Int) < g.nodes.length := by have := hw.pos; omega
  have H := Lib.hid (And.intro hG (And.intro hrn (And.intro hv (And.intro hw hlb))))
  clear hG hrn hv hw hlb hlen hll
  go_enter Try.func21, Try.ntmps21
  go_wp2
  generalize hB : w.heap.size = B at *
  go_loopw [19] (fun i wr => ∃ k : Nat, k ≤ lits.length ∧ i = .int .i64 k ∧ Blk wr B 4 (bools (rootsTo g lits k)) ∧ Below B w wr) (fun i _ => lits.length - (intOf i).toNat)
  case atStart => exact ⟨0, Nat.zero_le _, rfl, hB ▸ Blk.new _ _, hB ▸ (Below.refl _ _).alloc (Nat.le_refl _) _⟩
  case round =>
    obtain ⟨k, hk, rfl, hblk, hbel⟩ := hrel
    have HR := Lib.hid (And.intro hblk hbel)
    by_cases hlt : k < lits.length
    · obtain ⟨bi, oi, rfl⟩ := H.out.2.2.1.sl (ints_at lits k hlt)
      have hci := (H.out.2.2.1.below (hB ▸ hbel)).cell (ints_at lits k hlt)
      have hlb := H.out.2.2.2.2 k hlt
      have hsucc := rootsTo_succ g lits k
      have hrl := rootsTo_length g lits k
      have hGr : HasG wr bg (foot bg (.slice pn g.nodes.length cn) vi bm) g := ⟨_, _, _, H.out.1.below (hB ▸ hbel), rfl⟩
      have hcells : ∀ x : Int, 0 ≤ x → x / 2 < g.nodes.length → wr.cell? ⟨B, (x / 2).toNat, none⟩ = some (.bool ((rootsTo g lits k).getD (x / 2).toNat false)) := fun x h0 h1 => hblk.cell (bools_at _ _ (by omega))
      have hfr := hblk.frz
      have HS := Lib.hid (And.intro hsucc (And.intro hcells (And.intro hfr hGr)))
      clear hblk hbel hsucc hrl hcells hfr hGr
      generalize lits.getD k 0 = X at *
      by_cases hX : 0 ≤ X ∧ X / 2 < g.nodes.length
      · obtain ⟨hX0, hX1⟩ := hX
        have hl := Lib.hid (lit_good HS.out.2.2.2 (by omega) X ⟨hX0, hX1⟩)
        have hc := HS.out.2.1 X hX0 hX1
        have hf := HS.out.2.2.1 (X / 2).toNat
        generalize (rootsTo g lits k).getD (X / 2).toNat false = Y at *
        go_wp2_with fail
        refine hl.out.mono ?_; rintro e w' ⟨rfl, rfl⟩
        go_wp2_with fail
        go_roundw
        case rel =>
          refine ⟨k + 1, by omega, by go_num, ?_, HR.out.2.setCell (Nat.le_refl _) _⟩
          rw [HS.out.1, if_pos ⟨hX0, hX1⟩, ← bools_set]
          exact HR.out.1.set _ _
        case measure => simp [intOf]; omega
      · have hl := Lib.hid (lit_bad HS.out.2.2.2 (by omega) X hlb hX)
        have hX := Lib.hid hX
        go_wp2_with fail
        refine hl.out.mono ?_; rintro e w' ⟨rfl, rfl⟩
        go_wp2_with fail
        go_roundw
        case rel =>
          refine ⟨k + 1, by omega, by go_num, ?_, HR.out.2⟩
          rw [HS.out.1, if_neg hX.out]
          exact HR.out.1
        case measure => simp [intOf]; omega
    · obtain rfl : k = lits.length := by omega
      clear hblk hbel
      go_wp2_with fail
      generalize hS0 : rootsTo g lits lits.length = S0 at *
      have hS0l : S0.length = g.nodes.length := by rw [← hS0, rootsTo_length]
      have HS0 := Lib.hid (And.intro hS0 hS0l)
      have HR0 := Lib.hid HR.out
      clear hS0 hS0l HR
      go_loopw [8, 9] (fun v i wr => ∃ j : Nat, j ≤ g.nodes.length - 1 ∧ i = .int .i64 ((g.nodes.length : Int) - 1 - j) ∧ wr.ownsRow (B + 1) 3 1 v (coneOut g S0 j).length (ints (coneOut g S0 j)) ∧ Blk wr B 4 (bools (coneTo g S0 j)) ∧ Below B w wr) (fun _ i _ => (intOf i).toNat)
      case atStart => exact ⟨0, Nat.zero_le _, by go_num, World.ownsRow_nil _ _ _ _, HR0.out.1, HR0.out.2⟩
      case round =>
        obtain ⟨j, hj, rfl, hown, hblk, hbel⟩ := hrel
        have HR := Lib.hid (And.intro hown (And.intro hblk hbel))
        have hBw : B < wr.heap.size := hblk.lt
        obtain ⟨n, hn, hn2⟩ : ∃ n : Nat, (g.nodes.length : Int) - 1 - j = n ∧ n = g.nodes.length - 1 - j := ⟨g.nodes.length - 1 - j, by omega, rfl⟩
        rw [hn]
        by_cases hlt : j < g.nodes.length - 1
        · have hn0 : (0 : Int) < n := by omega
          have hnl : (n : Int) < g.nodes.length := by omega
          have hSl : (coneTo g S0 j).length = g.nodes.length := by rw [coneTo_length]; exact HS0.out.2
          have hc := hblk.cell (bools_at (coneTo g S0 j) n (by omega))
          have hoj := coneOut_length g S0 j
          have h1 := coneTo_succ g S0 j
          have h2 := coneOut_succ g S0 j
          rw [← hn2] at h1 h2
          have HN := Lib.hid (And.intro h1 (And.intro h2 (And.intro hn hSl)))
          have HN2 := Lib.hid hn2
          clear h1 h2 hn hSl hn2
          by_cases hin : (coneTo g S0 j).getD n false = true
          · rw [hin] at hc
            have HI := Lib.hid hin
            obtain ⟨bn, on, rfl⟩ := H.out.2.1.sl (pairs_at g.nodes n (by omega)).1
            have hp0 := (H.out.2.1.below (hB ▸ hbel)).cell (pairs_at g.nodes n (by omega)).1
            have hp1 := (H.out.2.1.below (hB ▸ hbel)).cell (pairs_at g.nodes n (by omega)).2
            rw [← Nat.add_assoc] at hp1
            have hcb0 : wr.cell? ⟨bg, 0, none⟩ = some (.slice (some ⟨bn, on, none⟩) g.nodes.length cn) := (hbel.cell (p := ⟨bg, 0, none⟩) hbg).trans hc0
            have hnode := H.out.2.2.2.1.node n (by omega)
            obtain ⟨P1, P2, hP⟩ : ∃ a b, g.nodes.getD n (0, 0) = (a, b) := ⟨_, _, rfl⟩
            rw [hP] at hp0 hp1 hnode
            dsimp only at hp0 hp1 hnode
            have HP := Lib.hid hP
            have hbn := World.block_lt_of_cell? _ _ hp0
            have hbgw := World.block_lt_of_cell? _ _ hcb0
            have hbnB : bn ≠ B := by
              intro e
              have := World.block_lt_of_cell? _ _ (H.out.2.1.cell (pairs_at g.nodes n (by omega)).1)
              simp only at this; omega
            have hbnB2 : bn < B := by
              have := World.block_lt_of_cell? _ _ (H.out.2.1.cell (pairs_at g.nodes n (by omega)).1)
              simp only at this; omega
            have hn1' : (n : Int) < 1000 := by omega
            by_cases hP1 : P1 = -1
            · have hd : (P1 != -1) = false := by simp [hP1]
              have HP1 := Lib.hid hP1
              clear hP1 hnode hP
              go_wp2_with (at_builtin; go_must ((refine wpList_app rfl _ _ 25 rfl Try.T25 (B + 1) _ _ _ rfl (HR.out.1.alloc (Obj.cells #[Value.int IntKind.i64 n] 3)) _ 1 1 [_] rfl _ (new_at _ _ _ rfl) rfl rfl (by simp [Value.oneCell']) Nat.one_pos (by omega) (by omega) (by simp only [World.size_alloc]; omega) ?_); intro gk cap w3 happ; have hb3 : Below (B + 1) wr w3 := happ.below ((Below.refl _ _).alloc (by omega) _) (by simp only [World.size_alloc]; omega) (fun k hk => (HR.out.1.lt k hk).1); have c0' := (hb3.cell (p := ⟨bg, 0, none⟩) (by first | omega | (simp only; omega))).trans hcb0; have p0' := (hb3.cell (p := ⟨bn, on + n * 2, none⟩) (by first | omega | (simp only; omega))).trans hp0; have p1' := (hb3.cell (p := ⟨bn, on + n * 2 + 1, none⟩) (by first | omega | (simp only; omega))).trans hp1; have hbk := hblk.below hb3 (by omega); have HP3 := Lib.hid (And.intro happ (And.intro hb3 hbk)); have hsz := hb3.size; have hbnw3 : bn < w3.heap.size := (by omega); have hbgw3 : bg < w3.heap.size := (by omega); have hBw3 : B < w3.heap.size := (by omega); clear happ hb3 hbk hsz))
              go_roundw
              case rel =>
                refine ⟨j + 1, by omega, ?_, ?_, ?_, ?_⟩
                · have := HN.out.2.2.1; exact congrArg (Value.int .i64) (by omega)
                · have ho := HP3.out.1.own.alloc (Obj.cells #[Value.int IntKind.i64 P1, Value.int IntKind.i64 P2] 58)
                  rw [HN.out.2.1, if_pos HI.out, ints_snoc, List.length_append]
                  exact ho
                · rw [HN.out.1, coneStep, if_neg (fun h => h.2 (by rw [HP.out]; exact HP1.out))]
                  exact HP3.out.2.2.alloc _
                · exact (HR.out.2.2.trans (HP3.out.2.1.mono (by omega))).alloc (by omega) _
              case measure => simp [intOf]; omega
            · have hd : (P1 != -1) = true := by simp [hP1]
              obtain ⟨q1, q2, q3, q4⟩ := hnode hP1
              have r0 : 0 ≤ P1 := by omega
              have r1 : 0 ≤ P2 := by omega
              have r2 : P1 / 2 < (g.nodes.length : Int) := by omega
              have r3 : P2 / 2 < (g.nodes.length : Int) := by omega
              have r4 : (P1 / 2).toNat ≠ (P2 / 2).toNat := by unfold tnot at q4; split at q4 <;> omega
              have r5 : 0 ≤ P1 / 2 := by omega
              have r6 : 0 ≤ P2 / 2 := by omega
              have HP1 := Lib.hid hP1
              clear hP1 hnode hP q1 q2 q3 q4
              go_wp2_with (at_builtin; go_must ((refine wpList_app rfl _ _ 25 rfl Try.T25 (B + 1) _ _ _ rfl (HR.out.1.alloc (Obj.cells #[Value.int IntKind.i64 n] 3)) _ 1 1 [_] rfl _ (new_at _ _ _ rfl) rfl rfl (by simp [Value.oneCell']) Nat.one_pos (by omega) (by omega) (by simp only [World.size_alloc]; omega) ?_); intro gk cap w3 happ; have hb3 : Below (B + 1) wr w3 := happ.below ((Below.refl _ _).alloc (by omega) _) (by simp only [World.size_alloc]; omega) (fun k hk => (HR.out.1.lt k hk).1); have c0' := (hb3.cell (p := ⟨bg, 0, none⟩) (by first | omega | (simp only; omega))).trans hcb0; have p0' := (hb3.cell (p := ⟨bn, on + n * 2, none⟩) (by first | omega | (simp only; omega))).trans hp0; have p1' := (hb3.cell (p := ⟨bn, on + n * 2 + 1, none⟩) (by first | omega | (simp only; omega))).trans hp1; have hbk := hblk.below hb3 (by omega); have HP3 := Lib.hid (And.intro happ (And.intro hb3 hbk)); have hsz := hb3.size; have hbnw3 : bn < w3.heap.size := (by omega); have hbgw3 : bg < w3.heap.size := (by omega); have hBw3 : B < w3.heap.size := (by omega); have s1 := hbk.cell (bools_at (coneTo g S0 j) (P1 / 2).toNat (by have := HN.out.2.2.2; omega)); have s2 := hbk.cell (bools_at (coneTo g S0 j) (P2 / 2).toNat (by have := HN.out.2.2.2; omega)); have f1 := hbk.frz (P1 / 2).toNat; have f2 := hbk.frz (P2 / 2).toNat; clear happ hb3 hbk hsz))
              go_region
              all_goals go_wp2
              go_roundw
              case rel =>
                refine ⟨j + 1, by omega, ?_, ?_, ?_, ?_⟩
                · have := HN.out.2.2.1; exact congrArg (Value.int .i64) (by omega)
                · have ho := HP3.out.1.own
                  rw [HN.out.2.1, if_pos HI.out, ints_snoc, List.length_append]
                  refine ownsRow_keep ho (fun q hq => ?_)
                  have hqB := (ho.lt q hq).1
                  show (((w3.setCell _ _).setCell _ _).alloc _).heap[q]? = _
                  have hqw := (ho.lt q hq).2
                  rw [heap_alloc_old _ _ (by simp only [World.size_setCell]; exact hqw), Below.heap_setCell _ _ _ _ (by show q ≠ B; omega), Below.heap_setCell _ _ _ _ (by show q ≠ B; omega)]
                · rw [HN.out.1, coneStep, if_pos ⟨HI.out, by rw [HP.out]; exact HP1.out⟩, HP.out, ← bools_set, ← bools_set]
                  exact ((HP3.out.2.2.set _ _).set _ _).alloc _
                · exact ((((HR.out.2.2.trans (HP3.out.2.1.mono (by omega))).setCell (Nat.le_refl _) _).setCell (Nat.le_refl _) _).alloc (by simp only [World.size_setCell]; omega) _).drew
              case measure => simp [intOf]; omega
          · have hin' : (coneTo g S0 j).getD n false = false := by simpa using hin
            rw [hin'] at hc
            have HI := Lib.hid hin
            clear hin hin'
            go_wp2
            go_roundw
            case rel =>
              refine ⟨j + 1, by omega, ?_, ?_, ?_, HR.out.2.2⟩
              · have := HN.out.2.2.1; exact congrArg (Value.int .i64) (by omega)
              · rw [HN.out.2.1, if_neg HI.out]; exact HR.out.1
              · rw [HN.out.1, coneStep, if_neg (fun h => HI.out h.1)]; exact HR.out.2.1
            case measure => simp [intOf]; omega
        · have hn0 : (n : Int) ≤ 0 := by omega
          have hjj : j = g.nodes.length - 1 := by omega
          have hv8 := ownsRow_form hown
          have hlo := coneOut_length g S0 j
          have hcone : (coneOut g S0 j).reverse = gCone g lits := by rw [gCone, HS0.out.1, hjj]
          have HC := Lib.hid (And.intro hcone hlo)
          have hB2 := hbel.size
          clear hn hn2 hjj hblk hbel hcone hlo
          rcases hown.2 with ⟨hnil, hm0⟩ | ⟨g8, cap8, cur8, hv, hB8, hg8, hcap, hmax, hcs, htake⟩
          · subst hnil
            clear hown hv8
            go_wp2_with fail
            refine (reverse_nil wr).mono ?_; rintro e w' ⟨rfl, rfl⟩
            go_wp2_with fail
            go_ret
            refine ⟨_, rfl, ?_, hB ▸ HR.out.2.2⟩
            have h0 : coneOut g S0 j = [] := List.eq_nil_of_length_eq_zero hm0
            rw [← HC.out.1, h0]
            exact RO.own (World.ownsRow_nil wr 0 3 1)
          · have hblk8 : Blk wr g8 3 (ints (coneOut g S0 j) ++ cur8.toList.drop ((coneOut g S0 j).length * 1)) := by
              unfold Blk
              rw [hg8, ← htake, List.take_append_drop]
            have HV := Lib.hid (And.intro hblk8 hB8)
            subst hv
            clear hown hv8 hg8 hcs htake hblk8
            go_wp2_with fail
            refine (reverse_any wr g8 cap8 _ _ HV.out.1 (by have := HC.out.2; omega)).mono ?_
            rintro e w' ⟨rfl, hb9, hg9⟩
            have HF := Lib.hid (And.intro hb9 hg9)
            clear hb9 hg9
            go_wp2_with fail
            go_ret
            refine ⟨_, rfl, ?_, hB ▸ (HR.out.2.2.grown HF.out.2 (by omega) (fun q hq => by have h : some g8 = some q := hq; have := HV.out.2; simp at h; omega))⟩
            rw [← HC.out.1]
            refine ⟨by simp [ints], some ⟨g8, 0, none⟩, cap8, by simp, fun q u hu => ⟨g8, 0, rfl, ?_⟩⟩
            have hl : q < (ints (coneOut g S0 j).reverse).length := by
              rcases Nat.lt_or_ge q (ints (coneOut g S0 j).reverse).length with h | h
              · exact h
              · rw [List.getElem?_eq_none h] at hu; cases hu
            have := HF.out.1.cell (i := q) (u := u) (by rw [List.getElem?_append_left hl]; exact hu)
            simpa using this
end Go.Proofs.Ytoccghbkfnalgaa
