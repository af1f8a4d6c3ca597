import Derived.Test.YtonippdileikbaaA16
import Derived.Deep.RegionHeld3
namespace Go.Proofs.Ytonippdileikbaa
set_option linter.unusedVariables false
open Go.RowKit

theorem Below.of_grown {B : Nat} {w w' : World} {r : Option Nat} (h : w.grownBy w' r) (hB : B ≤ w.heap.size) (hr : ∀ k, r = some k → B ≤ k) : Below B w w' := (Below.refl B w).grown h hB hr

set_option maxHeartbeats 2000000 in
theorem new_rest {w : World} (v : Value) (fs : List Fil) (hr : RO w v 2 fs.length (filCells fs)) (hl : fs.length ≤ 16) (hsz : ∀ i, i < fs.length → (fs.getD i default).name.size ≤ maxLen) (htz : ∀ i, i < fs.length → (fs.getD i default).text.size ≤ 140737488355328) (hbad : ¬ badName fs) : Calls Try.prog 10 #[v] w (NewPost w fs) := by
  have HC := Lib.hid (contains_any v fs hr (by omega) hsz)
  obtain ⟨p, c, rfl⟩ := hr.form
  have h1 : (fs.length : Int) ≤ 16 := by omega
  have HH := Lib.hid (And.intro hl (And.intro hbad (And.intro hr (And.intro hsz htz))))
  clear hr hl hsz hbad htz
  go_enter Try.func10, Try.ntmps10
  go_wp2_with fail
  refine HC.out.mono ?_; rintro e w1 ⟨r, hf, rfl, hb⟩
  have hd : decide (0 ≤ r) = false := by
    rcases Int.lt_or_le r 0 with h | h
    · simpa using h
    · obtain ⟨j, hj, hfj, _⟩ := hf.some h
      exact absurd ⟨j, hj, by simpa using hfj⟩ HH.out.2.1
  rw [hd]
  have HB := Lib.hid hb
  clear hf hd hb HC
  go_wp2_with fail
  have K0 : Hid (New1 w w.heap.size w1.heap.size fs 0 (w1.alloc (Obj.cells #[Value.slice none 0 0] 62))) := Lib.hid ⟨⟨.slice none 0 0, Blk.new 62 _, World.ownsRow_nil _ _ _ _, by simp [Value.ownBlock]⟩, HB.out.alloc HB.out.size _, HB.out.size, fun i j hj hi => absurd hi (Nat.not_lt_zero _)⟩
  generalize hbt : w1.heap.size = bt at *
  go_loopw [5, 19] (fun s i wr => ∃ k : Nat, k ≤ fs.length ∧ i = .int .i64 k ∧ s = .int .i64 (min (total (fs.take k)) 32769) ∧ New1 w w.heap.size bt fs k wr) (fun _ i _ => fs.length - (intOf i).toNat)
  case atStart => exact ⟨0, Nat.zero_le _, rfl, rfl, K0.out⟩
  case round =>
    obtain ⟨k, hk, rfl, rfl, hN⟩ := hrel
    by_cases hlt : k < fs.length
    · obtain ⟨bb, o, rfl⟩ := HH.out.2.2.1.sl (fils_at fs k hlt).1
      obtain ⟨⟨u, hT⟩, hbel, hBt, hnd⟩ := hN
      have hro := HH.out.2.2.1.below hbel
      have f0 := hro.cell (fils_at fs k hlt).1
      have f1 := hro.cell (fils_at fs k hlt).2
      rw [← Nat.add_assoc] at f1
      have htk := total_take fs k hlt
      have hraw := raw_take fs k hlt
      have hrl := raw_len fs k (by omega)
      have hsn := HH.out.2.2.2.1 k hlt
      have hst := HH.out.2.2.2.2 k hlt
      have hbtl := hT.blk.lt
      have HT : Hid (∀ o, TabOwn w.heap.size bt u (rawParts (fs.take k)) (wr.alloc o)) := Lib.hid fun o => hT.below ((Below.refl _ _).alloc (Nat.le_refl _) _)
      have HF := Lib.hid (fun o => find_any ((HT.out o).tab) (fs.getD k default).name (by omega))
      generalize hP : fs.getD k default = P at *
      have HP := Lib.hid hP
      obtain ⟨nm, tx⟩ := P
      dsimp only at f0 f1 htk hst hsn HF
      have HX := Lib.hid (And.intro htk (And.intro hraw (And.intro hrl (And.intro hbel (And.intro hBt (And.intro hnd (And.intro hsn hst)))))))
      clear hro hT hbel hBt hnd htk hraw hrl hP hsn hst
      go_wp2_with fail
      refine (HF.out _).mono ?_; rintro e w2 ⟨r, hf, rfl, hb⟩
      have hr1 : -1 ≤ r ∧ r ≤ 100000 := by
        have := HX.out.2.2.1
        rcases hf with ⟨i, h1, _, _, rfl⟩ | ⟨_, rfl⟩ <;> omega
      obtain ⟨hr1, hr2⟩ := hr1
      have HFR := Lib.hid (And.intro hf hb)
      clear hf hb
      have HKl := Lib.hid hlt
      by_cases hr0 : 0 ≤ r
      · go_wp2_with fail
        go_ret2
        obtain ⟨j, hj, hfj, _⟩ := HFR.out.1.some hr0
        rw [HX.out.2.2.1] at hj
        rw [raw_get fs k j (by omega) hj] at hfj
        exact ⟨10, _, .inr (.inr (.inl ⟨HH.out.1, HH.out.2.1, ⟨k, j, hj, HKl.out, by rw [HP.out]; exact hfj⟩, rfl⟩)), rfl, Below.then (HX.out.2.2.2.1.alloc HX.out.2.2.2.1.size _) HFR.out.2 (Nat.le_refl _), fun _ => rfl, fun h => by cases h⟩
      · have hr3 : r < 0 := by omega
        have hsz := HFR.out.2.size
        rw [World.size_alloc] at hsz
        have hTw := (HT.out (Obj.cells #[Value.string nm, Value.string tx] 34)).below HFR.out.2
        have hkf : Blk w2 wr.heap.size 34 [.string nm, .string tx] := (Blk.new 34 [.string nm, .string tx]).below HFR.out.2 (by rw [World.size_alloc]; omega)
        have hbel2 : Below wr.heap.size wr w2 := Below.then ((Below.refl _ _).alloc (Nat.le_refl _) _) HFR.out.2 (Nat.le_refl _)
        have hct := hTw.blk.cell (i := 0) rfl
        have hcf0 := hkf.cell (i := 0) rfl
        have hcf1 := hkf.cell (i := 1) rfl
        have hff := hTw.blk.frz 0
        have HY := Lib.hid (And.intro hTw (And.intro hkf hbel2))
        have HKb : Hid (Below w.heap.size w w2) := Lib.hid (HX.out.2.2.2.1.trans (hbel2.mono (by have := HX.out.2.2.2.1.size; omega)))
        have hM0 : 0 ≤ (min (total (fs.take k) : Int) 32769) ∧ (min (total (fs.take k) : Int) 32769) ≤ 32769 := by omega
        have htx : (tx.size : Int) ≤ 140737488355328 := by have := HX.out.2.2.2.2.2.2.2; omega
        have hM1 : min (total (fs.take (k + 1)) : Int) 32769 = min (min (total (fs.take k) : Int) 32769 + tx.size) 32769 := by have := HX.out.1; omega
        have HM := Lib.hid hM1
        clear hM1
        generalize (min (total (fs.take k) : Int) 32769) = M at *
        obtain ⟨hM0, hM2⟩ := hM0
        clear hTw hkf hbel2
        by_cases hMt : M + tx.size ≤ 32769
        all_goals
          go_wp2_with fail
          generalize hM3 : M + (tx.size : Int) = M' at *
          have HM3 := Lib.hid hM3
          clear hM3
          have hkeep : Hid (∀ g cap w3, App w.heap.size 65 3 (w2.alloc (Obj.cells #[.string nm, .string tx, .slice none 0 0] 65)).drew u k 1 (partCells (rawParts (fs.take k)) ++ [.string nm, .string tx, .slice none 0 0]) g cap w3 → w3.heap[bt]? = w2.heap[bt]?) := Lib.hid fun g cap w3 happ =>
            (happ.old (by show bt < (w2.alloc _).heap.size; rw [World.size_alloc]; omega) HY.out.1.ne).trans (heap_alloc_old _ _ (by omega))
          have HO : Hid ((w2.alloc (Obj.cells #[.string nm, .string tx, .slice none 0 0] 65)).drew.ownsRow w.heap.size 65 3 u k (partCells (rawParts (fs.take k)))) := by
            have := HY.out.1.own
            rw [HX.out.2.2.1] at this
            exact Lib.hid (this.alloc _)
          obtain ⟨hBw⟩ : Nonempty (w.heap.size ≤ w2.heap.size) := ⟨by have := HX.out.2.2.2.1.size; omega⟩
          have hk16 : k ≤ 16 := by omega
          have hbt2 : bt < w2.heap.size := by omega
          have hwr2 : wr.heap.size < w2.heap.size := by omega
          go_region_law (refine step_app rfl _ _ 60 rfl Try.T60 w.heap.size _ _ _ rfl HO.out w2.heap.size 1 1 _ rfl _ (heap_alloc_new w2 _) rfl rfl (by simp [Value.oneCell']) Nat.one_pos (by omega) (by omega) (by simp; omega) ?_; intro g3 cap3 w3 happ; have e3 := hkeep.out _ _ _ happ; have hc3 := (World.cell?_of_block (a := ⟨bt, 0, none⟩) e3).trans hct; have hf3 := (World.frozen?_of_block (a := ⟨bt, 0, none⟩) e3).trans hff; have H3 := Lib.hid happ; clear happ e3)
          all_goals
            go_wp2_with fail
            go_roundw
            case rel => exact ⟨k + 1, by omega, by go_num, by rw [HM.out]; congr 1; omega, New1.step HKl.out HP.out HY.out.1 HKb.out HX.out.2.2.2.2.1 HX.out.2.2.2.2.2.1 (fun j hj => HFR.out.1.none hr3 j (by rw [HX.out.2.2.1]; exact hj)) H3.out⟩
            case measure => simp [intOf]; omega
    · obtain rfl : k = fs.length := by omega
      clear hlt
      have HN := Lib.hid hN
      have HHt := Lib.hid (List.take_length (l := fs))
      have hM0 : 0 ≤ (min (total (fs.take fs.length) : Int) 32769) ∧ (min (total (fs.take fs.length) : Int) 32769) ≤ 32769 := by omega
      have hM1 : min (total fs : Int) 32769 = min (total (fs.take fs.length) : Int) 32769 := by rw [List.take_length]
      generalize (min (total (fs.take fs.length) : Int) 32769) = M at *
      have HM := Lib.hid hM1
      clear hM1 hN
      obtain ⟨hM0, hM2⟩ := hM0
      by_cases hMt : M ≤ 32768
      · obtain ⟨⟨v, hT⟩, hbel, hBt, hnd⟩ := HN.out
        have hrl := raw_len fs fs.length (Nat.le_refl _)
        rw [List.take_length] at hT hrl
        obtain ⟨sp, sc, rfl⟩ := ownsRow_form hT.own
        rw [hrl] at hT
        have hct := hT.blk.cell (i := 0) rfl
        have K2 : Hid (New2 w w.heap.size bt (.slice sp fs.length sc) fs 0 wr) := Lib.hid (New2.start hbel hBt hT)
        have htot : Hid (total fs ≤ 32768) := Lib.hid (by have := HM.out; omega)
        clear hT hbel hBt hnd hrl HHt
        go_wp2_with fail
        clear hct
        go_loopw [53] (fun i wr => ∃ k : Nat, k ≤ fs.length ∧ i = .int .i64 k ∧ New2 w w.heap.size bt (.slice sp fs.length sc) fs k wr) (fun i _ => fs.length - (intOf i).toNat)
        case atStart => exact ⟨0, Nat.zero_le _, rfl, K2.out⟩
        case round =>
          obtain ⟨k, hk, rfl, hN⟩ := hrel
          by_cases hlt : k < fs.length
          · obtain ⟨b2, hBt2, ps, hT, hpl, hpn, hst⟩ := hN
            have hN' := Lib.hid (New2.mk b2 hBt2 ⟨ps, hT, hpl, hpn, hst⟩)
            have hro := RO.own hT.own
            rw [hpl] at hro
            obtain ⟨g, og, rfl⟩ := hro.sl (parts_at ps k (by omega)).1
            have hg0 : og = 0 := by
              rcases hT.own.2 with ⟨h, _⟩ | ⟨g', cap', cur, h, _⟩
              · cases h
              · simp only [Value.slice.injEq, Option.some.injEq, Addr.mk.injEq] at h; exact h.1.2.1
            subst hg0
            have p0 := hro.cell (parts_at ps k (by omega)).1
            have p1 := hro.cell (parts_at ps k (by omega)).2.1
            have p2 := hro.cell (parts_at ps k (by omega)).2.2
            rw [Nat.zero_add] at p0 p1 p2
            obtain ⟨hnk, htk⟩ := hpn k hlt
            rw [hnk] at p0
            rw [htk] at p1
            dsimp only [Part.st] at p2
            have hct := hT.blk.cell (i := 0) rfl
            have hbtl := hT.blk.lt
            have hgl : g < wr.heap.size := (hT.own.lt g rfl).2
            have hgf : wr.frozen? ⟨g, k * 3 + 2, none⟩ = false := by
              rcases hT.own.2 with ⟨h, _⟩ | ⟨g', cap', cur, h, _, h4, _⟩
              · cases h
              · simp only [Value.slice.injEq, Option.some.injEq, Addr.mk.injEq] at h
                obtain ⟨⟨rfl, _⟩, _⟩ := h
                simp [World.frozen?, h4]
            have htx : (fs.getD k default).text.size ≤ 32768 := Nat.le_trans (text_le fs k hlt) htot.out
            generalize hQ : (ps.getD k default).sp = qp at *
            generalize hQ2 : (ps.getD k default).sn = qn at *
            generalize hQ3 : (ps.getD k default).sc = qc at *
            have hgbt : g ≠ bt := fun e => hT.ne (by simp [Value.ownBlock, e])
            have hgw : g ≠ wr.heap.size := by omega
            clear hQ hQ2 hQ3 hnk htk hpn hst hpl hro hT
            have HL := Lib.hid (fun w => lines_own (fs.getD k default).text w (by omega))
            have HTX := Lib.hid htx
            clear htx
            generalize hP : fs.getD k default = P at *
            obtain ⟨nm, tx⟩ := P
            have HP := Lib.hid hP
            clear hP
            dsimp only at p0 p1 HL
            go_wp2_with fail
            have kb : Blk (wr.alloc (Obj.cells #[.string nm, .string tx, .slice qp qn qc] 65)).drew wr.heap.size 65 [.string nm, .string tx, .slice qp qn qc] := Blk.new 65 _
            have hct1 : (wr.alloc (Obj.cells #[.string nm, .string tx, .slice qp qn qc] 65)).drew.cell? ⟨bt, 0, none⟩ = some (.slice (some ⟨g, 0, none⟩) fs.length sc) := (World.cell?_of_block (a := ⟨bt, 0, none⟩) (heap_alloc_old _ _ hbtl)).trans hct
            have hgc1 : (wr.alloc (Obj.cells #[.string nm, .string tx, .slice qp qn qc] 65)).drew.cell? ⟨g, k * 3 + 2, none⟩ = some (.slice qp qn qc) := (World.cell?_of_block (a := ⟨g, k * 3 + 2, none⟩) (heap_alloc_old _ _ hgl)).trans p2
            have hgf1 : (wr.alloc (Obj.cells #[.string nm, .string tx, .slice qp qn qc] 65)).drew.frozen? ⟨g, k * 3 + 2, none⟩ = false := (World.frozen?_of_block (a := ⟨g, k * 3 + 2, none⟩) (heap_alloc_old _ _ hgl)).trans hgf
            have hb1 : Below wr.heap.size wr (wr.alloc (Obj.cells #[.string nm, .string tx, .slice qp qn qc] 65)).drew := ((Below.refl _ _).alloc (Nat.le_refl _) _).drew
            have hs1 : (wr.alloc (Obj.cells #[.string nm, .string tx, .slice qp qn qc] 65)).drew.heap.size = wr.heap.size + 1 := by show (wr.alloc _).heap.size = _; rw [World.size_alloc]
            have c1 := kb.cell (i := 1) (u := .string tx) rfl
            generalize hW1 : wr.alloc (Obj.cells #[.string nm, .string tx, .slice qp qn qc] 65) = W0 at *
            have HW := Lib.hid (And.intro hb1 hs1)
            clear kb hb1 hs1 hW1
            go_region_held3 (fun w' => w'.cell? ⟨bt, 0, none⟩ = some (.slice (some ⟨g, 0, none⟩) fs.length sc) ∧ w'.cell? ⟨wr.heap.size, 1, none⟩ = some (.string tx))
              (first | exact ⟨hct1, c1⟩ | exact ⟨hct3, hc13⟩ | exact ⟨(World.cell?_setCell_far _ _ _ _ hgbt).trans hct3, (World.cell?_setCell_far _ _ _ _ hgw).trans hc13⟩)
              ((go_at_call 27; refine (HL.out _).mono ?_; rintro e w3 ⟨sv, rfl, hsv, hb3⟩; have hct3 := (hb3.cell (World.block_lt_of_cell? _ _ hct1)).trans hct1; have hgc3 := (hb3.cell (World.block_lt_of_cell? _ _ hgc1)).trans hgc1; have hc13 := (hb3.cell (World.block_lt_of_cell? _ _ c1)).trans c1; have hgf3 := (hb3.frozen (World.block_lt_of_cell? _ _ hgc1)).trans hgf1; obtain ⟨ssp, ssc, rfl⟩ := ownsRow_form hsv; have HS := Lib.hid (And.intro hsv hb3); clear hsv hb3))
            go_wp2_with fail
            go_roundw
            case rel => exact ⟨k + 1, by omega, by go_num, New2.step hlt hN'.out (HW.out.1.trans (HS.out.2.mono (by have := HW.out.2; omega))) (by rw [HP.out]; exact ownsRow_mono HS.out.1 (by have := HW.out.2; omega))⟩
            case measure => simp [intOf]; omega
          · obtain rfl : k = fs.length := by omega
            clear hlt
            have HN2 := Lib.hid hN
            clear hN
            go_wp2_with fail
            go_ret2
            exact ⟨0, _, .inr (.inr (.inr (.inr ⟨HH.out.1, HH.out.2.1, fun ⟨i, j, hj, hi, h⟩ => (by rw [HN.out.nodup i j hj hi] at h; cases h), htot.out, rfl⟩))), rfl, HN2.out.bel, fun h => absurd rfl h, fun _ => HN2.out.made htot.out⟩
      · have hMt' : 32768 < M := by omega
        go_wp2_with fail
        go_ret2
        refine ⟨4, _, .inr (.inr (.inr (.inl ⟨HH.out.1, HH.out.2.1, ?_, ?_, rfl⟩))), rfl, HN.out.bel, fun _ => rfl, fun h => by cases h⟩
        · rintro ⟨i, j, hj, hi, h⟩
          rw [HN.out.nodup i j hj hi] at h; cases h
        · have := HM.out; omega
end Go.Proofs.Ytonippdileikbaa
