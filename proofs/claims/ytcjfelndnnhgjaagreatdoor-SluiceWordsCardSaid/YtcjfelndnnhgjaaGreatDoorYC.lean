/- Texts of this claim, one behind another: X9. They state lemmas; each names its own conditions. -/
import Derived.Test.YtcjfelndnnhgjaaGreatDoorYB
import Derived.Deep.RegionHeld3
import Derived.Deep.RegionLaw
import Derived.Deep.QuietTactic
namespace Go.Proofs.YtcjfelndnnhgjaaGreatDoor
set_option linter.unusedVariables false
open Go.RowKit Go.Maps

def lenAt (w : World) (g : Nat) : Nat := match w.cell? ⟨g, 0, none⟩ with
  | some (.string s) => s.size
  | _ => 0
theorem lenAt_of {w : World} {g : Nat} {s : ByteArray} (h : Blk w g 9 [.string s]) : lenAt w g = s.size := by
  unfold lenAt
  rw [h.cell (i := 0) rfl]
theorem plK_le {fx : Bool} {q : Nat × Nat} {X : ByteArray} {k : Nat} : (plK fx q X k).1 ≤ q.1 + X.size ∧ (plK fx q X k).2 ≤ q.2 + X.size := by
  unfold plK
  split
  · omega
  · have h := mvL_le (X.data.toList.take k) q
    have h2 : (X.data.toList.take k).length ≤ X.size := by
      have := List.length_take_le' k X.data.toList
      simpa using this
    omega
theorem PSt.move {base : Nat} {w : World} {gx gr ga gs : Nat} {f : Int} {fx : Bool} {q : Nat × Nat} {X : ByteArray} {ts : List Tk} {wr : World} {k : Nat} {v : Value} {ts' : List Tk} (h : PSt base w gx gr ga gs f fx q X ts wr k v ts') (F : Fxd base gx gr ga gs) (hX : X.size ≤ 100000) (hq : q.1 ≤ 1000000 ∧ q.2 ≤ 1000000) (m : Nat) (hm : k + m ≤ X.size) :
    Calls Tryz.prog 31 #[.int .i64 m, .pointer (some ⟨gx, 0, none⟩), .pointer (some ⟨ga, 0, none⟩), .pointer (some ⟨gs, 0, none⟩)] wr fun e w' => e = .returned (.tuple #[]) ∧ PSt base w gx gr ga gs f fx q X ts w' (k + m) v ts' := by
  have hpl := plK_le (fx := fx) (q := q) (X := X) (k := k)
  refine (step_any (h.bx.cell (i := 4) rfl) h.ba h.bs F.ags (n := m) (by rw [ext_size]; omega) (by rw [ext_size]; omega) (by omega) (by omega)).mono ?_
  rintro e w' ⟨rfl, hu, ha, hs⟩
  rw [ext_ext] at hs
  rw [plK_add hm] at ha
  exact ⟨rfl, h.step F hu ha hs hm⟩
theorem PSt.res {base : Nat} {w : World} {gx gr ga gs : Nat} {f : Int} {fx : Bool} {q : Nat × Nat} {X : ByteArray} {ts : List Tk} {wr : World} {k : Nat} {v : Value} {ts' : List Tk} (h : PSt base w gx gr ga gs f fx q X ts wr k v ts') (F : Fxd base gx gr ga gs) (x y z : Value) :
    Below base w (((wr.setCell ⟨gr, 0, none⟩ x).setCell ⟨gr, 1, none⟩ y).setCell ⟨gr, 2, none⟩ z) ∧ (((wr.setCell ⟨gr, 0, none⟩ x).setCell ⟨gr, 1, none⟩ y).setCell ⟨gr, 2, none⟩ z).ownsRow base 41 5 v ts'.length (tksCells ts') ∧ Blk (((wr.setCell ⟨gr, 0, none⟩ x).setCell ⟨gr, 1, none⟩ y).setCell ⟨gr, 2, none⟩ z) gr 32 [x, y, z] :=
  ⟨((h.below.setCell (p := ⟨gr, 0, none⟩) F.b2 x).setCell (p := ⟨gr, 1, none⟩) F.b2 y).setCell (p := ⟨gr, 2, none⟩) F.b2 z,
   ownsRow_keep h.own fun j hj => by
     have hne : j ≠ gr := fun e => h.nr (e ▸ hj)
     rw [Below.heap_setCell _ _ _ _ hne, Below.heap_setCell _ _ _ _ hne, Below.heap_setCell _ _ _ _ hne],
   ((h.br.set 0 x).set 1 y).set 2 z⟩
theorem ext_end {X : ByteArray} : X.extract X.size X.size = ⟨#[]⟩ := by apply ByteArray.ext; simp
theorem str_some {s : ByteArray} (h : 0 < s.size) : ¬ s.toList = [] ∧ s.toList.isEmpty = false := L.str_ne h
theorem plK_zero {fx : Bool} {q : Nat × Nat} {X : ByteArray} : plK fx q X 0 = q := by unfold plK; cases fx <;> rfl
theorem ext_all {X : ByteArray} : X.extract 0 X.size = X := by apply ByteArray.ext; simp
theorem PSt.start {base : Nat} {w W W3 : World} {v : Value} {ts : List Tk} {f : Int} {fx : Bool} {L C : Nat} {X : ByteArray} {gs ga : Nat} (hown : w.ownsRow base 41 5 v ts.length (tksCells ts)) (hts : ts.length ≤ 12000) (hbase : base ≤ w.heap.size)
    (hb : Below w.heap.size w W) (hsz : W.heap.size = w.heap.size + 2) (hx : Blk W w.heap.size 67 [.string X, .int .i64 f, .int .i64 L, .int .i64 C, .bool fx]) (hr : Blk W (w.heap.size + 1) 32 [.int .i64 0, .int .i64 0, .int .i64 0])
    (hb3 : Below W.heap.size W W3) (ha : Blk W3 ga 32 [.int .i64 f, .int .i64 L, .int .i64 C]) (hs : Blk W3 gs 9 [.string X]) (h1 : w.heap.size + 2 ≤ gs) (h2 : w.heap.size + 2 ≤ ga) (hne : ga ≠ gs) :
    Fxd base w.heap.size (w.heap.size + 1) ga gs ∧ PSt base w w.heap.size (w.heap.size + 1) ga gs f fx (L, C) X ts W3 0 v ts := by
  have hall : Below w.heap.size w W3 := hb.trans (hb3.mono (by omega))
  have hlt := hown.lt
  refine ⟨⟨hbase, by omega, by omega, by omega, by omega, by omega, by omega, by omega, by omega, hne⟩, hall.mono hbase, ownsRow_below hown hall, hts, fun t h => .inl h, hx.next hb3, hr.next hb3, by rw [plK_zero]; exact ha, by rw [ext_all]; exact hs, fun e => ?_, fun e => ?_, fun e => ?_, fun e => ?_, Nat.zero_le _⟩
  all_goals have := (hlt _ e).2; omega
set_option maxRecDepth 100000 in
set_option maxHeartbeats 16000000 in
theorem piece_any {base : Nat} {w : World} {v : Value} {ts : List Tk} (hown : w.ownsRow base 41 5 v ts.length (tksCells ts)) (hts : ts.length ≤ 12000) (hbase : base ≤ w.heap.size) (f : Int) (fx : Bool) (L C : Nat) (X : ByteArray) (hX : X.size ≤ 100000) (hL : L ≤ 1000000) (hC : C ≤ 1000000) (hM : Max w) (hMb : 0 < base) :
    Calls Tryz.prog 18 #[v, .agg #[.string X, .int .i64 f, .int .i64 L, .int .i64 C, .bool fx]] w (PieceR base f fx (L, C) X ts w) := by
  have hb1 := Below.new w (.cells #[.string X, .int .i64 f, .int .i64 L, .int .i64 C, .bool fx] 67)
  have hb2 := Below.next hb1 (Below.new _ (.cells #[.int .i64 0, .int .i64 0, .int .i64 0] 32))
  have hk1 := (Blk.new (w := w) 67 [.string X, .int .i64 f, .int .i64 L, .int .i64 C, .bool fx]).next (Below.new _ (.cells #[.int .i64 0, .int .i64 0, .int .i64 0] 32))
  have hk2 := Blk.new (w := w.alloc (.cells #[.string X, .int .i64 f, .int .i64 L, .int .i64 C, .bool fx] 67)) 32 [.int .i64 0, .int .i64 0, .int .i64 0]
  simp only [World.size_alloc] at hk2
  have hsz : ((w.alloc (.cells #[.string X, .int .i64 f, .int .i64 L, .int .i64 C, .bool fx] 67)).alloc (.cells #[.int .i64 0, .int .i64 0, .int .i64 0] 32)).heap.size = w.heap.size + 2 := by simp only [World.size_alloc]
  go_enter Tryz.func18, Tryz.ntmps18
  go_upto_region 1 with fail
  rename_i K hK
  have HMe := Lib.hid (And.intro hM hMb)
  have core : ∀ (gx gr gs ga : Nat) (W2 : World), Fxd base gx gr ga gs → PSt base w gx gr ga gs f fx (L, C) X ts W2 0 v ts → Exit.then K (bodyPost Tryz.prog Tryz.f18 (PieceR base f fx (L, C) X ts w)) Exit.normal { tmps := #[v, Value.agg #[Value.string X, Value.int IntKind.i64 f, Value.int IntKind.i64 L, Value.int IntKind.i64 C, Value.bool fx], undef, Value.pointer (some ⟨gx, 0, none⟩), Value.slice none 0 0, Value.pointer (some ⟨gr, 0, none⟩), Value.int IntKind.i64 0, Value.pointer (some ⟨gs, 0, none⟩), Value.pointer (some ⟨ga, 0, none⟩), undef, undef, undef, undef, Value.pointer (some ⟨gx, 0, none⟩), Value.string X, Value.pointer (some ⟨gx, 1, none⟩), Value.agg #[Value.int IntKind.i64 f, Value.int IntKind.i64 L, Value.int IntKind.i64 C], undef, undef, undef, undef, undef, undef, undef, undef, undef, undef, undef, undef, undef, undef, undef, undef, undef, undef, undef, undef, undef, undef, undef, undef, undef, undef, undef, undef, undef, undef, undef, undef, undef, undef, undef, undef, undef, undef], defers := [] } W2 := by
    intro gx gr gs ga W2 hF hP
    have HF := Lib.hid hF
    have HX := Lib.hid hX
    have HLC := Lib.hid (And.intro hL hC)
    clear hown hts hbase hX hL hC hM hMb hb1 hb2 hk1 hk2 hsz
    go_wp2_with fail
    go_loopw [0] (fun v wr => ∃ k ts', PSt base w gx gr ga gs f fx (L, C) X ts wr k v ts') (fun _ wr => lenAt wr gs)
    case atStart => exact ⟨0, ts, hP⟩
    case round =>
      obtain ⟨k, ts', hS⟩ := hrel
      obtain ⟨p, c, rfl⟩ := ownsRow_form hS.own
      obtain ⟨n, hn⟩ : ∃ n, ts'.length = n := ⟨_, rfl⟩
      have HN := Lib.hid hn
      have HS := Lib.hid hS
      have t0 := hS.bs.cell (i := 0) rfl
      have HSp := Lib.hid (span_any piece2_ask (X.extract k X.size) (by have := HX.out; rw [ext_size]; omega) wr)
      rw [hn]
      clear hS hn hP
      go_wp2_with fail
      refine HSp.out.mono ?_; rintro e w' ⟨m, hm, _, _, rfl, rfl⟩
      rw [ext_size] at hm
      have hkm : k + m ≤ X.size := by have := HS.out.k; omega
      have HM := Lib.hid (HS.out.move HF.out HX.out HLC.out m hkm)
      have HL0 : Hid (lenAt wr gs = X.size - k) := Lib.hid (by rw [lenAt_of HS.out.bs, ext_size])
      clear hm HSp t0
      go_wp2_with fail
      refine HM.out.mono ?_; rintro e w1 ⟨rfl, hS1⟩
      have HS1 := Lib.hid hS1
      have t1 := hS1.bs.cell (i := 0) rfl
      clear HM HS
      by_cases hend : k + m = X.size
      · rw [hend, ext_end] at t1
        have r0 := hS1.br.cell (i := 0) rfl
        have r1 := hS1.br.cell (i := 1) rfl
        have r2 := hS1.br.cell (i := 2) rfl
        have y0 := hS1.br.frz 0
        have y1 := hS1.br.frz 1
        have y2 := hS1.br.frz 2
        clear hS1
        go_wp2_with fail
        obtain ⟨hb, ho, hk⟩ := HS1.out.res HF.out (.int .i64 0) (.int .i64 0) (.int .i64 0)
        have e0 := hk.cell (i := 0) rfl
        have e1 := hk.cell (i := 1) rfl
        have e2 := hk.cell (i := 2) rfl
        exact bodyPost_ret (v := .tuple #[.slice p n c, .agg #[.int .i64 0, .int .i64 0, .int .i64 0], .int .i64 0]) (by simp [results, Tryz.results18, go_sem, e0, e1, e2]) rfl ⟨_, 0, (0, 0, 0), rfl, hb, .inl ⟨rfl, rfl, ts', by rw [HN.out] at ho ⊢; exact ho, HS1.out.len, HS1.out.toks⟩⟩
      · obtain ⟨S2, hS2⟩ : ∃ S2, X.extract (k + m) X.size = S2 := ⟨_, rfl⟩
        have hz2 : S2.size = X.size - (k + m) := by rw [← hS2, ext_size]
        have hp2 : 0 < S2.size := by omega
        have HZ := Lib.hid (And.intro hS2 (And.intro hz2 hp2))
        rw [hS2] at t1
        have hs2 := str_some hp2
        have hMx : ∃ mx, w1.cell? ⟨0, 0, none⟩ = some (.int .i64 mx) := by
          obtain ⟨mx, hmx⟩ := HMe.out.1
          exact ⟨mx, (hS1.below.cell (p := ⟨0, 0, none⟩) HMe.out.2).trans hmx⟩
        have HW := Lib.hid (word_any S2 (by have := HX.out; omega) hp2 w1 hMx)
        clear hS1 hS2 hz2 hp2 hMx
        obtain ⟨hs2a, hs2b⟩ := hs2
        go_wp2_with fail
        refine HW.out.mono ?_; rintro e w2 ⟨kd, j, err, rfl, hok, hb2⟩
        have HT := Lib.hid (And.intro (HS1.out.next HF.out hb2) hok)
        have hn12 : (n : Int) ≤ 12000 := by have := HS1.out.len; have := HN.out; omega
        clear hb2 hok HW t1 HS1
        by_cases he : err = 0
        · subst he
          by_cases h12 : n = 12000
          · have h12i : (n : Int) = 12000 := by omega
            go_upto_region 10 with fail
            have hst := HT.out.1.next HF.out (Below.refl w2.heap.size w2).drew
            have a0 := hst.ba.cell (i := 0) rfl
            have a1 := hst.ba.cell (i := 1) rfl
            have a2 := hst.ba.cell (i := 2) rfl
            have y0 := hst.br.frz 0
            have y1 := hst.br.frz 1
            have y2 := hst.br.frz 2
            have r0 := hst.br.cell (i := 0) rfl
            have r1 := hst.br.cell (i := 1) rfl
            have r2 := hst.br.cell (i := 2) rfl
            have x1 := HT.out.1.br.cell (i := 1) rfl
            have x2 := HT.out.1.br.cell (i := 2) rfl
            have z1 := HT.out.1.br.frz 1
            have z2 := HT.out.1.br.frz 2
            have HST := HT.out.1
            have HST := Lib.hid HST
            clear hst
            go_region_law (fail)
            all_goals
              go_wp2_with fail
              obtain ⟨hb, ho, hk⟩ := HST.out.res HF.out (.int .i64 f) (.int .i64 (plK fx (L, C) X (k + m)).1) (.int .i64 (plK fx (L, C) X (k + m)).2)
              have e0 := hk.cell (i := 0) rfl
              have e1 := hk.cell (i := 1) rfl
              have e2 := hk.cell (i := 2) rfl
              exact bodyPost_ret (v := .tuple #[.slice none 0 0, .agg #[.int .i64 f, .int .i64 (plK fx (L, C) X (k + m)).1, .int .i64 (plK fx (L, C) X (k + m)).2], .int .i64 19]) (by simp [results, Tryz.results18, go_sem, e0, e1, e2]) rfl ⟨_, 19, (f, _, _), rfl, hb.drew, .inr ⟨by decide, rfl, k + m, hkm, rfl⟩⟩
          · have h12i : ¬ (n : Int) = 12000 := by omega
            go_upto_region 11 with fail
            have hst := HT.out.1.next HF.out (Below.refl w2.heap.size w2).drew
            have a0 := hst.ba.cell (i := 0) rfl
            have a1 := hst.ba.cell (i := 1) rfl
            have a2 := hst.ba.cell (i := 2) rfl
            have t2 := hst.bs.cell (i := 0) rfl
            rw [HZ.out.1] at t2
            obtain ⟨hj1, hj2, hj3⟩ := HT.out.2 trivial
            have hji : (j : Int) ≤ S2.size := by omega
            have hj0 : (0 : Int) ≤ j := by omega
            have hnN : n < 12000 := by omega
            have hW := (HT.out.1.next HF.out (Below.new w2 (.cells #[.int .i64 kd, .string (S2.extract 0 j), .int .i64 f, .int .i64 (plK fx (L, C) X (k + m)).1, .int .i64 (plK fx (L, C) X (k + m)).2] 41))).next HF.out (Below.refl _ _).drew
            have hown := hW.own
            rw [HN.out] at hown
            have hbl := hW.base_le HF.out
            have HJ := Lib.hid (And.intro hW (And.intro hj1 (And.intro hj2 hj3)))
            clear hst hW hj3
            go_region_law (refine step_app rfl _ _ 35 rfl TTks base (.slice p n c) n _ rfl hown w2.heap.size 1 1 _ rfl _ (heap_alloc_new w2 _) rfl rfl (by simp [Value.oneCell']) Nat.one_pos (by omega) (by omega) hbl ?_; intro g5 cap5 w5 happ; have H5 := Lib.hid happ; clear happ)
            all_goals
              obtain rfl := HN.out
              have hTk : TokIn f fx (L, C) X ⟨kd, S2.extract 0 j, f, (plK fx (L, C) X (k + m)).1, (plK fx (L, C) X (k + m)).2⟩ := by
                have hz := HZ.out
                have hkj : k + m + j ≤ X.size := by omega
                refine ⟨k + m, j, hj1, hkj, by rw [← hz.1]; exact ext_zero hkj, fun i hi h1 h2 => ?_, rfl, rfl, rfl⟩
                obtain ⟨d, rfl⟩ : ∃ d, i = k + m + d := ⟨i - (k + m), by omega⟩
                have h3 := HJ.out.2.2.2 d (by omega) (by omega)
                have h4 : d < (X.extract (k + m) X.size).size := by rw [ext_size]; omega
                have h5 := extract_get h4 hi
                rw [← h5]
                simp only [hz.1]
                exact h3 
              have hS5 := PSt.app HJ.out.1 HF.out (t := ⟨kd, S2.extract 0 j, f, (plK fx (L, C) X (k + m)).1, (plK fx (L, C) X (k + m)).2⟩) H5.out hTk (by omega)
              have HM5 := Lib.hid (hS5.move HF.out HX.out HLC.out j (by have := HZ.out; omega))
              clear hS5 hown hbl a0 a1 a2 t2
              go_wp2_with fail
              refine HM5.out.mono ?_; rintro e w6 ⟨rfl, hS6⟩
              have HS6 := Lib.hid hS6
              clear hS6 HM5 H5 HJ
              go_wp2_with fail
              go_roundw
              case rel => exact ⟨_, _, HS6.out⟩
              case measure =>
                have h1 := lenAt_of HS6.out.bs
                rw [ext_size] at h1
                rw [h1, HL0.out]
                have := HZ.out
                omega
        · go_upto_region 10 with fail
          have hst := HT.out.1.next HF.out (Below.refl w2.heap.size w2).drew
          have a0 := hst.ba.cell (i := 0) rfl
          have a1 := hst.ba.cell (i := 1) rfl
          have a2 := hst.ba.cell (i := 2) rfl
          have y0 := hst.br.frz 0
          have y1 := hst.br.frz 1
          have y2 := hst.br.frz 2
          have r0 := hst.br.cell (i := 0) rfl
          have r1 := hst.br.cell (i := 1) rfl
          have r2 := hst.br.cell (i := 2) rfl
          have x1 := HT.out.1.br.cell (i := 1) rfl
          have x2 := HT.out.1.br.cell (i := 2) rfl
          have z1 := HT.out.1.br.frz 1
          have z2 := HT.out.1.br.frz 2
          have HST := HT.out.1
          have HST := Lib.hid HST
          clear hst
          go_region_law (fail)
          all_goals
            go_wp2_with fail
            obtain ⟨hb, ho, hk⟩ := HST.out.res HF.out (.int .i64 f) (.int .i64 (plK fx (L, C) X (k + m)).1) (.int .i64 (plK fx (L, C) X (k + m)).2)
            have e0 := hk.cell (i := 0) rfl
            have e1 := hk.cell (i := 1) rfl
            have e2 := hk.cell (i := 2) rfl
            exact bodyPost_ret (v := .tuple #[.slice none 0 0, .agg #[.int .i64 f, .int .i64 (plK fx (L, C) X (k + m)).1, .int .i64 (plK fx (L, C) X (k + m)).2], .int .i64 err]) (by simp [results, Tryz.results18, go_sem, e0, e1, e2]) rfl ⟨_, err, (f, _, _), rfl, hb.drew, .inr ⟨he, rfl, k + m, hkm, rfl⟩⟩
  generalize (w.alloc (.cells #[.string X, .int .i64 f, .int .i64 L, .int .i64 C, .bool fx] 67)).alloc (.cells #[.int .i64 0, .int .i64 0, .int .i64 0] 32) = W at *
  have s0 : W.drew.cell? ⟨w.heap.size, 0, none⟩ = some (.string X) ∧ W.drew.cell? ⟨w.heap.size, 1, none⟩ = some (.int .i64 f) ∧ W.drew.cell? ⟨w.heap.size, 2, none⟩ = some (.int .i64 L) ∧ W.drew.cell? ⟨w.heap.size, 3, none⟩ = some (.int .i64 C) := ⟨hk1.drew.cell (i := 0) rfl, hk1.drew.cell (i := 1) rfl, hk1.drew.cell (i := 2) rfl, hk1.drew.cell (i := 3) rfl⟩
  have HK := Lib.hid (And.intro hk1 (And.intro hk2 hb2))
  have HO := Lib.hid (And.intro hown (And.intro hts (And.intro hM hMb)))
  clear hb1 hk1 hk2 hb2 hown hM hMb
  go_region_held3 (fun w' => w'.cell? ⟨w.heap.size, 0, none⟩ = some (.string X) ∧ w'.cell? ⟨w.heap.size, 1, none⟩ = some (.int .i64 f) ∧ w'.cell? ⟨w.heap.size, 2, none⟩ = some (.int .i64 L) ∧ w'.cell? ⟨w.heap.size, 3, none⟩ = some (.int .i64 C))
    (first | assumption | (repeat (first | exact s0 | exact px_alloc _ s0 | exact px_alloc _ (px_alloc _ s0) | refine px_set _ (by first | omega | (simp only [World.size_alloc]; omega)) ?_)))
    (fail)
  · obtain ⟨h1, h2⟩ := PSt.start (gs := w.heap.size + 2) (ga := w.heap.size + 2 + 1) (W3 := ((W.alloc (.cells #[.string X] 9)).alloc (.cells #[.int .i64 f, .int .i64 L, .int .i64 C] 32)).drew) HO.out.1 hts hbase HK.out.2.2 hsz HK.out.1 HK.out.2.1 (Below.next (Below.new _ _) (Below.new _ _)).drew
      (by have h := Blk.new (w := W.alloc (.cells #[.string X] 9)) 32 [.int .i64 f, .int .i64 L, .int .i64 C]; rw [World.size_alloc, hsz] at h; exact h.drew)
      (by have h := (Blk.new (w := W) 9 [.string X]).next (Below.new _ (.cells #[.int .i64 f, .int .i64 L, .int .i64 C] 32)); rw [hsz] at h; exact h.drew) (by omega) (by omega) (by omega)
    exact core _ _ _ _ _ h1 h2
  · obtain ⟨h1, h2⟩ := PSt.start (ga := w.heap.size + 2) (gs := w.heap.size + 2 + 1) (W3 := ((W.alloc (.cells #[.int .i64 f, .int .i64 L, .int .i64 C] 32)).alloc (.cells #[.string X] 9)).drew) HO.out.1 hts hbase HK.out.2.2 hsz HK.out.1 HK.out.2.1 (Below.next (Below.new _ _) (Below.new _ _)).drew
      (by have h := (Blk.new (w := W) 32 [.int .i64 f, .int .i64 L, .int .i64 C]).next (Below.new _ (.cells #[.string X] 9)); rw [hsz] at h; exact h.drew)
      (by have h := Blk.new (w := W.alloc (.cells #[.int .i64 f, .int .i64 L, .int .i64 C] 32)) 9 [.string X]; rw [World.size_alloc, hsz] at h; exact h.drew) (by omega) (by omega) (by omega)
    exact core _ _ _ _ _ h1 h2
end Go.Proofs.YtcjfelndnnhgjaaGreatDoor
