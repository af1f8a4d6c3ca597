/- Texts of this claim, one behind another: E17, E18. They state lemmas; each names its own conditions. -/
import Derived.Test.YtcjfelndnnhgjaaGreatDoorZ8
namespace Go.Proofs.YtcjfelndnnhgjaaGreatDoor
set_option linter.unusedVariables false
open Go.RowKit Go.Maps

/-- what stands between the marks of an include -/
def mid (rest : Bs) : Bs := (rest.take (rest.length - 1)).drop 1
/-- the number of a name among files; 0: none -/
def findN : List Fil → Bs → Nat
  | [], _ => 0
  | f :: r, b => if sameS f.name (bstr b) = true then 1 else if findN r b = 0 then 0 else findN r b + 1
theorem findN_le : ∀ (fs : List Fil) (b : Bs), findN fs b ≤ fs.length
  | [], _ => Nat.le_refl _
  | f :: r, b => by
    have := findN_le r b
    unfold findN
    split
    · simp
    · split
      · omega
      · simp only [List.length_cons]; omega
theorem findN_first : ∀ (fs : List Fil) (b : Bs), FirstAt (fun i => sameS (fs.getD i default).name (bstr b)) fs.length ((findN fs b : Int) - 1)
  | [], b => .inr ⟨fun j hj => absurd hj (Nat.not_lt_zero _), rfl⟩
  | f :: r, b => by
    have ih := findN_first r b
    unfold findN
    by_cases h : sameS f.name (bstr b) = true
    · rw [if_pos h]
      exact .inl ⟨0, by simp, h, fun j hj => absurd hj (Nat.not_lt_zero _), rfl⟩
    · rw [if_neg h]
      rcases ih with ⟨i, h1, h2, h3, h4⟩ | ⟨h3, h4⟩
      · have : findN r b = i + 1 := by omega
        rw [if_neg (by omega), this]
        refine .inl ⟨i + 1, by simp only [List.length_cons]; omega, h2, fun j hj => ?_, by omega⟩
        cases j with
        | zero => simpa using h
        | succ j => exact h3 j (by omega)
      · have : findN r b = 0 := by omega
        rw [if_pos this]
        refine .inr ⟨fun j hj => ?_, rfl⟩
        cases j with
        | zero => simpa using h
        | succ j => exact h3 j (by simp only [List.length_cons] at hj; omega)
theorem findn_any {w bt ps fs} (h : Made w bt ps fs) (hl : fs.length ≤ 100000) (b : Bs) :
    Calls Tryz.prog 15 #[.pointer (some ⟨bt, 0, none⟩), .string (bstr b)] w fun e w' => e = .returned (.int .i64 (findN fs b)) ∧ Below w.heap.size w w' := by
  have := find_made h hl (bstr b) _ (findN_first fs b)
  rwa [show (1 : Int) + ((findN fs b : Int) - 1) = (findN fs b : Int) by omega] at this
set_option maxRecDepth 100000 in
set_option maxHeartbeats 8000000 in
theorem incl_any {w0 w : World} {bx bf bt : Nat} {ps : List Part} {fs : List Fil} {F G : Nat → Prop} {S : Xs} {P : Fs} {tv : Value} {base : Nat} (htv : tv = .pointer (some ⟨bt, 0, none⟩)) (hbs : base = w0.heap.size) (hM : Made w0 bt ps fs) (hl : fs.length ≤ 100000) (h0 : Below w0.heap.size w0 w)
    (h : HasXF base bx bf tv F G w S P) (hb : base ≤ w.heap.size) (rest : Bs) (hrest : rest.length ≤ 1000000) (f l c : Int) (file : Xs → Nat → Int → Int → Int → Xs)
    (hfile : ∀ (W : World) (F' : Nat → Prop) (num : Nat), HasX base bx tv F' W S → Below w0.heap.size w0 W → 1 ≤ num → num ≤ fs.length → num = findN fs (mid rest) → Calls Tryz.prog 17 #[.pointer (some ⟨bx, 0, none⟩), .int .i64 num, .agg #[.int .i64 f, .int .i64 l, .int .i64 c]] W (XR base bx tv F' W (file S num f l c) (.tuple #[]))) :
    Calls Tryz.prog 92 #[.pointer (some ⟨bf, 0, none⟩), .string (bstr rest), .agg #[.int .i64 f, .int .i64 l, .int .i64 c]] w (FR base bx bf tv F G w (inclP file (findN fs) S rest f l c) P (.tuple #[])) := by
  have HM := Lib.hid (And.intro htv (And.intro hbs (And.intro hM (And.intro hl (And.intro h0 hfile)))))
  have hnb := findN_le fs ((rest.take (rest.length - 1)).drop 1)
  clear hM hl hfile htv hbs
  obtain ⟨R, hR⟩ : ∃ R, (inclP file (findN fs) S rest f l c, P) = R := ⟨_, rfl⟩
  have hR1 : inclP file (findN fs) S rest f l c = R.1 := by rw [← hR]
  have hR2 : P = R.2 := by rw [← hR]
  have HR0 := Lib.hid hR1
  have HRP := Lib.hid hR2
  rw [hR1]
  clear h0 hR hR1 hR2
  have hb1 := Below.new w (.cells #[.int .i64 f, .int .i64 l, .int .i64 c] 32)
  have k1 : Blk (w.alloc (.cells #[.int .i64 f, .int .i64 l, .int .i64 c] 32)) w.heap.size 32 [.int .i64 f, .int .i64 l, .int .i64 c] := Blk.new _ _
  have h1 := h.below hb1
  obtain ⟨vc, hf, hG⟩ := h1.f
  have a0 := hf.blk.cell (i := 0) rfl
  have a2 : True := trivial
  have e0 := k1.cell (i := 0) rfl
  have e1 := k1.cell (i := 1) rfl
  have e2 := k1.cell (i := 2) rfl
  have HX := Lib.hid (And.intro h1 (And.intro hb1 (And.intro k1 hb)))
  generalize hWW : w.alloc (.cells #[.int .i64 f, .int .i64 l, .int .i64 c] 32) = W at *
  have HWW := Lib.hid hWW
  obtain ⟨bo, hbo⟩ : ∃ bo, w.heap.size = bo := ⟨_, rfl⟩
  rw [hbo] at e0 e1 e2
  have HBo := Lib.hid hbo
  clear h hb1 k1 h1 hf hG hb
  obtain ⟨n, hn⟩ : ∃ n, rest.length = n := ⟨_, rfl⟩
  obtain ⟨RT, hRT⟩ : ∃ RT, bstr rest = RT := ⟨_, rfl⟩
  have hsz : RT.size = n := by rw [← hRT, bstr_size, hn]
  have hni : (RT.size : Int) ≤ 1000000 := by omega
  have hHI := Lib.hid (And.intro hn (And.intro hRT hsz))
  rw [hRT]
  have HR1 := HR0.out
  unfold inclP at HR1
  by_cases hl2 : n < 2
  · have hd2 : ((RT.size : Int) < 2) := by omega
    rw [if_pos (.inl (by omega))] at HR1
    have HR : Hid (R = (failP S f l c 5, P)) := Lib.hid (Prod.ext HR1.symm HRP.out.symm)
    clear HR1 hl2 hn hRT hsz hnb
    go_enter Tryz.func92, Tryz.ntmps92
    go_upto_region 2 with fail
    refine wp_region_still_tail 5 (by kernel_rfl) (by kernel_rfl) ?_
    simp only [List.take_succ_cons, List.take_zero, List.drop_succ_cons, List.drop_zero]
    change wpStill _ _ W.drew (fun a' => wpList _ _ _ _ a' W.drew) _ _
    have a0' : W.drew.cell? ⟨bf, 0, none⟩ = _ := a0
    have e0' : W.drew.cell? ⟨bo, 0, none⟩ = _ := e0
    have e1' : W.drew.cell? ⟨bo, 1, none⟩ = _ := e1
    have e2' : W.drew.cell? ⟨bo, 2, none⟩ = _ := e2
    have H10 : Hid (HasXF base bx bf tv F G W.drew S P ∧ Upd (fun g => F g ∨ G g) (fun g => F g ∨ G g) w W.drew) := Lib.hid ⟨HX.out.1.below (Below.refl _ _).drew, (Upd.below HX.out.2.1).trans (Upd.below (w := W) (Below.refl _ _).drew)⟩
    clear a0 a2 e0 e1 e2 hWW hbo
    generalize W.drew = W4 at *
    repeat still_step
    try refine wpStill_nil ?_
    go_wp2_with fail
    refine (fail_any H10.out.1.x f l c 5).mono ?_; rintro e w5 ⟨F5, rfl, hx5, hu5⟩
    have H5 := Lib.hid (And.intro (H10.out.1.xon hx5 hu5) (hu5.wide G))
    clear hx5 hu5
    go_wp2_with fail
    go_end0
    exact ⟨F5, G, rfl, by rw [HR.out]; exact H5.out.1, H10.out.2.trans H5.out.2⟩
  · have hd2 : decide ((RT.size : Int) < 2) = false := decide_eq_false (by omega)
    have hd3 : decide (RT.size < 2) = false := decide_eq_false (by omega)
    have hp0 : (0 : Int) < (RT.size : Int) := by omega
    have hp0n : 0 < RT.size := by omega
    obtain ⟨c0, hc0⟩ : ∃ c0, rest.getD 0 0 = c0 := ⟨_, rfl⟩
    have hat : ∀ h : 0 < RT.size, RT[0] = c0 := by subst hRT; intro h; rw [bstr_at, hc0]
    rw [hc0] at HR1
    by_cases h34 : c0 = 34
    · subst h34
      have hp1 : (1 : Int) ≤ (RT.size : Int) := by omega
      have hw2 : IntKind.i64.wrap ((RT.size : Int) - 2) = (RT.size : Int) - 2 := i64_of (by omega)
      have hIB := Tryz.strings_IndexByte (RT.extract 1 RT.size) 34 W
      have hdl : (RT.extract 1 RT.size).data.toList = rest.drop 1 := by rw [hsz, ← hRT, bstr_extract, ← hn, List.take_length]; simp [bstr]
      rw [hdl] at hIB
      have hci := cutB_index 34 (rest.drop 1)
      obtain ⟨ib, hib⟩ : ∃ ib, Lib.indexByte (rest.drop 1) (34 : Int).toNat.toUInt8 = ib := ⟨_, rfl⟩
      rw [hib] at hIB
      have hci' : (cutB 34 (rest.drop 1)).map (fun q => q.1.length) = some (rest.length - 2) ↔ ib = (RT.size : Int) - 2 := by
        have hib' : Lib.indexByte (rest.drop 1) 34 = ib := hib
        cases hq : cutB 34 (rest.drop 1) with
        | none =>
          rw [hq] at hci
          have : ib = -1 := hib'.symm.trans hci
          simp; omega
        | some xy =>
          rw [hq] at hci
          have : ib = (xy.1.length : Int) := hib'.symm.trans hci.2
          simp; omega
      by_cases hcut : ib = (RT.size : Int) - 2
      · have hce : (ib == (RT.size : Int) - 2) = true := by rw [hcut]; simp
        rw [if_neg (by rintro (h | h | h); omega; exact h rfl; exact h (hci'.2 hcut))] at HR1
        have HIB := Lib.hid hIB
        obtain ⟨vc, hf, _⟩ := HX.out.1.f
        obtain ⟨bm, vt, vo, kk, D, hxa, _⟩ := HX.out.1.x
        have x0 := hxa.blk.cell (i := 0) rfl
        obtain ⟨M, hM⟩ : ∃ M, (rest.take (rest.length - 1)).drop 1 = M := ⟨_, rfl⟩
        rw [hM] at HR1 hnb
        obtain ⟨q, hq⟩ : ∃ q, n = q + 1 := ⟨n - 1, by omega⟩
        have hwq : IntKind.i64.wrap ((RT.size : Int) - 1) = (q : Int) := by rw [i64_of (by omega)]; omega
        have hsl : ∀ w', (Instr.slice 9 (Value.string RT) (some (Value.int IntKind.i64 1)) (some (Value.int IntKind.i64 (q : Int))) none).run Tryz.prog w' = .ok (.string (bstr M)) w' := by
          intro w'
          have h := run_slice_string (P := Tryz.prog) (w := w') 9 RT .i64 .i64 1 (q : Int) Tryz.underlying9 (by omega) (by omega) (by omega)
          rw [h, ← hM, ← hRT, bstr_extract, hn, hq, Nat.add_sub_cancel]
          rfl
        have HR2 := Lib.hid HR1
        have HNb := Lib.hid hnb
        have HM1 := Lib.hid (And.intro hM hq)
        clear hIB hdl hci hci' hib hcut hc0 HR1 hM hf hxa hl2 hn hRT hsz hnb hq hHI
        go_enter Tryz.func92, Tryz.ntmps92
        go_wp2_with fail
        refine HIB.out.mono ?_; rintro e wn ⟨rfl, hwn⟩; obtain rfl : W = wn := hwn.symm
        go_upto_region 3 with fail
        refine wp_region_still_tail 12 (by kernel_rfl) (by kernel_rfl) ?_
        simp only [List.take_succ_cons, List.take_zero, List.drop_succ_cons, List.drop_zero]
        change wpStill _ _ W.drew (fun a' => wpList _ _ _ _ a' W.drew) _ _
        have a0' : W.drew.cell? ⟨bf, 0, none⟩ = _ := a0
        have x0' : W.drew.cell? ⟨bx, 0, none⟩ = _ := x0
        have hb2 : Below W.heap.size W W.drew := (Below.refl _ _).drew
        have hmd := HM.out.2.2.1.below (HM.out.2.2.2.2.1.trans ((HX.out.2.1.trans (hb2.mono HX.out.2.1.size)).mono HM.out.2.2.2.2.1.size))
        have HFd := Lib.hid (findn_any hmd HM.out.2.2.2.1 M)
        rw [← HM.out.1] at HFd
        have HW2 := Lib.hid hb2
        clear a0 x0 hWW hbo e0 e1 e2 hat hmd hb2
        generalize W.drew = W2 at *
        repeat still_step
        try refine wpStill_nil ?_
        clear a0' x0' hsl hwq
        go_wp2_with fail
        refine HFd.out.mono ?_; rintro e W3 ⟨rfl, hb3⟩
        have hb4 := (HW2.out.trans (hb3.mono HW2.out.size))
        have hb5 := HX.out.2.1.trans (hb4.mono HX.out.2.1.size)
        have h3 := HX.out.1.below hb4
        have k3 := HX.out.2.2.1.next hb4
        rw [HBo.out] at k3
        obtain ⟨vc, hf, _⟩ := h3.f
        have a0 := hf.blk.cell (i := 0) rfl
        have a2 : True := trivial
        have hWW : True := trivial
        have hbo : True := trivial
        have e0 := k3.cell (i := 0) rfl
        have e1 := k3.cell (i := 1) rfl
        have e2 := k3.cell (i := 2) rfl
        have H3 := Lib.hid (And.intro h3 hb5)
        have h03 := Lib.hid (HM.out.2.2.2.2.1.trans (hb5.mono HM.out.2.2.2.2.1.size))
        clear hb3 hb4 hb5 h3 k3 hf HX HFd
        have HX := H3
        clear H3
        obtain ⟨K, hK⟩ : ∃ K, findN fs M = K := ⟨_, rfl⟩
        rw [hK]
        have HR1 := HR2.out
        rw [hK] at HR1
        have HK := Lib.hid hK
        by_cases hK0 : K = 0
        · rw [if_pos hK0] at HR1
          have HR : Hid (R = (failP S f l c 9, P)) := Lib.hid (Prod.ext HR1.symm HRP.out.symm)
          have hkz : ((K : Int) == 0) = true := by simp [hK0]
          clear HR1 hK0 hK
          go_upto_region 5 with fail
          refine wp_region_still_tail 5 (by kernel_rfl) (by kernel_rfl) ?_
          simp only [List.take_succ_cons, List.take_zero, List.drop_succ_cons, List.drop_zero]
          change wpStill _ _ (W3).drew (fun a' => wpList _ _ _ _ a' (W3).drew) _ _
          have a0' : (W3).drew.cell? ⟨bf, 0, none⟩ = _ := a0
          have e0' : (W3).drew.cell? ⟨bo, 0, none⟩ = _ := e0
          have e1' : (W3).drew.cell? ⟨bo, 1, none⟩ = _ := e1
          have e2' : (W3).drew.cell? ⟨bo, 2, none⟩ = _ := e2
          have H10 : Hid (HasXF base bx bf tv F G (W3).drew S P ∧ Upd (fun g => F g ∨ G g) (fun g => F g ∨ G g) w (W3).drew) := Lib.hid ⟨HX.out.1.below (Below.refl _ _).drew, (Upd.below HX.out.2).trans (Upd.below (w := W3) (Below.refl _ _).drew)⟩
          clear a0 a2 e0 e1 e2
          generalize (W3).drew = W4 at *
          repeat still_step
          try refine wpStill_nil ?_
          go_wp2_with fail
          refine (fail_any H10.out.1.x f l c 9).mono ?_; rintro e w5 ⟨F5, rfl, hx5, hu5⟩
          have H5 := Lib.hid (And.intro (H10.out.1.xon hx5 hu5) (hu5.wide G))
          clear hx5 hu5
          go_wp2_with fail
          go_end0
          exact ⟨F5, G, rfl, by rw [HR.out]; exact H5.out.1, H10.out.2.trans H5.out.2⟩
        · rw [if_neg hK0] at HR1
          have hkz : ((K : Int) == 0) = false := by simp [hK0]
          have hkb : 1 ≤ K := by omega
          have HR := Lib.hid HR1
          have HKb := Lib.hid hkb
          clear HR1 hK0 hK hkb
          go_upto_region 6 with fail
          refine wp_region_still_tail 6 (by kernel_rfl) (by kernel_rfl) ?_
          simp only [List.take_succ_cons, List.take_zero, List.drop_succ_cons, List.drop_zero]
          change wpStill _ _ W3.drew (fun a' => wpList _ _ _ _ a' W3.drew) _ _
          have a0' : W3.drew.cell? ⟨bf, 0, none⟩ = _ := a0
          have e0' : W3.drew.cell? ⟨bo, 0, none⟩ = _ := e0
          have e1' : W3.drew.cell? ⟨bo, 1, none⟩ = _ := e1
          have e2' : W3.drew.cell? ⟨bo, 2, none⟩ = _ := e2
          have hbd : Below W3.heap.size W3 W3.drew := (Below.refl _ _).drew
          have H10 : Hid (HasXF base bx bf tv F G W3.drew S P ∧ Upd (fun g => F g ∨ G g) (fun g => F g ∨ G g) w W3.drew ∧ Below w0.heap.size w0 W3.drew) := Lib.hid ⟨HX.out.1.below hbd, (Upd.below HX.out.2).trans (Upd.below hbd), h03.out.trans (hbd.mono h03.out.size)⟩
          clear a0 a2 e0 e1 e2 hbd
          generalize W3.drew = W4 at *
          repeat still_step
          try refine wpStill_nil ?_
          go_wp2_with fail
          refine (HM.out.2.2.2.2.2 W4 F K H10.out.1.x H10.out.2.2 HKb.out (by have := HNb.out; rw [HK.out] at this; exact this) (by unfold mid; rw [HM1.out.1]; exact HK.out.symm)).mono ?_; rintro e w5 ⟨F5, rfl, hx5, hu5⟩
          have H5 := Lib.hid (And.intro (H10.out.1.xon hx5 hu5) (hu5.wide G))
          clear hx5 hu5
          go_wp2_with fail
          go_end0
          exact ⟨F5, G, rfl, by rw [← HR.out]; exact H5.out.1, H10.out.2.1.trans H5.out.2⟩
      · have hce : (ib == (RT.size : Int) - 2) = false := by simpa using hcut
        rw [if_pos (.inr (.inr (fun h => hcut (hci'.1 h))))] at HR1
        have HR : Hid (R = (failP S f l c 5, P)) := Lib.hid (Prod.ext HR1.symm HRP.out.symm)
        have HIB := Lib.hid hIB
        clear HR1 hl2 hn hRT hsz hnb hIB hdl hci hci' hib hcut hc0
        go_enter Tryz.func92, Tryz.ntmps92
        go_wp2_with fail
        refine HIB.out.mono ?_; rintro e wn ⟨rfl, hwn⟩; obtain rfl : W = wn := hwn.symm
        go_upto_region 2 with fail
        refine wp_region_still_tail 5 (by kernel_rfl) (by kernel_rfl) ?_
        simp only [List.take_succ_cons, List.take_zero, List.drop_succ_cons, List.drop_zero]
        change wpStill _ _ W.drew (fun a' => wpList _ _ _ _ a' W.drew) _ _
        have a0' : W.drew.cell? ⟨bf, 0, none⟩ = _ := a0
        have e0' : W.drew.cell? ⟨bo, 0, none⟩ = _ := e0
        have e1' : W.drew.cell? ⟨bo, 1, none⟩ = _ := e1
        have e2' : W.drew.cell? ⟨bo, 2, none⟩ = _ := e2
        have H10 : Hid (HasXF base bx bf tv F G W.drew S P ∧ Upd (fun g => F g ∨ G g) (fun g => F g ∨ G g) w W.drew) := Lib.hid ⟨HX.out.1.below (Below.refl _ _).drew, (Upd.below HX.out.2.1).trans (Upd.below (w := W) (Below.refl _ _).drew)⟩
        clear a0 a2 e0 e1 e2 hWW hbo
        generalize W.drew = W4 at *
        repeat still_step
        try refine wpStill_nil ?_
        go_wp2_with fail
        refine (fail_any H10.out.1.x f l c 5).mono ?_; rintro e w5 ⟨F5, rfl, hx5, hu5⟩
        have H5 := Lib.hid (And.intro (H10.out.1.xon hx5 hu5) (hu5.wide G))
        clear hx5 hu5
        go_wp2_with fail
        go_end0
        exact ⟨F5, G, rfl, by rw [HR.out]; exact H5.out.1, H10.out.2.trans H5.out.2⟩
    · have hc34i : ¬ ((c0.toNat : Nat) : Int) = 34 := by
        have : c0.toNat ≠ 34 := fun e => h34 (UInt8.toNat_inj.1 e)
        omega
      have hc34b : (((c0.toNat : Nat) : Int) != 34) = true := by simpa using hc34i
      have hc34 : (((c0.toNat : Nat) : Int) == 34) = false := by
        have : c0.toNat ≠ 34 := fun e => h34 (UInt8.toNat_inj.1 e)
        simp; omega
      rw [if_pos (.inr (.inl h34))] at HR1
      have HR : Hid (R = (failP S f l c 5, P)) := Lib.hid (Prod.ext HR1.symm HRP.out.symm)
      clear HR1 hl2 hn hRT hsz hnb h34 hc0
      go_enter Tryz.func92, Tryz.ntmps92
      go_upto_region 2 with fail
      refine wp_region_still_tail 5 (by kernel_rfl) (by kernel_rfl) ?_
      simp only [List.take_succ_cons, List.take_zero, List.drop_succ_cons, List.drop_zero]
      change wpStill _ _ W.drew (fun a' => wpList _ _ _ _ a' W.drew) _ _
      have a0' : W.drew.cell? ⟨bf, 0, none⟩ = _ := a0
      have e0' : W.drew.cell? ⟨bo, 0, none⟩ = _ := e0
      have e1' : W.drew.cell? ⟨bo, 1, none⟩ = _ := e1
      have e2' : W.drew.cell? ⟨bo, 2, none⟩ = _ := e2
      have H10 : Hid (HasXF base bx bf tv F G W.drew S P ∧ Upd (fun g => F g ∨ G g) (fun g => F g ∨ G g) w W.drew) := Lib.hid ⟨HX.out.1.below (Below.refl _ _).drew, (Upd.below HX.out.2.1).trans (Upd.below (w := W) (Below.refl _ _).drew)⟩
      clear a0 a2 e0 e1 e2 hWW hbo
      generalize W.drew = W4 at *
      repeat still_step
      try refine wpStill_nil ?_
      go_wp2_with fail
      refine (fail_any H10.out.1.x f l c 5).mono ?_; rintro e w5 ⟨F5, rfl, hx5, hu5⟩
      have H5 := Lib.hid (And.intro (H10.out.1.xon hx5 hu5) (hu5.wide G))
      clear hx5 hu5
      go_wp2_with fail
      go_end0
      exact ⟨F5, G, rfl, by rw [HR.out]; exact H5.out.1, H10.out.2.trans H5.out.2⟩
end Go.Proofs.YtcjfelndnnhgjaaGreatDoor
namespace Go.Proofs.YtcjfelndnnhgjaaGreatDoor
set_option linter.unusedVariables false
open Go.RowKit Go.Maps

/-- a text is appended to texts -/
theorem XAt.txApp {base bx bm : Nat} {tv vt vo : Value} {w1 w2 w3 : World} {S : Xs} {k : Nat} {D : DataW Unit} (h : XAt base bx bm tv w1 S vt vo k D) (hb : Below w1.heap.size w1 w2) (t : Bs) {n g cap : Nat} (hn : S.texts.length = n)
    (happ : App base 9 1 w2 vt n 1 (strCells S.texts ++ [.string (bstr t)]) g cap w3) :
    XAt base bx bm tv (w3.setCell ⟨bx, 2, none⟩ (.slice (some ⟨g, 0, none⟩) (n + 1) cap)) { S with texts := S.texts ++ [t] } (.slice (some ⟨g, 0, none⟩) (n + 1) cap) vo k D ∧
      Upd (xFoot bx bm vt vo) (xFoot bx bm (.slice (some ⟨g, 0, none⟩) (n + 1) cap) vo) w1 (w3.setCell ⟨bx, 2, none⟩ (.slice (some ⟨g, 0, none⟩) (n + 1) cap)) := by
  subst hn
  have hlt := h.lt
  have hsz := hb.size
  have hgn : g ≠ bx ∧ g ≠ bm ∧ (∀ q, vo.ownBlock = some q → g ≠ q) := by
    rcases happ.at_ with hg | hg
    · exact ⟨fun e => h.t1 (e ▸ hg), fun e => h.t2 (e ▸ hg), fun q hq e => h.to g hg (e ▸ hq)⟩
    · refine ⟨?_, ?_, fun q hq e => ?_⟩
      · have := (hlt bx (.inl rfl)).2; omega
      · have := (hlt bm (.inr (.inl rfl))).2; omega
      · have := (hlt q (.inr (.inr (.inr hq)))).2; omega
  have hold : ∀ j, j < w1.heap.size → vt.ownBlock ≠ some j → w3.heap[j]? = w1.heap[j]? := fun j hj hne =>
    (happ.old (by omega) hne).trans (hb.block _ hj)
  have hset : ∀ j, j ≠ bx → (w3.setCell ⟨bx, 2, none⟩ (.slice (some ⟨g, 0, none⟩) (S.texts.length + 1) cap)).heap[j]? = w3.heap[j]? := fun j hj => Below.heap_setCell _ _ _ _ hj
  have hU : Upd (xFoot bx bm vt vo) (xFoot bx bm (.slice (some ⟨g, 0, none⟩) (S.texts.length + 1) cap) vo) w1 (w3.setCell ⟨bx, 2, none⟩ (.slice (some ⟨g, 0, none⟩) (S.texts.length + 1) cap)) := by
    refine ⟨happ.grown.os.trans hb.os, happ.grown.tape.trans hb.tape, happ.grown.output.trans hb.output, ?_, fun j hj hn => ?_, fun j hj => ?_⟩
    · have := happ.grown.size
      simp at this ⊢; omega
    · rw [hset j (fun e => hn (.inl e))]
      exact hold j hj (fun e => hn (.inr (.inr (.inl e))))
    · rcases hj with rfl | rfl | hj | hj
      · exact .inl (.inl rfl)
      · exact .inl (.inr (.inl rfl))
      · simp only [Value.ownBlock, Option.some.injEq] at hj; subst hj
        rcases happ.at_ with hg | hg
        · exact .inl (.inr (.inr (.inl hg)))
        · right; omega
      · exact .inl (.inr (.inr (.inr hj)))
  refine ⟨⟨?_, ?_, ?_, ?_, h.dk, ?_, ?_, ?_, h.o1, h.o2, fun q hq e => ?_, h.xm, h.gx, h.gm⟩, hU⟩
  · have hb3 : Blk w3 bx 64 (xCells tv bm vt vo S) := (hold bx (hlt bx (.inl rfl)).2 h.t1).trans h.blk
    exact hb3.set 2 _
  · rw [show ({ S with texts := S.texts ++ [t] } : Xs).texts.length = S.texts.length + 1 by simp, show ({ S with texts := S.texts ++ [t] } : Xs).texts = S.texts ++ [t] from rfl, strCells_snoc]
    exact ownsRow_keep happ.own fun q hq => by
      simp only [Value.ownBlock, Option.some.injEq] at hq; subst hq
      exact hset _ hgn.1
  · exact ownsRow_keep h.ot fun q hq => (hset q fun e => h.o1 (e ▸ hq)).trans (hold q (hlt q (.inr (.inr (.inr hq)))).2 (fun e => h.to q e hq))
  · exact ownsMap_keep h.mp ((hset bm (Ne.symm h.xm)).trans (hold bm h.mp.lt h.t2))
  · have := h.kl
    show k ≤ (S.texts ++ [t]).length
    simp only [List.length_append, List.length_cons, List.length_nil]; omega
  · simp only [Value.ownBlock, ne_eq, Option.some.injEq]; exact hgn.1
  · simp only [Value.ownBlock, ne_eq, Option.some.injEq]; exact hgn.2.1
  · simp only [Value.ownBlock, Option.some.injEq] at hq; exact hgn.2.2 q e hq
/-- the map was written -/
theorem XAt.map {base bx bm : Nat} {tv vt vo : Value} {w w' : World} {S : Xs} {k k' : Nat} {D D' : DataW Unit} (h : XAt base bx bm tv w S vt vo k D) (n : Bs) (v : Nat) (hm : MapIs w' bm k' D') (hg : w.grownBy w' (some bm)) (hk : k' ≤ S.texts.length)
    (h1 : D'.atKey (.string n) (.lit (.int .i64 0)) = .lit (.int .i64 v)) (h2 : ∀ x, x ≠ n → D'.atKey (.string x) (.lit (.int .i64 0)) = D.atKey (.string x) (.lit (.int .i64 0))) :
    XAt base bx bm tv w' (setDef S n v) vt vo k' D' ∧ Upd (xFoot bx bm vt vo) (xFoot bx bm vt vo) w w' := by
  have hlt := h.lt
  have hold : ∀ j, j < w.heap.size → j ≠ bm → w'.heap[j]? = w.heap[j]? := fun j hj hne => hg.block j hj (fun e => hne (by injection e))
  refine ⟨⟨(hold bx (hlt bx (.inl rfl)).2 h.xm).trans h.blk, ?_, ?_, hm, fun x => ?_, hk, h.t1, h.t2, h.o1, h.o2, h.to, h.xm, h.gx, h.gm⟩, ⟨hg.os, hg.tape, hg.output, hg.size, fun j hj hn => hold j hj (fun e => hn (.inr (.inl e))), fun j hj => .inl hj⟩⟩
  · exact ownsRow_keep h.tx fun q hq => hold q (hlt q (.inr (.inr (.inl hq)))).2 (fun e => h.t2 (e ▸ hq))
  · exact ownsRow_keep h.ot fun q hq => hold q (hlt q (.inr (.inr (.inr hq)))).2 (fun e => h.o2 (e ▸ hq))
  · show _ = DataW.lit (.int .i64 ((if x = n then v else S.defs x : Nat) : Int))
    by_cases hx : x = n
    · subst hx; rw [if_pos rfl]; exact h1
    · rw [if_neg hx, h2 x hx]; exact h.dk x
theorem XAt.mapPut {base bx bm : Nat} {tv vt vo : Value} {w w' : World} {S : Xs} {k : Nat} {D : DataW Unit} (h : XAt base bx bm tv w S vt vo k D) (n : Bs) (v : Nat) (hm : MapIs w' bm (k + 1) (D.put (.string n) (.lit (.int .i64 v)))) (hg : w.grownBy w' (some bm)) (hk : k + 1 ≤ S.texts.length) :
    XAt base bx bm tv w' (setDef S n v) vt vo (k + 1) (D.put (.string n) (.lit (.int .i64 v))) ∧ Upd (xFoot bx bm vt vo) (xFoot bx bm vt vo) w w' :=
  h.map n v hm hg hk (atKey_put_same (k := .string n) h.mp.isMap trivial _ _) (fun x hx => atKey_put_other (fun e => hx (by injection e)) _ _)
theorem XAt.mapDel {base bx bm : Nat} {tv vt vo : Value} {w w' : World} {S : Xs} {k : Nat} {D : DataW Unit} (h : XAt base bx bm tv w S vt vo k D) (n : Bs) (hm : MapIs w' bm k (D.del (.string n))) (hg : w.grownBy w' (some bm)) :
    XAt base bx bm tv w' (setDef S n 0) vt vo k (D.del (.string n)) ∧ Upd (xFoot bx bm vt vo) (xFoot bx bm vt vo) w w' :=
  h.map n 0 hm hg h.kl (atKey_del_same _) (fun x hx => atKey_del_other (fun e => hx (by injection e)) _)
theorem wf_nat (n : Nat) (h : n ≤ 1000000000000000000) : (Lit.int .i64 ((n : Nat) : Int)).wf = true := by
  simp [Lit.wf, IntKind.min, IntKind.max, IntKind.signed, IntKind.bits]
  omega
/-- is a byte a blank: as the code asks -/
theorem blank_ix (b : UInt8) : (Lib.indexByte [32, 9, 13] b < 0) ↔ isBlank b = false := by
  have hI := cutB_index b [32, 9, 13]
  unfold isBlank
  cases hq : cutB b [32, 9, 13] with
  | none =>
    rw [hq] at hI
    have : ∀ x ∈ ([32, 9, 13] : Bs), x ≠ b := by
      intro x hx e
      subst e
      simp only [cutB] at hq
      simp only [List.mem_cons, List.not_mem_nil, or_false] at hx
      rcases hx with rfl | rfl | rfl <;> simp at hq
    refine ⟨fun _ => ?_, fun _ => by rw [hI]; decide⟩
    simp only [List.contains_eq_mem, decide_eq_false_iff_not]
    exact fun h => this b h rfl
  | some xy =>
    rw [hq] at hI
    refine ⟨fun h => by rw [hI.2] at h; omega, fun h => ?_⟩
    exfalso
    have hm : b ∈ ([32, 9, 13] : List UInt8) := by rw [hI.1]; simp
    simp only [List.contains_eq_mem, decide_eq_false_iff_not] at h
    exact h hm
end Go.Proofs.YtcjfelndnnhgjaaGreatDoor
