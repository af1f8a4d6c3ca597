/- Texts of this claim, one behind another: X14. They state lemmas; each names its own conditions. -/
import Derived.Test.YtcjfelndnnhgjaaGreatDoorYE
namespace Go.Proofs.YtcjfelndnnhgjaaGreatDoor
set_option linter.unusedVariables false
open Go.RowKit Go.Maps

/-! # the law -/
theorem tk_cells {w : World} {B : Nat} {v : Value} {l : List Tk} (h : w.ownsRow B 41 5 v l.length (tksCells l)) {i : Nat} {p : Tk} (hp : l[i]? = some p) : ∃ g c, v = .slice (some ⟨g, 0, none⟩) l.length c ∧ w.cell? ⟨g, i * 5, none⟩ = some (.int .i64 p.kind) ∧ w.cell? ⟨g, i * 5 + 1, none⟩ = some (.string p.text) ∧ w.cell? ⟨g, i * 5 + 2, none⟩ = some (.int .i64 p.f) ∧ w.cell? ⟨g, i * 5 + 3, none⟩ = some (.int .i64 p.l) ∧ w.cell? ⟨g, i * 5 + 4, none⟩ = some (.int .i64 p.c) := by
  have hi : i < l.length := (List.getElem?_eq_some_iff.1 hp).1
  obtain ⟨g, c, rfl, _⟩ := h.form (by omega)
  have q : ∀ r u, r < 5 → (tkCells p)[r]? = some u → w.cell? ⟨g, i * 5 + r, none⟩ = some u := fun r u hr hu => by
    rw [h.cellAt (i * 5 + r) (by omega)]
    unfold tksCells
    rw [flatMap_at tkCells 5 (by decide) (fun _ => rfl), show (i * 5 + r) / 5 = i by omega, show (i * 5 + r) % 5 = r by omega, hp]
    exact hu
  exact ⟨g, c, rfl, q 0 _ (by decide) rfl, q 1 _ (by decide) rfl, q 2 _ (by decide) rfl, q 3 _ (by decide) rfl, q 4 _ (by decide) rfl⟩
/-- where a word stands -/
def TokOk (fs : List Fil) (t : Tk) : Prop :=
  ∃ j m, j < fs.length ∧ m < (fs.getD j default).text.size ∧ t.f = (j : Int) + 1 ∧ t.l = (plTo (fs.getD j default).text.data.toList m).1 ∧ t.c = (plTo (fs.getD j default).text.data.toList m).2 ∧
    ((fs.getD j default).text.data.toList.getD m 0 = 96 ∨ (m + t.text.size ≤ (fs.getD j default).text.size ∧ t.text = (fs.getD j default).text.extract m (m + t.text.size)))
theorem tok_ok {fs : List Fil} {l : List Pc} (h : ∀ p ∈ l, ∃ j m, j < fs.length ∧ PA (textsOf fs) j m p) {t : Tk} (ht : TokP l t) : TokOk fs t := by
  obtain ⟨p, hp, L, C, hL, hC, hin⟩ := ht
  obtain ⟨j, m, hj, hpa⟩ := h p hp
  obtain ⟨m', h1, h2, h3, h4, h5⟩ := tok_place hpa hL hC hin
  have e : textsOf fs (j + 1) = (fs.getD j default).text.data.toList := rfl
  rw [e] at h1 h3 h4 h5
  have hz : (fs.getD j default).text.data.toList.length = (fs.getD j default).text.size := by simp
  rw [hz] at h1 h5
  refine ⟨j, m', hj, h1, h2, h3, h4, h5.imp id fun ⟨a, b⟩ => ⟨a, ?_⟩⟩
  apply ByteArray.ext
  apply Array.ext'
  rw [b, ByteArray.data_extract, Array.toList_extract]
  simp only [List.extract_eq_take_drop, Nat.add_sub_cancel_left]
theorem pos_ok {fs : List Fil} {l : List Pc} (h : ∀ p ∈ l, ∃ j m, j < fs.length ∧ PA (textsOf fs) j m p) {x : Pc} (hx : x ∈ l) {L C k : Nat} (hL : x.l = L) (hC : x.c = C) (hk : k ≤ x.text.length) :
    ∃ j m, j < fs.length ∧ m ≤ (fs.getD j default).text.size ∧ x.f = (j : Int) + 1 ∧ plK x.fixed (L, C) (bstr x.text) k = plTo (fs.getD j default).text.data.toList m := by
  obtain ⟨j, m, hj, hpa⟩ := h x hx
  obtain ⟨m', h1, h2⟩ := plK_own hpa hL hC hk
  have e : textsOf fs (j + 1) = (fs.getD j default).text.data.toList := rfl
  rw [e] at h1 h2
  exact ⟨j, m', hj, by simpa using h1, hpa.f, h2⟩
theorem pcok_of {fs : List Fil} {l : List Pc} (h : ∀ p ∈ l, ∃ j m, j < fs.length ∧ PA (textsOf fs) j m p) (hz : ∀ n, (fs.getD n default).text.size ≤ 32768) (hx : ∀ p ∈ l, p.text.length ≤ 65536) : ∀ p ∈ l, PcOk p := fun p hp => by
  obtain ⟨j, m, hj, hpa⟩ := h p hp
  have h1 := plTo_le (textsOf fs (j + 1)) m
  have h2 := hpa.le
  have e : (textsOf fs (j + 1)).length = (fs.getD j default).text.size := by
    show (fs.getD j default).text.data.toList.length = _
    simp
  have h3 := hz j
  have h4 := hx p hp
  exact ⟨_, _, hpa.l, hpa.c, by omega, by omega, by omega⟩
set_option maxRecDepth 100000 in
set_option maxHeartbeats 16000000 in
theorem words_law {w : World} {v : Value} {fs0 : List Fil} (hr : RO w v 2 fs0.length (filCells fs0)) (hl0 : fs0.length ≤ 9223372036854775807) (hnm : ∀ f ∈ fs0, f.name.size ≤ maxLen) (top : ByteArray) (hMax : Max w) :
    Calls Tryz.prog 3 #[v, .string top] w fun e w' => e = .returned (.bool true) ∧ Below w.heap.size w w' := by
  have HFw := Lib.hid (few7_any v fs0 hr hl0)
  have hl5 := few7_len fs0
  have HSz := Lib.hid (few7_sizes fs0)
  have HNm := Lib.hid (few7_names fs0 hnm)
  have HMx : Hid (∀ w', Below w.heap.size w w' → Max w') := Lib.hid fun w' hb => hMax.below hb
  obtain ⟨fs, hfs⟩ : ∃ fs, few7 fs0 = fs := ⟨_, rfl⟩
  rw [hfs] at HFw hl5 HSz HNm
  have HL5 := Lib.hid hl5
  have htop : bstr top.data.toList = top := ByteArray.ext (by simp [bstr])
  obtain ⟨tb, htb⟩ : ∃ tb, top.data.toList = tb := ⟨_, rfl⟩
  rw [htb] at htop
  have HTop := Lib.hid htop
  obtain ⟨p, c, rfl⟩ := hr.form
  clear hr hl0 hnm hMax hfs hl5 htb htop
  go_enter Tryz.func3, Tryz.ntmps3
  go_wp2_with fail
  refine HFw.out.mono ?_; rintro e w2 ⟨v2, rfl, hr2, hb2⟩
  have H2 := Lib.hid (And.intro hb2 (files_any v2 fs hr2 (by have := HL5.out; omega)))
  obtain ⟨p2, c2, rfl⟩ := hr2.form
  clear hb2 hr2 HFw
  go_wp2_with fail
  refine H2.out.2.mono ?_; rintro e w3 ⟨v3, rfl, hr3, hb3⟩
  have H3 := Lib.hid (And.intro (Below.next H2.out.1 hb3) (new_any v3 fs hr3 (by have := HL5.out; omega) (fun i hi => HNm.out _ (by rw [List.getD, List.getElem?_eq_getElem hi]; exact List.getElem_mem hi)) (fun i _ => Nat.le_trans (HSz.out i) (by decide))))
  clear hb3 hr3 H2
  go_wp2_with fail
  refine H3.out.2.mono ?_; rintro e w4 ⟨err, pt, hne, rfl, hb4, hbad, hgood⟩
  have H4 := Lib.hid (And.intro (Below.next H3.out.1 hb4) (And.intro hbad hgood))
  clear hb4 hbad hgood H3 hne
  by_cases he : err = 0
  · obtain ⟨bt, ps, rfl, hT, hpl, _, hpt⟩ := H4.out.2.2 he
    subst he
    have HM := Lib.hid (made_of hT hpl hpt)
    have H4b := Lib.hid H4.out.1
    clear hT hpl hpt H4
    have HEx := Lib.hid (expand_pre HM.out (by have := HL5.out; omega) (HMx.out w4 H4b.out) HSz.out tb)
    rw [HTop.out] at HEx
    have hinv := expandP_inv (texts := textsOf fs) (find := findN fs) (n := fs.length) (findN_le fs) tb
    have hfx := expandP_fx (texts := textsOf fs) (find := findN fs) (fun n => by
      show (fs.getD (n - 1) default).text.data.toList.length ≤ _
      have := HSz.out (n - 1)
      simpa using this) tb
    obtain ⟨R, hR⟩ : ∃ R, expandP (textsOf fs) (findN fs) tb = R := ⟨_, rfl⟩
    rw [hR] at HEx hinv hfx
    obtain ⟨l, ⟨pf, pl, pc⟩, er⟩ := R
    have HInv := Lib.hid (And.intro hinv hfx)
    (try simp only at HInv)
    clear hR hinv hfx
    go_wp2_with fail
    refine HEx.out.mono ?_; rintro e w5 ⟨v5, rfl, hrow, hb5⟩
    (try simp only at hrow)
    (try simp only)
    have hb6 := Below.new w5 (.cells #[.int .i64 pf, .int .i64 pl, .int .i64 pc] 32)
    have hk6 := Blk.new (w := w5) 32 [.int .i64 pf, .int .i64 pl, .int .i64 pc]
    obtain ⟨p5, c5, rfl⟩ := ownsRow_form hrow
    have H6 := Lib.hid (And.intro (Below.next (Below.next H4b.out hb5) hb6) (And.intro (hrow.alloc (.cells #[.int .i64 pf, .int .i64 pl, .int .i64 pc] 32)) (And.intro (HM.out.below (Below.next hb5 hb6)) (And.intro hk6 (And.intro hb6 (And.intro (HM.out.below hb5) (Below.next H4b.out hb5)))))))
    clear hb6 hk6 hrow hb5 HEx HM H4b
    by_cases he : er = 0
    · subst he
      have hpa := HInv.out.1.1 rfl
      have hoks := pcok_of hpa HSz.out HInv.out.2.1
      have HLx := Lib.hid (lex_any H6.out.2.1 hoks (Nat.le_trans HInv.out.2.2 (by decide)) (HMx.out _ H6.out.1))
      have HPa := Lib.hid hpa
      clear hpa hoks HInv
      go_wp2_with fail
      refine HLx.out.mono ?_; rintro e w7 ⟨v7, err7, ⟨q1, q2, q3⟩, rfl, hb7, hcase⟩
      (try simp only at hcase)
      (try simp only)
      have hk7 := H6.out.2.2.2.1.next hb7
      have s0 := hk7.cell (i := 0) rfl
      have s1 := hk7.cell (i := 1) rfl
      have s2 := hk7.cell (i := 2) rfl
      have f0 := hk7.frz 0
      have f1 := hk7.frz 1
      have f2 := hk7.frz 2
      have hk8 := ((hk7.set 0 (.int .i64 q1)).set 1 (.int .i64 q2)).set 2 (.int .i64 q3)
      have hb8 : Below w5.heap.size w5 (((w7.setCell ⟨w5.heap.size, 0, none⟩ (.int .i64 q1)).setCell ⟨w5.heap.size, 1, none⟩ (.int .i64 q2)).setCell ⟨w5.heap.size, 2, none⟩ (.int .i64 q3)) :=
        (((H6.out.2.2.2.2.1.trans (hb7.mono H6.out.2.2.2.2.1.size)).setCell (p := ⟨w5.heap.size, 0, none⟩) (Nat.le_refl _) (.int .i64 q1)).setCell (p := ⟨w5.heap.size, 1, none⟩) (Nat.le_refl _) (.int .i64 q2)).setCell (p := ⟨w5.heap.size, 2, none⟩) (Nat.le_refl _) (.int .i64 q3)
      have H8 := Lib.hid (And.intro hb8 (And.intro hk8 (H6.out.2.2.2.2.2.1.below hb8)))
      have HBa := Lib.hid (H6.out.2.2.2.2.2.2.trans (hb8.mono H6.out.2.2.2.2.2.2.size))
      clear hk7 hk8 hb8
      by_cases he7 : err7 = 0
      · subst he7
        rcases hcase with ⟨_, hq, ts', ho, h12, htk⟩ | ⟨h, _⟩
        · cases hq
          have hsz : (w5.alloc (.cells #[.int .i64 pf, .int .i64 pl, .int .i64 pc] 32)).heap.size = w5.heap.size + 1 := World.size_alloc _ _
          rw [hsz] at ho
          have ho8 : (((w7.setCell ⟨w5.heap.size, 0, none⟩ (.int .i64 0)).setCell ⟨w5.heap.size, 1, none⟩ (.int .i64 0)).setCell ⟨w5.heap.size, 2, none⟩ (.int .i64 0)).ownsRow (w5.heap.size + 1 + 1) 41 5 v7 ts'.length (tksCells ts') := ownsRow_keep ho fun j hj => by
            have hne : j ≠ w5.heap.size := by have := (ho.lt j hj).1; omega
            rw [Below.heap_setCell _ _ _ _ hne, Below.heap_setCell _ _ _ _ hne, Below.heap_setCell _ _ _ _ hne]
          obtain ⟨p7, c7, rfl⟩ := ownsRow_form ho
          obtain ⟨n, hn⟩ : ∃ n, ts'.length = n := ⟨_, rfl⟩
          have HT := Lib.hid (And.intro ho8 (And.intro htk hn))
          rw [hn] at h12 ⊢
          clear ho ho8 htk hn hsz HLx
          go_upto_region 12 with fail
          clear s0 s1 s2 f0 f1 f2 hb7
          generalize ((w7.setCell ⟨w5.heap.size, 0, none⟩ (.int .i64 0)).setCell ⟨w5.heap.size, 1, none⟩ (.int .i64 0)).setCell ⟨w5.heap.size, 2, none⟩ (.int .i64 0) = W8 at *
          generalize w5.heap.size = g5 at *
          go_wp2_with fail
          go_loopw [85] (fun iv wr => ∃ i : Nat, i ≤ n ∧ iv = .int .i64 i ∧ Below W8.heap.size W8 wr) (fun iv _ => n - (intOf iv).toNat)
          case atStart => exact ⟨0, Nat.zero_le _, rfl, Below.refl _ _⟩
          case round =>
            obtain ⟨i, hi, rfl, hbr⟩ := hrel
            have HL := Lib.hid hbr
            clear hbr
            by_cases hlt : i < n
            · obtain ⟨t, ht⟩ : ∃ t, ts'[i]? = some t := ⟨_, List.getElem?_eq_getElem (by rw [HT.out.2.2]; exact hlt)⟩
              obtain ⟨j, m, hj, hm, h1, h2, h3, hor⟩ := tok_ok HPa.out (HT.out.2.1 t (List.mem_of_getElem? ht))
              have hrw := ownsRow_below HT.out.1 HL.out
              obtain ⟨g, c, e, k0, k1, k2, k3, k4⟩ := tk_cells hrw ht
              rw [HT.out.2.2] at e
              cases e
              obtain ⟨f, hf⟩ : ∃ f, fs.getD j default = f := ⟨_, rfl⟩
              rw [hf] at hm h2 h3 hor
              have hz : f.text.size ≤ 32768 := by rw [← hf]; exact HSz.out j
              have HOff : Hid (∀ w', Below wr.heap.size wr w' → Calls Tryz.prog 9 #[.pointer (some ⟨bt, 0, none⟩), .agg #[.int .i64 ((j : Int) + 1), .int .i64 (plTo f.text.data.toList m).1, .int .i64 (plTo f.text.data.toList m).2]] w' fun e w'' => e = .returned (.tuple #[.int .i64 m, .int .i64 0]) ∧ Below w'.heap.size w' w'') := Lib.hid fun w' hb => off_at ((H8.out.2.2.below HL.out).below hb) (by have := HL5.out; omega) j m f hf hj (Nat.le_of_lt hm) hz
              have HGet : Hid (∀ w', Below wr.heap.size wr w' → Calls Tryz.prog 10 #[.pointer (some ⟨bt, 0, none⟩), .int .i64 ((j : Int) + 1)] w' fun e w'' => e = .returned (.tuple #[.agg #[.string f.name, .string f.text], .int .i64 0]) ∧ Below w'.heap.size w' w'') := Lib.hid fun w' hb => by
                have := get_made ((H8.out.2.2.below HL.out).below hb) (by have := HL5.out; omega) j hj
                rw [hf] at this
                exact this
              obtain ⟨KD, PX, qf, ql, qc⟩ := t
              simp only at h1 h2 h3 hor k0 k1 k2 k3 k4
              rw [h1] at k2
              rw [h2] at k3
              rw [h3] at k4
              generalize ((plTo f.text.data.toList m).1 : Int) = q1 at *
              generalize ((plTo f.text.data.toList m).2 : Int) = q2 at *
              have hzi : (f.text.size : Int) ≤ 32768 := by omega
              have hmi : (m : Int) < f.text.size := by omega
              have hm0 : (0 : Int) ≤ m := by omega
              generalize f.name = NM at *
              obtain ⟨TX, hTX⟩ : ∃ x, f.text = x := ⟨_, rfl⟩
              rw [hTX] at hor hm hzi hmi HGet
              have HX := Lib.hid (And.intro hlt (And.intro hor hm))
              have hbx := Below.new wr (.cells #[.int .i64 KD, .string PX, .int .i64 ((j : Int) + 1), .int .i64 q1, .int .i64 q2] 41)
              have hkx := Blk.new (w := wr) 41 [.int .i64 KD, .string PX, .int .i64 ((j : Int) + 1), .int .i64 q1, .int .i64 q2]
              have HBx := Lib.hid (And.intro hbx hkx)
              have hii : (i : Int) < n := by omega
              have hi0 : (0 : Int) ≤ i := by omega
              have hiw : IntKind.i64.wrap ((i : Int) + 1) = (i : Int) + 1 := i64_of (by omega)
              clear hlt hi ht hj hm hrw hf h1 h2 h3 hz hTX hbx hkx hor
              go_upto_region 15 with fail
              generalize wr.alloc (.cells #[.int .i64 KD, .string PX, .int .i64 ((j : Int) + 1), .int .i64 q1, .int .i64 q2] 41) = wx at *
              clear k0 k1 k2 k3 k4
              generalize hgx : wr.heap.size = gx at *
              have HG := Lib.hid hgx
              clear hgx
              have c2 := HBx.out.2.cell (i := 2) rfl
              have c3 := HBx.out.2.cell (i := 3) rfl
              have c4 := HBx.out.2.cell (i := 4) rfl
              go_wp2_with fail
              refine (HOff.out wx HBx.out.1).mono ?_; rintro e wy ⟨rfl, hby⟩
              have hky := HBx.out.2.next hby
              have hgle : gx ≤ wx.heap.size := by rw [← HG.out]; exact HBx.out.1.size
              have HY := Lib.hid (And.intro (HBx.out.1.trans (hby.mono hgle)) hky)
              clear hby hky c2 c3 c4 HOff
              have c2 := HY.out.2.cell (i := 2) rfl
              go_wp2_with fail
              refine (HGet.out wy HY.out.1).mono ?_; rintro e wz ⟨rfl, hbz⟩
              have hbA := Below.new wz (.cells #[.string NM, .string TX] 43)
              have hkA := Blk.new (w := wz) 43 [.string NM, .string TX]
              have hkz := HY.out.2.next (Below.next hbz hbA)
              have hgy : gx ≤ wy.heap.size := by rw [← HG.out]; exact HY.out.1.size
              have HZ := Lib.hid (And.intro (HL.out.trans ((HY.out.1.trans ((Below.next hbz hbA).mono hgy)).mono (show W8.heap.size ≤ gx by rw [← HG.out]; exact HL.out.size))) (And.intro hkz hkA))
              clear hbz hbA hkA hkz c2 HGet HY HBx hgle hgy
              go_upto_region 17 with fail
              generalize wz.alloc (.cells #[.string NM, .string TX] 43) = wa at *
              generalize wz.heap.size = gz at *
              have c1 := HZ.out.2.1.cell (i := 1) rfl
              have d1 := HZ.out.2.2.cell (i := 1) rfl
              by_cases h96 : TX[m].toNat = 96
              · have h96i : ((TX[m].toNat : Int) == 96) = true := by rw [h96]; rfl
                go_wp2_with fail
                go_roundw
                case rel => exact ⟨i + 1, HX.out.1, by go_num, HZ.out.1⟩
                case measure => have := HX.out.1; simp [intOf]; omega
              · have h96i : ((TX[m].toNat : Int) == 96) = false := by simp; omega
                rcases HX.out.2.1 with h | ⟨hle, hPX⟩
                · exfalso
                  apply h96
                  rw [at_getD TX m HX.out.2.2, h]
                  rfl
                · go_upto_region 20 with fail
                  have hsb : IntKind.i64.wrap ((TX.size : Int) - (m : Int)) = (TX.size : Int) - (m : Int) := i64_of (by omega)
                  have hsa : IntKind.i64.wrap ((m : Int) + (PX.size : Int)) = (m : Int) + (PX.size : Int) := i64_of (by omega)
                  have hgt : ¬ (TX.size : Int) - (m : Int) < (PX.size : Int) := by omega
                  have hle2 : (m : Int) + (PX.size : Int) ≤ TX.size := by omega
                  have hle3 : (m : Int) ≤ (m : Int) + (PX.size : Int) := by omega
                  have hcmp : ((TX.extract m (m + PX.size)).toList == PX.toList) = true := by rw [← hPX]; exact beq_self_eq_true _
                  clear hPX hle
                  go_quiet (fail)
                  go_wp2_with fail
                  refine ⟨⟨i + 1, HX.out.1, by go_num, HZ.out.1.trans (below_drewN _)⟩, ?_⟩
                  have := HX.out.1
                  simp [intOf]; omega
            · obtain rfl : i = n := by omega
              clear hlt hi
              have HTe := Lib.hid (text_none wr)
              go_wp2_with fail
              refine HTe.out.mono ?_; rintro e w9 ⟨rfl, hb9⟩
              have H9 := Lib.hid ((HBa.out.trans (HL.out.mono HBa.out.size)).trans (hb9.mono (HBa.out.trans (HL.out.mono HBa.out.size)).size))
              clear hb9 HTe
              go_wp2_with fail
              go_ret
              exact ⟨rfl, H9.out⟩
        · exact absurd rfl h
      · rcases hcase with ⟨h, _⟩ | ⟨_, rfl, x, hx, L, C, hL, hC, k, hk, hq⟩
        · exact absurd h he7
        · obtain ⟨j, m, hj, hm, hf, hpl⟩ := pos_ok HPa.out hx hL hC hk
          rw [hpl, hf] at hq
          cases hq
          have HO := Lib.hid (off_at H8.out.2.2 (by have := HL5.out; omega) j m _ rfl hj hm (HSz.out j))
          have z0 := H8.out.2.1.cell (i := 0) rfl
          have z1 := H8.out.2.1.cell (i := 1) rfl
          have z2 := H8.out.2.1.cell (i := 2) rfl
          generalize ((plTo (fs.getD j default).text.data.toList m).1 : Int) = a1 at *
          generalize ((plTo (fs.getD j default).text.data.toList m).2 : Int) = a2 at *
          clear hx hL hC hk hj hm hf hpl HLx hb7
          go_upto_region 10 with fail
          clear s0 s1 s2 f0 f1 f2
          generalize ((w7.setCell ⟨w5.heap.size, 0, none⟩ (.int .i64 ((j : Int) + 1))).setCell ⟨w5.heap.size, 1, none⟩ (.int .i64 a1)).setCell ⟨w5.heap.size, 2, none⟩ (.int .i64 a2) = W8 at *
          generalize w5.heap.size = g5 at *
          go_wp2_with fail
          refine HO.out.mono ?_; rintro e w9 ⟨rfl, hb9⟩
          have H9 := Lib.hid (HBa.out.trans (hb9.mono HBa.out.size))
          clear hb9 HO z0 z1 z2
          go_wp2_with fail
          go_ret
          exact ⟨rfl, H9.out⟩
    · obtain ⟨hl0, hor⟩ := HInv.out.1.2 he
      (try simp only at hl0 hor)
      subst hl0
      have her : (er == 0) = false := by simp [he]
      have d0 := H6.out.2.2.2.1.cell (i := 0) rfl
      have d1 := H6.out.2.2.2.1.cell (i := 1) rfl
      have d2 := H6.out.2.2.2.1.cell (i := 2) rfl
      by_cases h9 : er = 9 ∧ (pf, pl, pc) = (0, 0, 0)
      · obtain ⟨rfl, e3⟩ := h9
        cases e3
        clear hor her HInv
        go_wp2_with fail
        go_ret
        exact ⟨rfl, H6.out.1⟩
      · have hpf : (1 : Int) ≤ pf ∧ pf ≤ fs.length := by
          rcases hor with h | h
          · exact absurd h h9
          · exact h
        obtain ⟨hpf1, hpf2⟩ := hpf
        have hpf0 : (pf == 0) = false := by simp; omega
        clear hor h9 her HInv
        go_wp2_with fail
        go_ret
        exact ⟨rfl, H6.out.1⟩
  · have hp : pt = none := H4.out.2.1 he
    subst hp
    have H5 := Lib.hid H4.out.1
    have her : (err == 0) = false := by simp [he]
    clear H4 her
    go_wp2_with fail
    go_ret
    exact ⟨congrArg (fun b => Ending.returned (Value.bool b)) (by simp [he]), H5.out⟩
end Go.Proofs.YtcjfelndnnhgjaaGreatDoor
