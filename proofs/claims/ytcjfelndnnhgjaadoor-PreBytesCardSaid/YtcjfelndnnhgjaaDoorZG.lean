/- Texts of this claim, one behind another: G28. They state lemmas; each names its own conditions. -/
import Derived.Test.YtcjfelndnnhgjaaDoorZF
import Derived.Test.YtcjfelndnnhgjaaDoorZE
import Derived.Test.YtcjfelndnnhgjaaDoorZ3
namespace Go.Proofs.YtcjfelndnnhgjaaDoor
set_option linter.unusedVariables false
open Go.RowKit Go.Maps

/-! # the place of a byte, back -/
theorem off_at {w : World} {bt : Nat} {ps : List Part} {fs : List Fil} (h : Made w bt ps fs) (hl : fs.length ≤ 100000) (n m : Nat) (f : Fil) (hf : fs.getD n default = f) (hn : n < fs.length) (hm : m ≤ f.text.size) (hz : f.text.size ≤ 32768) :
    Calls Tryd.prog 9 #[.pointer (some ⟨bt, 0, none⟩), .agg #[.int .i64 ((n : Int) + 1), .int .i64 (plTo f.text.data.toList m).1, .int .i64 (plTo f.text.data.toList m).2]] w fun e w' => e = .returned (.tuple #[.int .i64 m, .int .i64 0]) ∧ Below w.heap.size w w' := by
  have hle := plTo_le f.text.data.toList m
  refine (off_yes h hl n f hf hn _ _ (by omega) (placed_of f.text m hm)).mono ?_
  rintro e w' ⟨m', ⟨a, b, c⟩, rfl, hb⟩
  have := plTo_inj f.text m' m a hm (by omega) (by omega)
  subst this
  exact ⟨rfl, hb⟩
theorem at_getD (s : ByteArray) (k : Nat) (h : k < s.size) : s[k] = s.data.toList.getD k 0 := by
  have e : bstr s.data.toList = s := ByteArray.ext (by simp [bstr])
  have h' : k < (bstr s.data.toList).size := by rw [e]; exact h
  have := bstr_at s.data.toList k h'
  rw [← this]
  congr 1
theorem made_of {w : World} {fs : List Fil} {bt : Nat} {ps : List Part} (h1 : Tab w bt ps) (h2 : ps.length = fs.length) (h3 : ∀ i, i < fs.length → (ps.getD i default).name = (fs.getD i default).name ∧ (ps.getD i default).text = (fs.getD i default).text ∧ Known w (ps.getD i default) (starts (fs.getD i default).text)) : Made w bt ps fs :=
  ⟨h1, h2, fun i hi => (h3 i hi).1, fun i hi => (h3 i hi).2.1, fun i hi => (h3 i hi).2.2⟩
theorem pc_cells {w : World} {B : Nat} {v : Value} {l : List Pc} (h : w.ownsRow B 37 5 v l.length (outCells l)) {i : Nat} {p : Pc} (hp : l[i]? = some p) : ∃ g c, v = .slice (some ⟨g, 0, none⟩) l.length c ∧ w.cell? ⟨g, i * 5, none⟩ = some (.string (bstr p.text)) ∧ w.cell? ⟨g, i * 5 + 1, none⟩ = some (.int .i64 p.f) ∧ w.cell? ⟨g, i * 5 + 2, none⟩ = some (.int .i64 p.l) ∧ w.cell? ⟨g, i * 5 + 3, none⟩ = some (.int .i64 p.c) ∧ w.cell? ⟨g, i * 5 + 4, none⟩ = some (.bool p.fixed) := by
  have hi : i < l.length := (List.getElem?_eq_some_iff.1 hp).1
  obtain ⟨g, c, rfl, _⟩ := h.form (by omega)
  have e : l.getD i default = p := by rw [List.getD, hp]; rfl
  have q : ∀ r u, r < 5 → (pcCells p)[r]? = some u → w.cell? ⟨g, i * 5 + r, none⟩ = some u := fun r u hr hu => by
    rw [h.cellAt (i * 5 + r) (by omega), outCells_at l i r hi hr, e, hu]
  exact ⟨g, c, rfl, q 0 _ (by decide) rfl, q 1 _ (by decide) rfl, q 2 _ (by decide) rfl, q 3 _ (by decide) rfl, q 4 _ (by decide) rfl⟩
set_option maxRecDepth 100000 in
set_option maxHeartbeats 16000000 in
theorem bytes_law {w : World} {v : Value} {fs0 : List Fil} (hr : RO w v 2 fs0.length (filCells fs0)) (hl0 : fs0.length ≤ 9223372036854775807) (hnm : ∀ f ∈ fs0, f.name.size ≤ maxLen) (top : ByteArray) (hMax : Max w) :
    Calls Tryd.prog 3 #[v, .string top] w fun e w' => e = .returned (.bool true) ∧ Below w.heap.size w w' := by
  have HA := Lib.hid (awake_pre hMax)
  have HFw : Hid (∀ w', Below w.heap.size w w' → Calls Tryd.prog 5 #[v] w' fun e w'' => ∃ v', e = .returned v' ∧ RO w'' v' 2 (few7 fs0).length (filCells (few7 fs0)) ∧ Below w'.heap.size w' w'') := Lib.hid fun w' hb => few7_any v fs0 (hr.below hb) hl0
  have hl5 := few7_len fs0
  have HSz := Lib.hid (few7_sizes fs0)
  have HNm := Lib.hid (few7_names fs0 hnm)
  have HMx : Hid (∀ w', Below w.heap.size w w' → Max w') := Lib.hid fun w' hb => hMax.below hb
  obtain ⟨fs, hfs⟩ : ∃ fs, few7 fs0 = fs := ⟨_, rfl⟩
  rw [hfs] at HFw hl5 HSz HNm
  have HL5 := Lib.hid hl5
  have htop : bstr top.data.toList = top := ByteArray.ext (by simp [bstr])
  obtain ⟨tb, htb⟩ : ∃ tb, top.data.toList = tb := ⟨_, rfl⟩
  rw [htb] at htop
  have HTop := Lib.hid htop
  obtain ⟨p, c, rfl⟩ := hr.form
  clear hr hl0 hnm hMax hfs hl5 htb htop
  go_enter Tryd.func3, Tryd.ntmps3
  go_wp2_with fail
  refine HA.out.mono ?_; rintro e w1 ⟨rfl, hb1⟩
  have H1 := Lib.hid hb1
  clear hb1
  go_wp2_with fail
  refine (HFw.out w1 H1.out).mono ?_; rintro e w2 ⟨v2, rfl, hr2, hb2⟩
  have H2 := Lib.hid (And.intro (Below.next H1.out hb2) (files_any v2 fs hr2 (by have := HL5.out; omega)))
  clear hb2 hr2 HA HFw H1
  go_wp2_with fail
  refine H2.out.2.mono ?_; rintro e w3 ⟨v3, rfl, hr3, hb3⟩
  have H3 := Lib.hid (And.intro (Below.next H2.out.1 hb3) (new_any v3 fs hr3 (by have := HL5.out; omega) (fun i hi => HNm.out _ (by rw [List.getD, List.getElem?_eq_getElem hi]; exact List.getElem_mem hi)) (fun i _ => Nat.le_trans (HSz.out i) (by decide))))
  clear hb3 hr3 H2
  go_wp2_with fail
  refine H3.out.2.mono ?_; rintro e w4 ⟨err, pt, hne, rfl, hb4, hbad, hgood⟩
  have H4 := Lib.hid (And.intro (Below.next H3.out.1 hb4) (And.intro hbad hgood))
  clear hb4 hbad hgood H3 hne
  by_cases he : err = 0
  · obtain ⟨bt, ps, rfl, hT, hpl, _, hpt⟩ := H4.out.2.2 he
    subst he
    have HM := Lib.hid (made_of hT hpl hpt)
    have H4b := Lib.hid H4.out.1
    clear hT hpl hpt H4
    have HEx := Lib.hid (expand_pre HM.out (by have := HL5.out; omega) (HMx.out w4 H4b.out) HSz.out tb)
    rw [HTop.out] at HEx
    have hinv := expandP_inv (texts := textsOf fs) (find := findN fs) (n := fs.length) (findN_le fs) tb
    obtain ⟨R, hR⟩ : ∃ R, expandP (textsOf fs) (findN fs) tb = R := ⟨_, rfl⟩
    rw [hR] at HEx hinv
    obtain ⟨l, ⟨pf, pl, pc⟩, er⟩ := R
    have HInv := Lib.hid hinv
    (try simp only at HInv)
    clear hR hinv
    go_wp2_with fail
    refine HEx.out.mono ?_; rintro e w5 ⟨v5, rfl, hrow, hb5⟩
    (try simp only at hrow)
    (try simp only)
    have hb6 := Below.new w5 (.cells #[.int .i64 pf, .int .i64 pl, .int .i64 pc] 33)
    have hk6 := Blk.new (w := w5) 33 [.int .i64 pf, .int .i64 pl, .int .i64 pc]
    obtain ⟨p5, c5, rfl⟩ := ownsRow_form hrow
    have H6 := Lib.hid (And.intro (Below.next (Below.next H4b.out hb5) hb6) (And.intro (hrow.alloc (.cells #[.int .i64 pf, .int .i64 pl, .int .i64 pc] 33)) (And.intro (HM.out.below (Below.next hb5 hb6)) hk6)))
    have hnm : l.length ≤ 9223372036854775807 := by
      rcases hrow.2 with ⟨_, e⟩ | ⟨g', cap, cur, e, h1, h2, h3, h4, _⟩
      · omega
      · unfold maxLen at h4; omega
    clear hb6 hk6 hrow hb5 HEx HM H4b
    by_cases he : er = 0
    · subst he
      have hpa := HInv.out.1 rfl
      have HPa := Lib.hid hpa
      obtain ⟨n, hn⟩ : ∃ n, l.length = n := ⟨_, rfl⟩
      have HN := Lib.hid hn
      rw [hn] at H6 hnm ⊢
      clear hpa HInv hn
      go_upto_region 10 with fail
      generalize w5.alloc (.cells #[.int .i64 pf, .int .i64 pl, .int .i64 pc] 33) = W at *
      generalize w5.heap.size = g5 at *
      go_wp2_with fail
      go_loopw [54] (fun iv wr => ∃ i : Nat, i ≤ n ∧ iv = .int .i64 i ∧ Below W.heap.size W wr) (fun iv _ => n - (intOf iv).toNat)
      case atStart => exact ⟨0, Nat.zero_le _, rfl, Below.refl _ _⟩
      case round =>
        obtain ⟨i, hi, rfl, hbr⟩ := hrel
        have HL := Lib.hid hbr
        clear hbr
        by_cases hlt : i < n
        · obtain ⟨p, hp⟩ : ∃ p, l[i]? = some p := ⟨_, List.getElem?_eq_getElem (by rw [HN.out]; exact hlt)⟩
          obtain ⟨j, m, hj, hpa⟩ := HPa.out p (List.mem_of_getElem? hp)
          have hrw := ownsRow_below H6.out.2.1 HL.out
          rw [← HN.out] at hrw
          obtain ⟨g, c, e, k0, k1, k2, k3, k4⟩ := pc_cells hrw hp
          rw [HN.out] at e
          cases e
          obtain ⟨f, hf⟩ : ∃ f, fs.getD j default = f := ⟨_, rfl⟩
          have hT : textsOf fs (j + 1) = f.text.data.toList := by rw [← hf]; rfl
          obtain ⟨h1, h2, h3, hle, hne, hfx, hown⟩ := hpa
          rw [hT] at h2 h3 hle hfx hown
          have hTs : f.text.data.toList.length = f.text.size := by simp
          rw [hTs] at hle hfx hown
          have hz : f.text.size ≤ 32768 := by rw [← hf]; exact HSz.out j
          have HOff : Hid (∀ w', Below wr.heap.size wr w' → Calls Tryd.prog 9 #[.pointer (some ⟨bt, 0, none⟩), .agg #[.int .i64 ((j : Int) + 1), .int .i64 (plTo f.text.data.toList m).1, .int .i64 (plTo f.text.data.toList m).2]] w' fun e w'' => e = .returned (.tuple #[.int .i64 m, .int .i64 0]) ∧ Below w'.heap.size w' w'') := Lib.hid fun w' hb => off_at ((H6.out.2.2.1.below HL.out).below hb) (by have := HL5.out; omega) j m f hf hj hle hz
          have HGet : Hid (∀ w', Below wr.heap.size wr w' → Calls Tryd.prog 10 #[.pointer (some ⟨bt, 0, none⟩), .int .i64 ((j : Int) + 1)] w' fun e w'' => e = .returned (.tuple #[.agg #[.string f.name, .string f.text], .int .i64 0]) ∧ Below w'.heap.size w' w'') := Lib.hid fun w' hb => by
            have := get_made ((H6.out.2.2.1.below HL.out).below hb) (by have := HL5.out; omega) j hj
            rw [hf] at this
            exact this
          obtain ⟨px, qf, ql, qc, qb⟩ := p
          simp only at h1 h2 h3 hne hfx hown k0 k1 k2 k3 k4
          rw [h1] at k1
          rw [h2] at k2
          rw [h3] at k3
          generalize ((plTo f.text.data.toList m).1 : Int) = q1 at *
          generalize ((plTo f.text.data.toList m).2 : Int) = q2 at *
          obtain ⟨PX, hPX⟩ : ∃ x, bstr px = x := ⟨_, rfl⟩
          rw [hPX] at k0
          have hPn : 0 < PX.size := by rw [← hPX, bstr_size]; exact List.length_pos_iff.2 hne
          have hPe : PX.toList.isEmpty = false ∧ ¬ PX.toList = [] := by
            have hl := ByteArray.toList_eq PX
            have : PX.toList ≠ [] := by
              rw [hl]; intro e
              have := congrArg List.length e
              simp only [Array.length_toList, List.length_nil] at this
              have : PX.size = 0 := this
              omega
            exact ⟨by simpa [List.isEmpty_iff] using this, this⟩
          obtain ⟨hPe1, hPe2⟩ := hPe
          have HX := Lib.hid (And.intro hlt (And.intro hfx (And.intro hown (And.intro hPX hle))))
          have hzi : (f.text.size : Int) ≤ 32768 := by omega
          have hmi : (m : Int) ≤ f.text.size := by omega
          generalize f.name = NM at *
          obtain ⟨TX, hTX⟩ : ∃ x, f.text = x := ⟨_, rfl⟩
          rw [hTX] at HX hzi hmi HGet
          have hbx := Below.new wr (.cells #[.string PX, .int .i64 ((j : Int) + 1), .int .i64 q1, .int .i64 q2, .bool qb] 37)
          have hkx := Blk.new (w := wr) 37 [.string PX, .int .i64 ((j : Int) + 1), .int .i64 q1, .int .i64 q2, .bool qb]
          have HBx := Lib.hid (And.intro hbx hkx)
          have hii : (i : Int) < n := by omega
          have hi0 : (0 : Int) ≤ i := by omega
          have hiw : IntKind.i64.wrap ((i : Int) + 1) = (i : Int) + 1 := i64_of (by omega)
          clear hlt hi hp hj hrw hf hT h1 h2 h3 hle hne hfx hown hTs hz hPX hPn hTX hbx hkx
          go_upto_region 13 with fail
          generalize wr.alloc (.cells #[.string PX, .int .i64 ((j : Int) + 1), .int .i64 q1, .int .i64 q2, .bool qb] 37) = wx at *
          clear k0 k1 k2 k3 k4
          generalize hgx : wr.heap.size = gx at *
          have HG := Lib.hid hgx
          clear hgx
          have c1 := HBx.out.2.cell (i := 1) rfl
          have c2 := HBx.out.2.cell (i := 2) rfl
          have c3 := HBx.out.2.cell (i := 3) rfl
          go_wp2_with fail
          refine (HOff.out wx HBx.out.1).mono ?_; rintro e wy ⟨rfl, hby⟩
          have hky := HBx.out.2.next hby
          have hgle : gx ≤ wx.heap.size := by rw [← HG.out]; exact HBx.out.1.size
          have HY := Lib.hid (And.intro (HBx.out.1.trans (hby.mono hgle)) hky)
          clear hby hky c1 c2 c3 HOff
          have c1 := HY.out.2.cell (i := 1) rfl
          go_wp2_with fail
          refine (HGet.out wy HY.out.1).mono ?_; rintro e wz ⟨rfl, hbz⟩
          have hbA := Below.new wz (.cells #[.string NM, .string TX] 41)
          have hkA := Blk.new (w := wz) 41 [.string NM, .string TX]
          have hkz := HY.out.2.next (Below.next hbz hbA)
          have hgy : gx ≤ wy.heap.size := by rw [← HG.out]; exact HY.out.1.size
          have HZ := Lib.hid (And.intro (HL.out.trans ((HY.out.1.trans ((Below.next hbz hbA).mono hgy)).mono (show W.heap.size ≤ gx by rw [← HG.out]; exact HL.out.size))) (And.intro hkz hkA))
          clear hbz hbA hkA hkz c1 HGet HY HBx hgle hgy
          go_upto_region 15 with fail
          generalize wz.alloc (.cells #[.string NM, .string TX] 41) = wa at *
          generalize wz.heap.size = gz at *
          have c0 := HZ.out.2.1.cell (i := 0) rfl
          have c4 := HZ.out.2.1.cell (i := 4) rfl
          have d1 := HZ.out.2.2.cell (i := 1) rfl
          cases qb
          · obtain ⟨hle2, hby⟩ := HX.out.2.2.1 rfl
            have hps : PX.size = px.length := by rw [← HX.out.2.2.2.1, bstr_size]
            have hPi : (PX.size : Int) ≤ 32768 := by omega
            have hsb : IntKind.i64.wrap ((TX.size : Int) - (m : Int)) = (TX.size : Int) - (m : Int) := i64_of (by omega)
            have hgt : ¬ (TX.size : Int) - (m : Int) < (PX.size : Int) := by omega
            have HB7 := Lib.hid (And.intro hps (And.intro hby hle2))
            clear hle2 hby hps
            go_wp2_with fail
            clear c0 c4 d1
            go_loopw [110] (fun kv wr2 => ∃ k : Nat, k ≤ PX.size ∧ kv = .int .i64 k ∧ wr2 = wa) (fun kv _ => PX.size - (intOf kv).toNat)
            case atStart => exact ⟨0, Nat.zero_le _, rfl, rfl⟩
            case round =>
              obtain ⟨k, hk, rfl, rfl⟩ := hrel
              have c0 := HZ.out.2.1.cell (i := 0) rfl
              have d1 := HZ.out.2.2.cell (i := 1) rfl
              by_cases hlt : k < PX.size
              · obtain ⟨mk, hmk⟩ : ∃ mk, m + k = mk := ⟨_, rfl⟩
                have hmkT : mk < TX.size := by have := HB7.out.2.2; have := HB7.out.1; omega
                have hw1 : IntKind.i64.wrap ((m : Int) + (k : Int)) = (mk : Int) := by rw [i64_of (by omega)]; omega
                have hrel2 := HB7.out.2.1 k (by have := HB7.out.1; omega)
                rw [hmk, ← at_getD TX mk hmkT] at hrel2
                have hpxk : px.getD k 0 = PX[k] := by
                  have := at_getD PX k hlt
                  rw [this, ← HX.out.2.2.2.1]; simp [bstr]
                rw [hpxk] at hrel2
                have hki : (k : Int) < PX.size := by omega
                have hk0 : (0 : Int) ≤ k := by omega
                have hmi2 : (mk : Int) < TX.size := by omega
                have hkw : IntKind.i64.wrap ((k : Int) + 1) = (k : Int) + 1 := i64_of (by omega)
                have HK := Lib.hid (And.intro hlt hrel2)
                have hcmp : PX[k].toNat = TX[mk].toNat ∨ (¬ PX[k].toNat = TX[mk].toNat ∧ PX[k].toNat = 32 ∧ ¬ TX[mk].toNat = 10) := by
                  rcases hrel2 with h | ⟨h1, h2⟩
                  · left; rw [h]
                  · by_cases h3 : PX[k].toNat = TX[mk].toNat
                    · exact .inl h3
                    · refine .inr ⟨h3, by rw [h1]; rfl, fun h4 => h2 (UInt8.toNat_inj.1 (by rw [h4]; rfl))⟩
                clear hk hmk hrel2 hpxk
                rcases hcmp with h | ⟨h1, h2, h3⟩
                · have HH := Lib.hid h
                  clear h
                  go_wp2_with fail
                  all_goals try (have hh := HH.out; exfalso; omega)
                  go_roundw
                  case rel => exact ⟨k + 1, HK.out.1, by go_num, trivial⟩
                  case measure => have := HK.out.1; simp [intOf]; omega
                · have HH := Lib.hid (And.intro h1 (And.intro h2 h3))
                  have hq3 : ((TX[mk].toNat : Int) == 10) = false := by simp; omega
                  clear h1 h2 h3
                  go_wp2_with fail
                  all_goals try (obtain ⟨hh1, hh2, hh3⟩ := HH.out; exfalso; omega)
                  go_roundw
                  case rel => exact ⟨k + 1, HK.out.1, by go_num, trivial⟩
                  case measure => have := HK.out.1; simp [intOf]; omega
              · have hlt' : ¬ (k : Int) < PX.size := by omega
                clear hlt hk
                go_wp2_with fail
                go_roundw
                case rel => exact ⟨i + 1, HX.out.1, by go_num, HZ.out.1⟩
                case measure => have := HX.out.1; simp [intOf]; omega
          · obtain ⟨hlt2, h96⟩ := HX.out.2.1 rfl
            have hm96 : ((TX[m].toNat : Int) == 96) = true := by
              rw [at_getD TX m hlt2, h96]; rfl
            have hge : ¬ (TX.size : Int) ≤ (m : Int) := by omega
            have hm0 : (0 : Int) ≤ m := by omega
            have hmlt : (m : Int) < TX.size := by omega
            clear h96
            go_wp2_with fail
            go_roundw
            case rel => exact ⟨i + 1, HX.out.1, by go_num, HZ.out.1⟩
            case measure => have := HX.out.1; simp [intOf]; omega
        · obtain rfl : i = n := by omega
          clear hlt hi
          go_wp2_with fail
          go_ret
          exact ⟨rfl, H6.out.1.trans (HL.out.mono H6.out.1.size)⟩
    · obtain ⟨hl0, hor⟩ := HInv.out.2 he
      (try simp only at hl0 hor)
      subst hl0
      have her : (er == 0) = false := by simp [he]
      have d0 := H6.out.2.2.2.cell (i := 0) rfl
      clear he HInv
      by_cases h9 : er = 9
      · subst h9
        clear hor her
        go_wp2_with fail
        go_ret
        exact ⟨rfl, H6.out.1⟩
      · have h9b : (er == 9) = false := by simp [h9]
        have hpf : (1 : Int) ≤ pf := by
          rcases hor with h | h
          · exact absurd h.1 h9
          · exact h.1
        clear hor h9
        go_wp2_with fail
        go_ret
        exact ⟨rfl, H6.out.1⟩
  · have hp : pt = none := H4.out.2.1 he
    subst hp
    have H5 := Lib.hid H4.out.1
    have her : (err == 0) = false := by simp [he]
    clear H4 he
    go_wp2_with fail
    go_ret
    exact ⟨rfl, H5.out⟩
end Go.Proofs.YtcjfelndnnhgjaaDoor
