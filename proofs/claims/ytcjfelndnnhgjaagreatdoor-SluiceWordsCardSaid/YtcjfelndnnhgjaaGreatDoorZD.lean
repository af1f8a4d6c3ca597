/- Texts of this claim, one behind another: G24. They state lemmas; each names its own conditions. -/
import Derived.Test.YtcjfelndnnhgjaaGreatDoorZC
namespace Go.Proofs.YtcjfelndnnhgjaaGreatDoor
set_option linter.unusedVariables false
open Go.RowKit Go.Maps

def textsOf (fs : List Fil) (num : Nat) : Bs := (fs.getD (num - 1) default).text.data.toList
/-- one file more, or one fewer, is open -/
theorem XAt.files {base bx bm : Nat} {tv vt vo : Value} {w : World} {S : Xs} {k : Nat} {D : DataW Unit} (h : XAt base bx bm tv w S vt vo k D) (n : Nat) :
    XAt base bx bm tv (w.setCell ⟨bx, 5, none⟩ (.int .i64 (n : Int))) { S with files := n } vt vo k D ∧ Upd (fun g => g = bx) (fun g => g = bx) w (w.setCell ⟨bx, 5, none⟩ (.int .i64 (n : Int))) :=
  ⟨h.reblk (upd_cell _) (h.blk.set 5 _) rfl rfl rfl, upd_cell _⟩
theorem HasX.files {base bx : Nat} {tv : Value} {F : Nat → Prop} {w : World} {S : Xs} (h : HasX base bx tv F w S) (n : Nat) :
    HasX base bx tv F (w.setCell ⟨bx, 5, none⟩ (.int .i64 (n : Int))) { S with files := n } ∧ Upd F F w (w.setCell ⟨bx, 5, none⟩ (.int .i64 (n : Int))) := by
  obtain ⟨bm, vt, vo, k, D, hx, rfl⟩ := h
  obtain ⟨h1, h2⟩ := hx.files n
  exact ⟨⟨bm, vt, vo, k, D, h1, rfl⟩, h2.grow (fun g hg => .inl hg) (fun g hg => .inl hg)⟩
/-- the own blocks of the file are dropped -/
theorem Upd.dropG {F F' G G' : Nat → Prop} {w w1 w' : World} (hb : Below w.heap.size w w1) (hG : ∀ g, G g → w.heap.size ≤ g) (h : Upd (fun g => F g ∨ G g) (fun g => F' g ∨ G' g) w1 w') : Upd F F' w w' := by
  have hs := hb.size
  refine ⟨h.os.trans hb.os, h.tape.trans hb.tape, h.output.trans hb.output, Nat.le_trans hs h.size, fun g hg hn => ?_, fun g hg => ?_⟩
  · rw [h.block g (by omega) (fun hh => hh.elim hn (fun h2 => by have := hG g h2; omega))]
    exact hb.block g hg
  · rcases h.sub g (.inl hg) with (h1 | h1) | h1
    · exact .inl h1
    · exact .inr (hG g h1)
    · exact .inr (by omega)
theorem Upd.cover {F F' G G' : Nat → Prop} {w w1 w2 w3 : World} (h1 : Upd F F w w1) (hG : ∀ g, G g → w.heap.size ≤ g) (h2 : Upd (fun g => F g ∨ G g) (fun g => F' g ∨ G' g) w1 w2) (h3 : Upd F' F' w2 w3) : Upd F F' w w3 := by
  have hs := h1.size
  have hs2 := h2.size
  refine ⟨h3.os.trans (h2.os.trans h1.os), h3.tape.trans (h2.tape.trans h1.tape), h3.output.trans (h2.output.trans h1.output), Nat.le_trans hs (Nat.le_trans hs2 h3.size), fun g hg hn => ?_, fun g hg => ?_⟩
  · have hn2 : ¬ (F g ∨ G g) := fun hh => hh.elim hn (fun h => by have := hG g h; omega)
    have hn3 : ¬ F' g := fun hh => (h2.sub g (.inl hh)).elim hn2 (fun h => by omega)
    rw [h3.block g (by omega) hn3, h2.block g (by omega) hn2]
    exact h1.block g hg hn
  · rcases h3.sub g hg with hf | hf
    · rcases h2.sub g (.inl hf) with (h | h) | h
      · exact .inl h
      · exact .inr (hG g h)
      · exact .inr (by omega)
    · exact .inr (by omega)
set_option maxRecDepth 100000 in
set_option maxHeartbeats 8000000 in
theorem file_zero {base bx : Nat} {tv : Value} {texts : Nat → Bs} {find : Bs → Nat} {w : World} {F : Nat → Prop} {S : Xs} {num : Int} {nn : Nat} {f l c : Int} (h : HasX base bx tv F w S) (hf : S.files = 8) :
    Calls Tryz.prog 17 #[.pointer (some ⟨bx, 0, none⟩), .int .i64 num, .agg #[.int .i64 f, .int .i64 l, .int .i64 c]] w (XR base bx tv F w (fileP texts find 0 S nn f l c) (.tuple #[])) := by
  have hb1 := Below.new w (.cells #[.int .i64 f, .int .i64 l, .int .i64 c] 32)
  have k1 : Blk (w.alloc (.cells #[.int .i64 f, .int .i64 l, .int .i64 c] 32)) w.heap.size 32 [.int .i64 f, .int .i64 l, .int .i64 c] := Blk.new _ _
  have h1 := h.below hb1
  obtain ⟨bm, vt, vo, kk, D, hx, hF⟩ := h1
  have h1 := h.below hb1
  obtain ⟨n0, hn0⟩ : ∃ n, S.files = n := ⟨_, rfl⟩
  have c5 := hx.blk.cell (i := 5) rfl
  have f5 := hx.blk.frz 5
  rw [hn0] at c5
  have hne : bx ≠ w.heap.size := by have := (h.lt bx (by obtain ⟨_, _, _, _, _, hx, rfl⟩ := h; exact .inl rfl)).2; omega
  have HX := Lib.hid (And.intro h1 (And.intro hb1 (And.intro k1 (And.intro hn0 hne))))
  generalize hWW : w.alloc (.cells #[.int .i64 f, .int .i64 l, .int .i64 c] 32) = W at *
  have HWW := Lib.hid hWW
  obtain ⟨bo, hbo⟩ : ∃ bo, w.heap.size = bo := ⟨_, rfl⟩
  have HBo := Lib.hid hbo
  have hn1 : IntKind.i64.wrap ((n0 : Int) + 1) = ((n0 + 1 : Nat) : Int) := by rw [i64_of (by omega)]; omega
  obtain ⟨n1, hn1e⟩ : ∃ n1, n0 + 1 = n1 := ⟨_, rfl⟩
  rw [hn1e] at hn1
  have HN1 := Lib.hid hn1e
  clear h k1 h1 hx hF hb1 hne hn0 hn1e
  have hgt : decide ((8 : Int) < (n1 : Int)) = true := decide_eq_true (by have := HX.out.2.2.2.1; have := HN1.out; omega)
  go_enter Tryz.func17, Tryz.ntmps17
  go_upto_region 2 with fail
  have hfs := HX.out.1.files n1
  have k2 := HX.out.2.2.1.other (a := ⟨bx, 5, none⟩) (.int .i64 (n1 : Int)) (Ne.symm HX.out.2.2.2.2)
  rw [HBo.out] at k2
  have H2 := Lib.hid (And.intro hfs.1 (And.intro ((Upd.below HX.out.2.1).trans hfs.2) k2))
  clear hfs k2 c5 f5 hWW hbo hn1
  generalize W.setCell ⟨bx, 5, none⟩ (.int .i64 (n1 : Int)) = W2 at *
  obtain ⟨bm2, vt2, vo2, kk2, D2, hx2, hF2⟩ := H2.out.1
  have c5 := hx2.blk.cell (i := 5) rfl
  have e0 := H2.out.2.2.cell (i := 0) rfl
  have e1 := H2.out.2.2.cell (i := 1) rfl
  have e2 := H2.out.2.2.cell (i := 2) rfl
  have c0 := hx2.blk.cell (i := 0) rfl
  clear hx2 hF2
  go_wp2_with fail
  refine (fail_any H2.out.1 f l c 8).mono ?_; rintro e w5 ⟨F5, rfl, hx5, hu5⟩
  have H5 := Lib.hid (And.intro hx5 (H2.out.2.1.trans hu5))
  clear hx5 hu5
  go_wp2_with fail
  go_end0
  refine ⟨F5, rfl, ?_, H5.out.2⟩
  have := H5.out.1
  rw [← HN1.out, ← HX.out.2.2.2.1] at this
  exact this
/-- the loop over a file's lines -/
structure LI (base bx bf : Nat) (tv : Value) (F G : Nat → Prop) (w0 wr : World) (n : Nat) (T X : Bs) (file : Xs → Nat → Int → Int → Int → Xs) (find : Bs → Nat) (fl : Nat) (R : Xs × Fs) (m : Nat) : Prop where
  ex : ∃ S P F' G' k, X.length < m + k ∧ HasXF base bx bf tv F' G' wr S P ∧ WX S ∧ (S.err = 0 → S.files = fl) ∧ fl ≤ S.files ∧ S.files ≤ fl + 1 ∧ P.num = n ∧ P.conds.length ≤ m ∧ Upd (fun g => F g ∨ G g) (fun g => F' g ∨ G' g) w0 wr ∧ TX (if m ≤ X.length then 0 else 1) S ∧ linesL file find n T X k m S P = R
  le : m ≤ X.length + 1
set_option maxRecDepth 100000 in
set_option maxHeartbeats 16000000 in
theorem file_succ {w0 : World} {bx bt : Nat} {ps : List Part} {fs : List Fil} (hM : Made w0 bt ps fs) (hl : fs.length ≤ 100000) (hMax : Max w0) (htl : ∀ n, (fs.getD n default).text.size ≤ 32768) {d : Nat} (hd : d < 8)
    (ih : ∀ (w : World) (F : Nat → Prop) (S : Xs) (num : Nat) (f l c : Int), HasX w0.heap.size bx (.pointer (some ⟨bt, 0, none⟩)) F w S → WX S → Below w0.heap.size w0 w → S.err = 0 → S.files + d = 8 → 1 ≤ num → num ≤ fs.length → TX 0 S →
      Calls Tryz.prog 17 #[.pointer (some ⟨bx, 0, none⟩), .int .i64 num, .agg #[.int .i64 f, .int .i64 l, .int .i64 c]] w (XR w0.heap.size bx (.pointer (some ⟨bt, 0, none⟩)) F w (fileP (textsOf fs) (findN fs) d S num f l c) (.tuple #[])))
    {w : World} {F : Nat → Prop} {S : Xs} {n : Nat} {f l c : Int} (h : HasX w0.heap.size bx (.pointer (some ⟨bt, 0, none⟩)) F w S) (hw : WX S) (h0 : Below w0.heap.size w0 w) (herr : S.err = 0) (hf : S.files + (d + 1) = 8) (hn : n < fs.length) (htn : TX 0 S) :
    Calls Tryz.prog 17 #[.pointer (some ⟨bx, 0, none⟩), .int .i64 ((n : Int) + 1), .agg #[.int .i64 f, .int .i64 l, .int .i64 c]] w (XR w0.heap.size bx (.pointer (some ⟨bt, 0, none⟩)) F w (fileP (textsOf fs) (findN fs) (d + 1) S (n + 1) f l c) (.tuple #[])) := by
  have hlow : ∀ (W' : World) (F' : Nat → Prop), Upd F F' w W' → Below w0.heap.size w0 W' := fun W' F' hu => h0.trans (hu.low (fun g hg => (h.lt g hg).1) h0.size)
  have hFb : ∀ g, F g → w0.heap.size ≤ g ∧ g < w.heap.size := h.lt
  have hGet := fun W' (F' : Nat → Prop) (hu : Upd F F' w W') => get_made (hM.below (hlow W' F' hu)) hl n hn
  have hMx : ∀ (W' : World) (F' : Nat → Prop), Upd F F' w W' → Max W' := fun W' F' hu => hMax.below (hlow W' F' hu)
  obtain ⟨base, hbase⟩ : ∃ base, w0.heap.size = base := ⟨_, rfl⟩
  have hbw : base ≤ w.heap.size := by rw [← hbase]; exact h0.size
  obtain ⟨T, hT⟩ : ∃ T, textsOf fs (n + 1) = T := ⟨_, rfl⟩
  have hT0 : (fs.getD n default).text.data.toList = T := hT
  obtain ⟨TB, hTB⟩ : ∃ TB, (fs.getD n default).text = TB := ⟨_, rfl⟩
  have hPos := fun W' (F' : Nat → Prop) (hu : Upd F F' w W') (b : Nat) (hb : b ≤ TB.size) => pos_at (hM.below (hlow W' F' hu)) hl n b _ rfl hn (by rw [hTB]; exact hb)
  obtain ⟨NB, hNB⟩ : ∃ NB, (fs.getD n default).name = NB := ⟨_, rfl⟩
  rw [hTB, hNB] at hGet
  rw [hTB] at hPos hT0
  rw [hT0] at hPos
  have hTl : T.length ≤ 32768 := by have := htl n; rw [hTB] at this; rw [← hT0]; simpa using this
  have hbT : bstr T = TB := by rw [← hT0]; apply ByteArray.ext; simp [bstr]
  obtain ⟨XB, o, hp⟩ : ∃ X o, plainP T = (X, o) := ⟨_, _, rfl⟩
  have hPl := fun W' hM' => plain_any (w := W') T (by omega) hM'
  rw [hbT, hp] at hPl
  obtain ⟨R, hR⟩ : ∃ R, fileP (textsOf fs) (findN fs) (d + 1) S (n + 1) f l c = R := ⟨_, rfl⟩
  have hR0 := hR
  rw [hR]
  unfold fileP at hR0
  rw [hT, hp] at hR0
  have HLow := Lib.hid (And.intro hlow hFb)
  have HGet := Lib.hid hGet
  have HMx := Lib.hid hMx
  have HPos := Lib.hid hPos
  have HPl := Lib.hid hPl
  have HT := Lib.hid (And.intro hT (And.intro hTB (And.intro hT0 (And.intro hTl (And.intro hbT hp)))))
  have HR := Lib.hid hR0
  have HM := Lib.hid (And.intro hM (And.intro hl (And.intro hbase hbw)))
  have HS := Lib.hid (And.intro hw (And.intro herr (And.intro hf (And.intro hn (And.intro hd htn)))))
  have HIh := Lib.hid ih
  have HTl := Lib.hid htl
  rw [hbase] at h ⊢
  have hfile8 : S.files ≤ 7 := by omega
  clear hM hl hMax htl ih h0 hw herr hf hn htn hd hT hT0 hTl hR hR0 hbT hp hPl hPos hMx hGet hFb hlow hTB hNB
  have hb1 := Below.new w (.cells #[.int .i64 f, .int .i64 l, .int .i64 c] 32)
  have k1 : Blk (w.alloc (.cells #[.int .i64 f, .int .i64 l, .int .i64 c] 32)) w.heap.size 32 [.int .i64 f, .int .i64 l, .int .i64 c] := Blk.new _ _
  have h1 := h.below hb1
  obtain ⟨bm, vt, vo, kk, D, hx, hF⟩ := h1
  have h1 := h.below hb1
  obtain ⟨n0, hn0⟩ : ∃ n, S.files = n := ⟨_, rfl⟩
  have c5 := hx.blk.cell (i := 5) rfl
  have f5 := hx.blk.frz 5
  rw [hn0] at c5
  have hne : bx ≠ w.heap.size := by have := (h.lt bx (by obtain ⟨_, _, _, _, _, hx, rfl⟩ := h; exact .inl rfl)).2; omega
  have HX := Lib.hid (And.intro h1 (And.intro hb1 (And.intro k1 (And.intro hn0 hne))))
  generalize hWW : w.alloc (.cells #[.int .i64 f, .int .i64 l, .int .i64 c] 32) = W at *
  have HWW := Lib.hid hWW
  obtain ⟨bo, hbo⟩ : ∃ bo, w.heap.size = bo := ⟨_, rfl⟩
  have HBo := Lib.hid hbo
  have hn1 : IntKind.i64.wrap ((n0 : Int) + 1) = ((n0 + 1 : Nat) : Int) := by rw [i64_of (by omega)]; omega
  obtain ⟨n1, hn1e⟩ : ∃ n1, n0 + 1 = n1 := ⟨_, rfl⟩
  rw [hn1e] at hn1
  have HN1 := Lib.hid hn1e
  clear h k1 h1 hx hF hb1 hne hn0 hn1e
  have hgt : decide ((8 : Int) < (n1 : Int)) = false := decide_eq_false (by have := HX.out.2.2.2.1; have := HN1.out; omega)
  clear hfile8 hbw hbase
  go_enter Tryz.func17, Tryz.ntmps17
  go_upto_region 2 with fail
  have hfs := HX.out.1.files n1
  have k2 := HX.out.2.2.1.other (a := ⟨bx, 5, none⟩) (.int .i64 (n1 : Int)) (Ne.symm HX.out.2.2.2.2)
  rw [HBo.out] at k2
  have H2 := Lib.hid (And.intro hfs.1 (And.intro ((Upd.below HX.out.2.1).trans hfs.2) k2))
  clear hfs k2 c5 f5 hWW hbo hn1
  generalize W.setCell ⟨bx, 5, none⟩ (.int .i64 (n1 : Int)) = W2 at *
  obtain ⟨bm2, vt2, vo2, kk2, D2, hx2, hF2⟩ := H2.out.1
  have c5 := hx2.blk.cell (i := 5) rfl
  have e0 := H2.out.2.2.cell (i := 0) rfl
  have e1 := H2.out.2.2.cell (i := 1) rfl
  have e2 := H2.out.2.2.cell (i := 2) rfl
  have c0 := hx2.blk.cell (i := 0) rfl
  clear hx2 hF2
  go_wp2_with fail
  refine (HGet.out W2 F H2.out.2.1).mono ?_; rintro e w3 ⟨rfl, hb3⟩
  have H3 := Lib.hid (And.intro (H2.out.1.below hb3) (H2.out.2.1.trans (Upd.below hb3)))
  clear hb3 c5 c0 e0 e1 e2 H2
  go_wp2_with fail
  generalize hW4 : w3.alloc _ = W4 at *
  have hb4 : Below w3.heap.size w3 W4 := by rw [← hW4]; exact Below.new _ _
  have H4 := Lib.hid (And.intro (H3.out.1.below hb4) (H3.out.2.trans (Upd.below hb4)))
  clear hb4 hW4 H3
  refine (HPl.out W4 (HMx.out W4 F H4.out.2)).mono ?_; rintro e w5 ⟨rfl, hb5⟩
  have H5 := Lib.hid (And.intro (H4.out.1.below hb5) (H4.out.2.trans (Upd.below hb5)))
  clear hb5 H4
  cases o with
  | some b =>
    have hbl : b < T.length := plainP_lt (by rw [HT.out.2.2.2.2.2])
    have hbi : decide ((0 : Int) ≤ (b : Int)) = true := decide_eq_true (by omega)
    have hP := HPos.out w5 F H5.out.2 b (by have : TB.size = T.length := by rw [← HT.out.2.2.1]; simp
                                            omega)
    have h0R := HR.out
    simp only at h0R
    have HP := Lib.hid hP
    have HR2 := Lib.hid h0R
    clear hP h0R hbl
    obtain ⟨bm5, vt5, vo5, kk5, D5, hx5, hF5⟩ := H5.out.1
    have c0 := hx5.blk.cell (i := 0) rfl
    clear hx5 hF5
    unfold badV
    simp only
    go_wp2_with fail
    refine HP.out.mono ?_; rintro e w6 ⟨rfl, hb6⟩
    have H6 := Lib.hid (And.intro (H5.out.1.below hb6) (H5.out.2.trans (Upd.below hb6)))
    clear hb6
    go_wp2_with fail
    refine (fail_any (H6.out.1.below (Below.new w6 (.cells #[.int .i64 ((n : Int) + 1), .int .i64 (plTo T b).1, .int .i64 (plTo T b).2] 32))) ((n : Int) + 1) (plTo T b).1 (plTo T b).2 6).mono ?_; rintro e w7 ⟨F7, rfl, hx7, hu7⟩
    have H7 := Lib.hid (And.intro hx7 ((H6.out.2.trans (Upd.below (Below.new w6 (.cells #[.int .i64 ((n : Int) + 1), .int .i64 (plTo T b).1, .int .i64 (plTo T b).2] 32)))).trans hu7))
    clear hx7 hu7
    go_wp2_with fail
    go_end0
    refine ⟨F7, rfl, ?_, H7.out.2⟩
    have := H7.out.1
    rw [← HN1.out, ← HX.out.2.2.2.1] at this
    rw [← HR2.out]
    exact this
  | none =>
    have h0R := HR.out
    simp only at h0R
    rw [Nat.add_sub_cancel] at h0R
    obtain ⟨RR, hRR⟩ : ∃ RR, linesL (fileP (textsOf fs) (findN fs) d) (findN fs) n T XB (XB.length + 1) 0 { S with files := S.files + 1 } ⟨n, [], false⟩ = RR := ⟨_, rfl⟩
    rw [hRR] at h0R
    rw [HX.out.2.2.2.1, HN1.out] at hRR
    have hXl : XB.length = T.length := plainP_len HT.out.2.2.2.2.2
    obtain ⟨XS, hXS⟩ : ∃ XS, bstr XB = XS := ⟨_, rfl⟩
    have hXz : XS.size = XB.length := by rw [← hXS, bstr_size]
    rw [hXS]
    have hXb : (XS.size : Int) ≤ 32768 := by have := HT.out.2.2.2.1; omega
    have HXs := Lib.hid (And.intro hXS (And.intro hXz hXl))
    have HRR := Lib.hid hRR
    have HR2 := Lib.hid h0R
    obtain ⟨fileD, hfileD⟩ : ∃ fd, fileP (textsOf fs) (findN fs) d = fd := ⟨_, rfl⟩
    have hfo : FileOk fileD := by
      rw [← hfileD]
      refine fileP_gx (fun j => ?_) d
      show (fs.getD (j - 1) default).text.data.toList.length ≤ _
      have := HTl.out (j - 1)
      simpa using this
    have hfb : FileB fileD := by rw [← hfileD]; exact fileP_fb _ _ d
    have hih := fun (W' : World) (F' : Nat → Prop) (S' : Xs) (nm : Nat) (f' l' c' : Int) (q1 : HasX base bx (.pointer (some ⟨bt, 0, none⟩)) F' W' S') (q2 : WX S') (q3 : Below w0.heap.size w0 W') (q4 : S'.err = 0) (q5 : S'.files = n1) (q6 : 1 ≤ nm) (q7 : nm ≤ fs.length) (q8 : TX 0 S') =>
      HIh.out W' F' S' nm f' l' c' (by rw [HM.out.2.2.1]; exact q1) q2 q3 q4 (by have := HS.out.2.2.1; have := HX.out.2.2.2.1; have := HN1.out; omega) q6 q7 q8
    rw [hfileD, HM.out.2.2.1] at hih
    rw [hfileD] at HRR
    have hcb : TX (if 0 ≤ XB.length then 0 else 1) { S with files := n1 } := by rw [if_pos (Nat.zero_le _)]; exact ⟨HS.out.2.2.2.2.2.tn, HS.out.2.2.2.2.2.sz⟩
    have HFile := Lib.hid (And.intro hfo (And.intro hfb (And.intro hih hcb)))
    clear hfo hfb hih hcb hRR h0R hXS hXz hXl hfileD HIh
    unfold badV
    simp only
    go_wp2_with fail
    have hbx6 := Below.new w5 (.cells #[.pointer (some ⟨bx, 0, none⟩), .int .i64 ((n : Int) + 1), .slice none 0 0, .bool false] 86)
    have kf : Blk (w5.alloc (.cells #[.pointer (some ⟨bx, 0, none⟩), .int .i64 ((n : Int) + 1), .slice none 0 0, .bool false] 86)) w5.heap.size 86 [.pointer (some ⟨bx, 0, none⟩), .int .i64 ((n : Int) + 1), .slice none 0 0, .bool false] := Blk.new _ _
    have hx6 := H5.out.1.below hbx6
    have hu6 := H5.out.2.trans (Upd.below (F := F) hbx6)
    have hG6 : ∀ g, fFoot w5.heap.size (.slice none 0 0) g → g = w5.heap.size := fun g hg => hg.elim id (fun h => by cases h)
    have hdis : ∀ g, fFoot w5.heap.size (.slice none 0 0) g → ¬ F g := fun g hg hF => by rw [hG6 g hg] at hF; have := (H5.out.1.lt _ hF).2; omega
    have hbase6 : base ≤ w5.heap.size := Nat.le_trans HM.out.2.2.2 H5.out.2.size
    have hG7 : ∀ g, fFoot w5.heap.size (.slice none 0 0) g → w.heap.size ≤ g := fun g hg => by rw [hG6 g hg]; exact H5.out.2.size
    have hfat : FAt base bx w5.heap.size (w5.alloc (.cells #[.pointer (some ⟨bx, 0, none⟩), .int .i64 ((n : Int) + 1), .slice none 0 0, .bool false] 86)) ⟨n, [], false⟩ (.slice none 0 0) :=
      ⟨kf, World.ownsRow_nil _ _ _ _, by simp [Value.ownBlock], hbase6, Nat.zero_le _⟩
    obtain ⟨G, hGG⟩ : ∃ G, fFoot w5.heap.size (.slice none 0 0) = G := ⟨_, rfl⟩
    rw [hGG] at hdis hG7
    have hxf : HasXF base bx w5.heap.size (.pointer (some ⟨bt, 0, none⟩)) F G (w5.alloc (.cells #[.pointer (some ⟨bx, 0, none⟩), .int .i64 ((n : Int) + 1), .slice none 0 0, .bool false] 86)) { S with files := n1 } ⟨n, [], false⟩ :=
      ⟨hx6, ⟨_, hfat, hGG.symm⟩, hdis⟩
    generalize w5.alloc (.cells #[.pointer (some ⟨bx, 0, none⟩), .int .i64 ((n : Int) + 1), .slice none 0 0, .bool false] 86) = W6 at *
    generalize w5.heap.size = bf at *
    have H6 := Lib.hid (And.intro hxf (And.intro hu6 hG7))
    have hli : LI base bx bf (.pointer (some ⟨bt, 0, none⟩)) F G W6 W6 n T XB fileD (findN fs) n1 RR 0 :=
      ⟨⟨{ S with files := n1 }, ⟨n, [], false⟩, F, G, XB.length + 1, by omega, hxf, ⟨HS.out.1.dl, HS.out.1.tl, HS.out.1.tn, fun e => ⟨(HS.out.1.fx e).size, (HS.out.1.fx e).out, (HS.out.1.fx e).text⟩⟩, fun _ => rfl, Nat.le_refl _, Nat.le_succ _, rfl, Nat.zero_le _, Upd.refl _ _, HFile.out.2.2.2, HRR.out⟩, Nat.zero_le _⟩
    have HLi := Lib.hid hli
    clear hbx6 kf hx6 hu6 hG6 hdis hbase6 hG7 hfat hGG hxf hli
    go_loopw [13] (fun iv wr => ∃ m : Nat, iv = .int .i64 m ∧ LI base bx bf (.pointer (some ⟨bt, 0, none⟩)) F G W6 wr n T XB fileD (findN fs) n1 RR m) (fun iv _ => XB.length + 1 - (intOf iv).toNat)
    case atStart => exact ⟨0, rfl, HLi.out⟩
    case round =>
      obtain ⟨m, rfl, hli⟩ := hrel
      obtain ⟨⟨S1, P1, F1, G1, k1, hk, hx1, hw1, hfl, hlo, hhi, hnu, hcl, hu1, hbud, hlin⟩, hml⟩ := hli
      obtain ⟨vc, hf1, hG1⟩ := hx1.f
      obtain ⟨bm1, vt1, vo1, kk1, D1, hxa, hF1⟩ := hx1.x
      have x9 := hxa.blk.cell (i := 9) rfl
      have hmb : (m : Int) ≤ 40000 := by have := HT.out.2.2.2.1; have := HXs.out.2.2; omega
      have hlow1 : Below w0.heap.size w0 wr := by
        have := (HLow.out.1 W6 F H6.out.2.1)
        exact this.trans (hu1.low (fun g hg => HM.out.2.2.1 ▸ H6.out.1.base g hg) this.size)
      have H1 := Lib.hid (And.intro hk (And.intro hx1 (And.intro hw1 (And.intro hfl (And.intro hlo (And.intro hhi (And.intro hnu (And.intro hcl (And.intro hu1 (And.intro hbud (And.intro hml hlow1)))))))))))
      have HLin := Lib.hid hlin
      clear hk hx1 hw1 hfl hlo hhi hnu hcl hu1 hbud hlin hml hf1 hG1 hxa hF1 hlow1
      by_cases hm : m < XB.length
      · have hmi : (m : Int) < (XS.size : Int) := by have := HXs.out.2.1; omega
        have hmle : (m : Int) ≤ (XS.size : Int) := by omega
        by_cases he : S1.err = 0
        · rw [he] at x9
          have hxd : bstr (XB.drop m) = XS.extract m XS.size := by rw [← HXs.out.1, bstr_size, bstr_extract, List.take_length]
          have hxdd : (XS.extract m XS.size).data.toList = XB.drop m := by rw [← hxd]; simp [bstr]
          have hIB := Tryz.strings_IndexByte (XS.extract m XS.size) 10 wr
          rw [hxdd] at hIB
          have hlr := HLin.out
          obtain ⟨k, rfl⟩ : ∃ k, k1 = k + 1 := ⟨k1 - 1, by have := H1.out.1; omega⟩
          rw [linesL, if_pos ⟨hm, he⟩] at hlr
          have hbr := H1.out.2.2.2.2.2.2.2.2.2.1
          rw [if_pos (Nat.le_of_lt hm)] at hbr
          have hline := fun (s : Bs) (ended : Bool) (hs : m + s.length ≤ XB.length) (_ : True) => by
            have := line_any (w := wr) (k := 0) (Nat.zero_le _) he hbr HM.out.1 HM.out.2.1 H1.out.2.2.2.2.2.2.2.2.2.2.2 (by rw [HM.out.2.2.1]; exact H1.out.2.1) H1.out.2.2.1 n H1.out.2.2.2.2.2.2.1 TB (by rw [HT.out.2.1]) HS.out.2.2.2.1 T HT.out.2.2.1 s m ended (by have := HXs.out.2.2; have := HT.out.2.2.2.1; omega) (by have := HXs.out.2.2; omega) HT.out.2.2.2.1 (by have := H1.out.2.2.2.2.2.2.2.1; have := HXs.out.2.2; have := HT.out.2.2.2.1; omega) fileD HFile.out.1 (fun f' l' c' W' F' nm q1 q2 q3 q4 => by
              have := HFile.out.2.2.1 W' F' S1 nm f' l' c' (by rw [← HM.out.2.2.1]; exact q1) H1.out.2.2.1 (by rw [← HM.out.2.2.1]; exact q2) he (H1.out.2.2.2.1 he) q3 q4 hbr
              rw [HM.out.2.2.1]
              exact this)
            rw [HM.out.2.2.1] at this
            exact this
          cases hc : cutB 10 (XB.drop m) with
          | none =>
            rw [hc] at hlr
            simp only at hlr
            have hi : Lib.indexByte (XB.drop m) (10 : Int).toNat.toUInt8 = -1 := cutB_none hc
            rw [hi] at hIB
            have hL := hline (XB.drop m) false (by rw [List.length_drop]; omega) trivial
            rw [hxd] at hL
            have hgx := lineP_gx (find := findN fs) (T := T) (num := n) HFile.out.1 (Nat.zero_le _) he P1 (XB.drop m) m false H1.out.2.2.1 hbr (by rw [List.length_drop]; have := HXs.out.2.2; have := HT.out.2.2.2.1; omega) H1.out.2.2.2.2.2.2.1
            have hfbx := lineP_fb (find := findN fs) HFile.out.2.1 n T (XB.drop m) m false S1 P1
            have hw1 : IntKind.i64.wrap ((XS.size : Int) + 1) = ((XB.length + 1 : Nat) : Int) := by rw [i64_of (by omega)]; have := HXs.out.2.1; omega
            have HIB := Lib.hid hIB
            have HL := Lib.hid hL
            obtain ⟨Q, hQ⟩ : ∃ Q, lineP fileD (findN fs) n T (XB.drop m) m false S1 P1 = Q := ⟨_, rfl⟩
            rw [hQ] at HL hgx hfbx hlr
            have HQ := Lib.hid (And.intro hgx (And.intro hfbx (And.intro hlr he)))
            have HBr := Lib.hid hbr
            have HMl := Lib.hid hm
            clear hxd hxdd hIB hlr hbr hline hi hL hgx hfbx hQ he hc hm
            go_wp2_with fail
            refine HIB.out.mono ?_; rintro e wn ⟨rfl, hwn⟩; obtain rfl : wr = wn := hwn.symm
            go_wp2_with fail
            refine HL.out.mono ?_; rintro e w8 ⟨F8, G8, rfl, hx8, hu8⟩
            have H8 := Lib.hid (And.intro hx8 hu8)
            clear hx8 hu8
            go_wp2_with fail
            obtain ⟨⟨g1, g2, g3⟩, ⟨b1, b2, b3⟩, q1, q2⟩ := HQ.out
            have g2' : TX 1 Q.1 := g1.tx
            have h1 := H1.out
            have hfn := h1.2.2.2.1 q2
            refine ⟨⟨XB.length + 1, rfl, ⟨⟨Q.1, Q.2, F8, G8, 0, by omega, H8.out.1, g1.wx, fun e => (b3 e).2.trans hfn, by omega, by omega, g2, by have := h1.2.2.2.2.2.2.2.1; have := HMl.out; omega, h1.2.2.2.2.2.2.2.2.1.trans H8.out.2, ?_, q1⟩, Nat.le_refl _⟩⟩, ?_⟩
            · rw [if_neg (by omega)]; exact g2'
            · have := HMl.out
              show XB.length + 1 - (((XB.length : Nat) : Int) + 1).toNat < XB.length + 1 - ((m : Nat) : Int).toNat
              omega
          | some xy =>
            obtain ⟨x, y⟩ := xy
            rw [hc] at hlr
            simp only at hlr
            have hi : Lib.indexByte (XB.drop m) (10 : Int).toNat.toUInt8 = (x.length : Int) := (cutB_some hc).2
            have hxy := (cutB_some hc).1
            have hxl : (XB.drop m).length = x.length + 1 + y.length := by rw [hxy]; simp; omega
            rw [List.length_drop] at hxl
            rw [hi] at hIB
            obtain ⟨ma, hma⟩ : ∃ ma, m + x.length = ma := ⟨_, rfl⟩
            have hL := hline x true (by omega) trivial
            have hxe : bstr x = XS.extract m ma := by
              rw [← HXs.out.1, bstr_extract, ← hma, List.drop_take, hxy, show m + x.length - m = x.length by omega, List.take_left]
            rw [hxe] at hL
            have hgx := lineP_gx (find := findN fs) (T := T) (num := n) HFile.out.1 (Nat.zero_le _) he P1 x m true H1.out.2.2.1 hbr (by have := HXs.out.2.2; have := HT.out.2.2.2.1; omega) H1.out.2.2.2.2.2.2.1
            have hfbx := lineP_fb (find := findN fs) HFile.out.2.1 n T x m true S1 P1
            have hxs := HXs.out.2.1
            have hw1 : IntKind.i64.wrap ((m : Int) + (x.length : Int)) = (ma : Int) := by rw [i64_of (by omega)]; omega
            have hw2 : IntKind.i64.wrap ((ma : Int) + 1) = ((ma + 1 : Nat) : Int) := by rw [i64_of (by omega)]; omega
            have hge : decide ((0 : Int) ≤ (x.length : Int)) = true := decide_eq_true (by omega)
            have hlt : (ma : Int) < (XS.size : Int) := by omega
            have hmm : (m : Int) ≤ (ma : Int) := by omega
            have hmx : (ma : Int) ≤ (XS.size : Int) := by omega
            have HIB := Lib.hid hIB
            have HL := Lib.hid hL
            obtain ⟨Q, hQ⟩ : ∃ Q, lineP fileD (findN fs) n T x m true S1 P1 = Q := ⟨_, rfl⟩
            rw [hQ] at HL hgx hfbx hlr
            have HQ := Lib.hid (And.intro hgx (And.intro hfbx (And.intro hlr (And.intro he (And.intro hbr (And.intro hma (And.intro hxl hm)))))))
            clear hxd hxdd hIB hlr hbr hline hi hL hgx hfbx hQ he hc hm hxy hxl hxe hma hxs
            go_wp2_with fail
            refine HIB.out.mono ?_; rintro e wn ⟨rfl, hwn⟩; obtain rfl : wr = wn := hwn.symm
            go_wp2_with fail
            refine HL.out.mono ?_; rintro e w8 ⟨F8, G8, rfl, hx8, hu8⟩
            have H8 := Lib.hid (And.intro hx8 hu8)
            clear hx8 hu8
            go_wp2_with fail
            obtain ⟨⟨g1, g2, g3⟩, ⟨b1, b2, b3⟩, q1, q2, q3, q4, q5, q6⟩ := HQ.out
            have h1 := H1.out
            have hfn := h1.2.2.2.1 q2
            rw [q4] at q1
            refine ⟨⟨ma + 1, rfl, ⟨⟨Q.1, Q.2, F8, G8, k, by omega, H8.out.1, g1.wx, fun e => (b3 e).2.trans hfn, by omega, by omega, g2, by have := h1.2.2.2.2.2.2.2.1; omega, h1.2.2.2.2.2.2.2.2.1.trans H8.out.2, ?_, q1⟩, by omega⟩⟩, ?_⟩
            · exact g1.tx.le (Nat.zero_le _)
            · show XB.length + 1 - (((ma : Nat) : Int) + 1).toNat < XB.length + 1 - ((m : Nat) : Int).toNat
              omega
        · have hfin : RR = (S1, P1) := by rw [← HLin.out]; exact linesL_bad _ _ _ _ _ _ _ he
          have heb : (S1.err == 0) = false := by simp [he]
          have HFin := Lib.hid hfin
          clear hfin he hm
          obtain ⟨vc, hf1, hG1⟩ := H1.out.2.1.f
          obtain ⟨po, co, rfl⟩ := ownsRow_form hf1.cs
          have a2 := hf1.blk.cell (i := 2) rfl
          obtain ⟨cn, hcn⟩ : ∃ cn, P1.conds.length = cn := ⟨_, rfl⟩
          rw [hcn] at a2
          have hcs := hf1.cs
          rw [hcn] at hcs
          rcases Nat.eq_zero_or_pos cn with hc0 | hc0
          · subst hc0
            obtain ⟨SE, FE, GE, HE⟩ : ∃ SE FE GE, Hid (HasXF base bx bf (.pointer (some ⟨bt, 0, none⟩)) FE GE wr SE P1 ∧ Upd (fun g => F g ∨ G g) (fun g => FE g ∨ GE g) W6 wr ∧ 1 ≤ SE.files ∧ SE.files ≤ 20 ∧ (if RR.2.conds.length = 0 then RR.1 else failP RR.1 (RR.2.conds.getD (RR.2.conds.length - 1) default).f (RR.2.conds.getD (RR.2.conds.length - 1) default).l (RR.2.conds.getD (RR.2.conds.length - 1) default).c 6) = SE) :=
              ⟨S1, F1, G1, Lib.hid ⟨H1.out.2.1, H1.out.2.2.2.2.2.2.2.2.1, by have := H1.out.2.2.2.2.1; have := HN1.out; omega, by have := H1.out.2.2.2.2.2.1; have := HN1.out; have := HX.out.2.2.2.1; have := HS.out.2.2.1; omega, by rw [HFin.out, if_pos hcn]⟩⟩
            clear hf1 hG1 hcs hcn
            obtain ⟨bm7, vt7, vo7, kk7, D7, hx7, hF7⟩ := HE.out.1.x
            have c5 := hx7.blk.cell (i := 5) rfl
            have f5 := hx7.blk.frz 5
            obtain ⟨n5, hn5⟩ : ∃ n5, SE.files = n5 := ⟨_, rfl⟩
            rw [hn5] at c5
            have hw5 : IntKind.i64.wrap ((n5 : Int) - 1) = ((n5 - 1 : Nat) : Int) := by rw [i64_of (by have := HE.out.2.2.1; have := HE.out.2.2.2.1; omega)]; have := HE.out.2.2.1; omega
            obtain ⟨n6, hn6⟩ : ∃ n6, n5 - 1 = n6 := ⟨_, rfl⟩
            rw [hn6] at hw5
            have hfs := HE.out.1.x.files n6
            have H9 := Lib.hid (And.intro hfs.1 (And.intro hfs.2 (And.intro hn5 hn6)))
            clear hx7 hF7 hfs hn5 hn6
            go_wp2_with fail
            go_end0
            refine ⟨FE, rfl, ?_, ?_⟩
            · rw [← HR2.out, HE.out.2.2.2.2]
              rw [H9.out.2.2.1, H9.out.2.2.2]
              exact H9.out.1
            · exact Upd.cover H6.out.2.1 H6.out.2.2 HE.out.2.1 H9.out.2.1
          · obtain ⟨q, hq⟩ : ∃ q, cn = q + 1 := ⟨cn - 1, by omega⟩
            obtain ⟨g, rfl⟩ : ∃ g, po = some ⟨g, 0, none⟩ := by
              obtain ⟨g, cap, e, _⟩ := hcs.form hc0
              cases e; exact ⟨g, rfl⟩
            obtain ⟨C, hC⟩ : ∃ C, P1.conds.getD q default = C := ⟨_, rfl⟩
            have u0 : wr.cell? ⟨g, q * 6, none⟩ = some (.int .i64 C.f) := by
              have := hcs.cellAt (q * 6 + 0) (by omega)
              rw [condCells_at _ _ _ (by omega) (by decide), hC] at this
              exact this
            have u1 : wr.cell? ⟨g, q * 6 + 1, none⟩ = some (.int .i64 C.l) := by
              rw [hcs.cellAt _ (by omega), condCells_at _ _ _ (by omega) (by decide), hC]; rfl
            have u2 : wr.cell? ⟨g, q * 6 + 2, none⟩ = some (.int .i64 C.c) := by
              rw [hcs.cellAt _ (by omega), condCells_at _ _ _ (by omega) (by decide), hC]; rfl
            have hcnb : cn ≤ 40000 := by have := H1.out.2.2.2.2.2.2.2.1; omega
            have hcq : IntKind.i64.wrap ((cn : Int) - 1) = (q : Int) := by rw [i64_of (by omega)]; omega
            have hqn : (q : Int) < (cn : Int) := by omega
            have hcpos : decide ((0 : Int) < (cn : Int)) = true := decide_eq_true (by omega)
            have HC := Lib.hid (And.intro hcn (And.intro hq hC))
            clear hf1 hG1 hcs hcn hq hC hc0
            go_wp2_with fail
            refine (fail_any H1.out.2.1.x C.f C.l C.c 6).mono ?_; rintro e w7 ⟨FE, rfl, hx7, hu7⟩
            have hxe := H1.out.2.1.xon hx7 hu7
            obtain ⟨SE, hSE⟩ : ∃ SE, failP S1 C.f C.l C.c 6 = SE := ⟨_, rfl⟩
            rw [hSE] at hxe
            have hff : SE.files = S1.files := by rw [← hSE]; exact fail_ff _ _ _ _ _
            have HE := Lib.hid (And.intro hxe (And.intro (H1.out.2.2.2.2.2.2.2.2.1.trans (hu7.wide G1)) (And.intro (show 1 ≤ SE.files by rw [hff]; have := H1.out.2.2.2.2.1; have := HN1.out; omega) (And.intro (show SE.files ≤ 20 by rw [hff]; have := H1.out.2.2.2.2.2.1; have := HN1.out; have := HX.out.2.2.2.1; have := HS.out.2.2.1; omega) (show (if RR.2.conds.length = 0 then RR.1 else failP RR.1 (RR.2.conds.getD (RR.2.conds.length - 1) default).f (RR.2.conds.getD (RR.2.conds.length - 1) default).l (RR.2.conds.getD (RR.2.conds.length - 1) default).c 6) = SE by
              rw [HFin.out]
              show (if P1.conds.length = 0 then _ else _) = _
              rw [if_neg (by rw [HC.out.1, HC.out.2.1]; omega), HC.out.1, HC.out.2.1, Nat.add_sub_cancel, HC.out.2.2, hSE])))))
            clear hx7 hu7 hxe hSE hff u0 u1 u2 hcnb
            obtain ⟨bm7, vt7, vo7, kk7, D7, hx7, hF7⟩ := HE.out.1.x
            have c5 := hx7.blk.cell (i := 5) rfl
            have f5 := hx7.blk.frz 5
            obtain ⟨n5, hn5⟩ : ∃ n5, SE.files = n5 := ⟨_, rfl⟩
            rw [hn5] at c5
            have hw5 : IntKind.i64.wrap ((n5 : Int) - 1) = ((n5 - 1 : Nat) : Int) := by rw [i64_of (by have := HE.out.2.2.1; have := HE.out.2.2.2.1; omega)]; have := HE.out.2.2.1; omega
            obtain ⟨n6, hn6⟩ : ∃ n6, n5 - 1 = n6 := ⟨_, rfl⟩
            rw [hn6] at hw5
            have hfs := HE.out.1.x.files n6
            have H9 := Lib.hid (And.intro hfs.1 (And.intro hfs.2 (And.intro hn5 hn6)))
            clear hx7 hF7 hfs hn5 hn6
            go_wp2_with fail
            go_end0
            refine ⟨FE, rfl, ?_, ?_⟩
            · rw [← HR2.out, HE.out.2.2.2.2]
              rw [H9.out.2.2.1, H9.out.2.2.2]
              exact H9.out.1
            · exact Upd.cover H6.out.2.1 H6.out.2.2 HE.out.2.1 H9.out.2.1
      · have hfin : RR = (S1, P1) := by
          rw [← HLin.out]
          cases k1 with
          | zero => rfl
          | succ k => unfold linesL; rw [if_neg (fun hh => hm hh.1)]
        have hmi : ¬ (m : Int) < (XS.size : Int) := by have := HXs.out.2.1; omega
        have HFin := Lib.hid hfin
        clear hfin hm
        obtain ⟨vc, hf1, hG1⟩ := H1.out.2.1.f
        obtain ⟨po, co, rfl⟩ := ownsRow_form hf1.cs
        have a2 := hf1.blk.cell (i := 2) rfl
        obtain ⟨cn, hcn⟩ : ∃ cn, P1.conds.length = cn := ⟨_, rfl⟩
        rw [hcn] at a2
        have hcs := hf1.cs
        rw [hcn] at hcs
        rcases Nat.eq_zero_or_pos cn with hc0 | hc0
        · subst hc0
          obtain ⟨SE, FE, GE, HE⟩ : ∃ SE FE GE, Hid (HasXF base bx bf (.pointer (some ⟨bt, 0, none⟩)) FE GE wr SE P1 ∧ Upd (fun g => F g ∨ G g) (fun g => FE g ∨ GE g) W6 wr ∧ 1 ≤ SE.files ∧ SE.files ≤ 20 ∧ (if RR.2.conds.length = 0 then RR.1 else failP RR.1 (RR.2.conds.getD (RR.2.conds.length - 1) default).f (RR.2.conds.getD (RR.2.conds.length - 1) default).l (RR.2.conds.getD (RR.2.conds.length - 1) default).c 6) = SE) :=
            ⟨S1, F1, G1, Lib.hid ⟨H1.out.2.1, H1.out.2.2.2.2.2.2.2.2.1, by have := H1.out.2.2.2.2.1; have := HN1.out; omega, by have := H1.out.2.2.2.2.2.1; have := HN1.out; have := HX.out.2.2.2.1; have := HS.out.2.2.1; omega, by rw [HFin.out, if_pos hcn]⟩⟩
          clear hf1 hG1 hcs hcn
          obtain ⟨bm7, vt7, vo7, kk7, D7, hx7, hF7⟩ := HE.out.1.x
          have c5 := hx7.blk.cell (i := 5) rfl
          have f5 := hx7.blk.frz 5
          obtain ⟨n5, hn5⟩ : ∃ n5, SE.files = n5 := ⟨_, rfl⟩
          rw [hn5] at c5
          have hw5 : IntKind.i64.wrap ((n5 : Int) - 1) = ((n5 - 1 : Nat) : Int) := by rw [i64_of (by have := HE.out.2.2.1; have := HE.out.2.2.2.1; omega)]; have := HE.out.2.2.1; omega
          obtain ⟨n6, hn6⟩ : ∃ n6, n5 - 1 = n6 := ⟨_, rfl⟩
          rw [hn6] at hw5
          have hfs := HE.out.1.x.files n6
          have H9 := Lib.hid (And.intro hfs.1 (And.intro hfs.2 (And.intro hn5 hn6)))
          clear hx7 hF7 hfs hn5 hn6
          go_wp2_with fail
          go_end0
          refine ⟨FE, rfl, ?_, ?_⟩
          · rw [← HR2.out, HE.out.2.2.2.2]
            rw [H9.out.2.2.1, H9.out.2.2.2]
            exact H9.out.1
          · exact Upd.cover H6.out.2.1 H6.out.2.2 HE.out.2.1 H9.out.2.1
        · obtain ⟨q, hq⟩ : ∃ q, cn = q + 1 := ⟨cn - 1, by omega⟩
          obtain ⟨g, rfl⟩ : ∃ g, po = some ⟨g, 0, none⟩ := by
            obtain ⟨g, cap, e, _⟩ := hcs.form hc0
            cases e; exact ⟨g, rfl⟩
          obtain ⟨C, hC⟩ : ∃ C, P1.conds.getD q default = C := ⟨_, rfl⟩
          have u0 : wr.cell? ⟨g, q * 6, none⟩ = some (.int .i64 C.f) := by
            have := hcs.cellAt (q * 6 + 0) (by omega)
            rw [condCells_at _ _ _ (by omega) (by decide), hC] at this
            exact this
          have u1 : wr.cell? ⟨g, q * 6 + 1, none⟩ = some (.int .i64 C.l) := by
            rw [hcs.cellAt _ (by omega), condCells_at _ _ _ (by omega) (by decide), hC]; rfl
          have u2 : wr.cell? ⟨g, q * 6 + 2, none⟩ = some (.int .i64 C.c) := by
            rw [hcs.cellAt _ (by omega), condCells_at _ _ _ (by omega) (by decide), hC]; rfl
          have hcnb : cn ≤ 40000 := by have := H1.out.2.2.2.2.2.2.2.1; omega
          have hcq : IntKind.i64.wrap ((cn : Int) - 1) = (q : Int) := by rw [i64_of (by omega)]; omega
          have hqn : (q : Int) < (cn : Int) := by omega
          have hcpos : decide ((0 : Int) < (cn : Int)) = true := decide_eq_true (by omega)
          have HC := Lib.hid (And.intro hcn (And.intro hq hC))
          clear hf1 hG1 hcs hcn hq hC hc0
          go_wp2_with fail
          refine (fail_any H1.out.2.1.x C.f C.l C.c 6).mono ?_; rintro e w7 ⟨FE, rfl, hx7, hu7⟩
          have hxe := H1.out.2.1.xon hx7 hu7
          obtain ⟨SE, hSE⟩ : ∃ SE, failP S1 C.f C.l C.c 6 = SE := ⟨_, rfl⟩
          rw [hSE] at hxe
          have hff : SE.files = S1.files := by rw [← hSE]; exact fail_ff _ _ _ _ _
          have HE := Lib.hid (And.intro hxe (And.intro (H1.out.2.2.2.2.2.2.2.2.1.trans (hu7.wide G1)) (And.intro (show 1 ≤ SE.files by rw [hff]; have := H1.out.2.2.2.2.1; have := HN1.out; omega) (And.intro (show SE.files ≤ 20 by rw [hff]; have := H1.out.2.2.2.2.2.1; have := HN1.out; have := HX.out.2.2.2.1; have := HS.out.2.2.1; omega) (show (if RR.2.conds.length = 0 then RR.1 else failP RR.1 (RR.2.conds.getD (RR.2.conds.length - 1) default).f (RR.2.conds.getD (RR.2.conds.length - 1) default).l (RR.2.conds.getD (RR.2.conds.length - 1) default).c 6) = SE by
            rw [HFin.out]
            show (if P1.conds.length = 0 then _ else _) = _
            rw [if_neg (by rw [HC.out.1, HC.out.2.1]; omega), HC.out.1, HC.out.2.1, Nat.add_sub_cancel, HC.out.2.2, hSE])))))
          clear hx7 hu7 hxe hSE hff u0 u1 u2 hcnb
          obtain ⟨bm7, vt7, vo7, kk7, D7, hx7, hF7⟩ := HE.out.1.x
          have c5 := hx7.blk.cell (i := 5) rfl
          have f5 := hx7.blk.frz 5
          obtain ⟨n5, hn5⟩ : ∃ n5, SE.files = n5 := ⟨_, rfl⟩
          rw [hn5] at c5
          have hw5 : IntKind.i64.wrap ((n5 : Int) - 1) = ((n5 - 1 : Nat) : Int) := by rw [i64_of (by have := HE.out.2.2.1; have := HE.out.2.2.2.1; omega)]; have := HE.out.2.2.1; omega
          obtain ⟨n6, hn6⟩ : ∃ n6, n5 - 1 = n6 := ⟨_, rfl⟩
          rw [hn6] at hw5
          have hfs := HE.out.1.x.files n6
          have H9 := Lib.hid (And.intro hfs.1 (And.intro hfs.2 (And.intro hn5 hn6)))
          clear hx7 hF7 hfs hn5 hn6
          go_wp2_with fail
          go_end0
          refine ⟨FE, rfl, ?_, ?_⟩
          · rw [← HR2.out, HE.out.2.2.2.2]
            rw [H9.out.2.2.1, H9.out.2.2.2]
            exact H9.out.1
          · exact Upd.cover H6.out.2.1 H6.out.2.2 HE.out.2.1 H9.out.2.1
theorem file_any {w0 : World} {bx bt : Nat} {ps : List Part} {fs : List Fil} (hM : Made w0 bt ps fs) (hl : fs.length ≤ 100000) (hMax : Max w0) (htl : ∀ n, (fs.getD n default).text.size ≤ 32768) : ∀ (d : Nat), d ≤ 8 →
    ∀ (w : World) (F : Nat → Prop) (S : Xs) (num : Nat) (f l c : Int), HasX w0.heap.size bx (.pointer (some ⟨bt, 0, none⟩)) F w S → WX S → Below w0.heap.size w0 w → S.err = 0 → S.files + d = 8 → 1 ≤ num → num ≤ fs.length → TX 0 S →
      Calls Tryz.prog 17 #[.pointer (some ⟨bx, 0, none⟩), .int .i64 num, .agg #[.int .i64 f, .int .i64 l, .int .i64 c]] w (XR w0.heap.size bx (.pointer (some ⟨bt, 0, none⟩)) F w (fileP (textsOf fs) (findN fs) d S num f l c) (.tuple #[]))
  | 0, _ => fun w F S num f l c h hw h0 he hf h1 hn hb => file_zero h (by omega)
  | d + 1, hd => fun w F S num f l c h hw h0 he hf h1 hn hb => by
    obtain ⟨n, rfl⟩ : ∃ n, num = n + 1 := ⟨num - 1, by omega⟩
    exact file_succ hM hl hMax htl (by omega) (file_any hM hl hMax htl d (by omega)) h hw h0 he hf (by omega) hb
end Go.Proofs.YtcjfelndnnhgjaaGreatDoor
