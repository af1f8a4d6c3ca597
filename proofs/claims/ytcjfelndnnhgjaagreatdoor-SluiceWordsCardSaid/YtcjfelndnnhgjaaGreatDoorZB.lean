/- Texts of this claim, one behind another: E20, G21. They state lemmas; each names its own conditions. -/
import Derived.Test.YtcjfelndnnhgjaaGreatDoorZA
import Derived.Test.YtcjfelndnnhgjaaGreatDoorZ6
namespace Go.Proofs.YtcjfelndnnhgjaaGreatDoor
set_option linter.unusedVariables false
open Go.RowKit Go.Maps

theorem trimL_le (s : Bs) : (trimL s).length ≤ s.length := (List.dropWhile_suffix _).length_le
theorem trim_le (s : Bs) : (trim s).length ≤ s.length := by
  refine Nat.le_trans (trimL_le _) ?_
  unfold trimR
  rw [List.length_reverse]
  have := (List.dropWhile_suffix (l := s.reverse) isBlank).length_le
  rwa [List.length_reverse] at this
set_option maxRecDepth 100000 in
set_option maxHeartbeats 8000000 in
theorem dir_any {w0 w : World} {bx bf bt : Nat} {ps : List Part} {fs : List Fil} {F G : Nat → Prop} {S : Xs} {P : Fs} {tv : Value} {base : Nat} (htv : tv = .pointer (some ⟨bt, 0, none⟩)) (hbs : base = w0.heap.size) (hM : Made w0 bt ps fs) (hl : fs.length ≤ 100000) (h0 : Below w0.heap.size w0 w)
    (h : HasXF base bx bf tv F G w S P) (hb : base ≤ w.heap.size) (s : Bs) (hs : s.length ≤ 32768) (htn : S.texts.length ≤ 8796093022207) (hcl : P.conds.length ≤ 90000) (f l c : Int) (file : Xs → Nat → Int → Int → Int → Xs)
    (hfile : ∀ (W : World) (F' : Nat → Prop) (num : Nat), HasX base bx tv F' W S → Below w0.heap.size w0 W → 1 ≤ num → num ≤ fs.length → name s = wInclude → num = findN fs (mid (trim (s.drop (name s).length))) → Calls Tryz.prog 17 #[.pointer (some ⟨bx, 0, none⟩), .int .i64 num, .agg #[.int .i64 f, .int .i64 l, .int .i64 c]] W (XR base bx tv F' W (file S num f l c) (.tuple #[]))) :
    Calls Tryz.prog 44 #[.pointer (some ⟨bf, 0, none⟩), .string (bstr s), .agg #[.int .i64 f, .int .i64 l, .int .i64 c]] w (FR base bx bf tv F G w (dirP file (findN fs) S P s f l c).2.1 (dirP file (findN fs) S P s f l c).2.2 (.bool (dirP file (findN fs) S P s f l c).1)) := by
  obtain ⟨R, hR⟩ : ∃ R, dirP file (findN fs) S P s f l c = R := ⟨_, rfl⟩
  rw [hR]
  unfold dirP at hR
  simp only at hR
  obtain ⟨word, hword⟩ : ∃ r, name s = r := ⟨_, rfl⟩
  rw [hword] at hR
  obtain ⟨tail, htail⟩ : ∃ t, s.drop word.length = t := ⟨_, rfl⟩
  rw [htail] at hR
  obtain ⟨rest, hrest⟩ : ∃ r, trim tail = r := ⟨_, rfl⟩
  rw [hrest] at hR
  obtain ⟨ap, hap⟩ : ∃ a, (decide (tail = []) || isBlank (tail.getD 0 0)) = a := ⟨_, rfl⟩
  rw [hap] at hR
  have hwl : word.length ≤ s.length := hword ▸ name_le s
  have htl : tail.length = s.length - word.length := by rw [← htail, List.length_drop]
  have hrl : rest.length ≤ 32768 := by have := trim_le tail; rw [hrest] at this; omega
  have HC := Lib.hid (fun (W' : World) (hx : HasXF base bx bf tv F G W' S P) (hb' : base ≤ W'.heap.size) (hw : word = wIfdef ∨ word = wIfndef ∨ word = wElse ∨ word = wEndif) => cond_any hx hb' word rest f l c ap hw (by omega) hcl)
  have HD := Lib.hid (fun (W' : World) (hx : HasXF base bx bf tv F G W' S P) (h0' : Below w0.heap.size w0 W') (hb' : base ≤ W'.heap.size) (hw : word = wDefine ∨ word = wUndef ∨ word = wInclude) => def_any htv hbs hM hl h0' hx hb' word rest hw hrl htn f l c ap file (fun W F' nm a1 a2 a3 a4 a5 a6 => hfile W F' nm a1 a2 a3 a4 (hword.trans a5) (by rw [hword, htail, hrest]; exact a6)))
  have HNm := Lib.hid (fun W' => name_any (w := W') s (by omega))
  rw [hword] at HNm
  have HTr := Lib.hid (fun W' => trim_any (w := W') tail (by omega))
  rw [hrest] at HTr
  have hW8 : word = wIfdef ∨ word = wIfndef ∨ word = wElse ∨ word = wEndif ∨ word = wDefine ∨ word = wUndef ∨ word = wInclude ∨ (¬ word = wIfdef ∧ ¬ word = wIfndef ∧ ¬ word = wElse ∧ ¬ word = wEndif ∧ ¬ word = wDefine ∧ ¬ word = wUndef ∧ ¬ word = wInclude) := by
    by_cases c1 : word = wIfdef
    · exact .inl c1
    by_cases c2 : word = wIfndef
    · exact .inr (.inl c2)
    by_cases c3 : word = wElse
    · exact .inr (.inr (.inl c3))
    by_cases c4 : word = wEndif
    · exact .inr (.inr (.inr (.inl c4)))
    by_cases c5 : word = wDefine
    · exact .inr (.inr (.inr (.inr (.inl c5))))
    by_cases c6 : word = wUndef
    · exact .inr (.inr (.inr (.inr (.inr (.inl c6)))))
    by_cases c7 : word = wInclude
    · exact .inr (.inr (.inr (.inr (.inr (.inr (.inl c7))))))
    exact .inr (.inr (.inr (.inr (.inr (.inr (.inr ⟨c1, c2, c3, c4, c5, c6, c7⟩))))))
  have HW := Lib.hid hW8
  have hqs := And.intro (bstr_is word [105, 102, 100, 101, 102]) (And.intro (bstr_is word [105, 102, 110, 100, 101, 102]) (And.intro (bstr_is word [101, 108, 115, 101]) (And.intro (bstr_is word [101, 110, 100, 105, 102]) (And.intro (bstr_is word [100, 101, 102, 105, 110, 101]) (And.intro (bstr_is word [117, 110, 100, 101, 102]) (bstr_is word [105, 110, 99, 108, 117, 100, 101]))))))
  obtain ⟨SS, hSS⟩ : ∃ x, bstr s = x := ⟨_, rfl⟩
  obtain ⟨WD, hWD⟩ : ∃ x, bstr word = x := ⟨_, rfl⟩
  obtain ⟨TL, hTL⟩ : ∃ x, bstr tail = x := ⟨_, rfl⟩
  obtain ⟨RT, hRT⟩ : ∃ x, bstr rest = x := ⟨_, rfl⟩
  have hsS : SS.size = s.length := by rw [← hSS, bstr_size]
  have hsW : WD.size = word.length := by rw [← hWD, bstr_size]
  have hsT : TL.size = tail.length := by rw [← hTL, bstr_size]
  have hsl : ∀ w', (Instr.slice 9 (Value.string SS) (some (Value.int IntKind.i64 (WD.size : Int))) none none).run Tryz.prog w' = .ok (.string TL) w' := by
    intro w'
    have h := run_slice_string_l (P := Tryz.prog) (w := w') 9 SS Tryz.underlying9 .i64 (WD.size : Int) (by omega) (by omega)
    rw [h, ← hTL, hsS, ← hSS]
    rw [show ((WD.size : Int)).toNat = WD.size from rfl, bstr_extract, List.take_length, hsW, htail]
  have hnle : (WD.size : Int) ≤ (SS.size : Int) := by omega
  have hBl := blank_ix (tail.getD 0 0)
  have hatS : ∀ h : WD.size < SS.size, SS[WD.size] = tail.getD 0 0 := by
    subst hSS
    intro h
    rw [bstr_at, ← htail, hsW]
    simp [List.getD, List.getElem?_drop]
  rw [hSS] at HNm ⊢
  rw [hWD] at HNm hqs HC HD
  rw [hTL] at HTr
  rw [hRT] at HTr HC HD
  have HR := Lib.hid hR
  have HQ := Lib.hid hqs
  have H00 := Lib.hid h0
  clear hM hl hfile htv hbs h0 hs htn hcl hrl hword htail hrest hW8 hqs hSS hWD hRT hR
  have hb1 := Below.new w (.cells #[.int .i64 f, .int .i64 l, .int .i64 c] 32)
  have k1 : Blk (w.alloc (.cells #[.int .i64 f, .int .i64 l, .int .i64 c] 32)) w.heap.size 32 [.int .i64 f, .int .i64 l, .int .i64 c] := Blk.new _ _
  have h1 := h.below hb1
  obtain ⟨vc, hf, hG⟩ := h1.f
  have a0 := hf.blk.cell (i := 0) rfl
  have a2 : True := trivial
  have e0 := k1.cell (i := 0) rfl
  have e1 := k1.cell (i := 1) rfl
  have e2 := k1.cell (i := 2) rfl
  have HX := Lib.hid (And.intro h1 (And.intro hb1 (And.intro k1 hb)))
  generalize hWW : w.alloc (.cells #[.int .i64 f, .int .i64 l, .int .i64 c] 32) = W at *
  have HWW := Lib.hid hWW
  obtain ⟨bo, hbo⟩ : ∃ bo, w.heap.size = bo := ⟨_, rfl⟩
  rw [hbo] at e0 e1 e2
  have HBo := Lib.hid hbo
  clear h hb1 k1 h1 hf hG hb
  have hIB0 := fun (c0 : UInt8) (W' : World) => Tryz.strings_IndexByte ⟨#[32, 9, 13]⟩ (c0.toNat : Int) W'
  have HIB := Lib.hid hIB0
  clear hIB0
  have HAll := Lib.hid (And.intro hwl (And.intro htl (And.intro hap (And.intro hBl (And.intro hatS (And.intro hTL (And.intro hsS (And.intro hsW hsT))))))))
  clear hwl htl hap hBl hatS hTL hsS hsW hsT
  go_enter Tryz.func44, Tryz.ntmps44
  go_wp2_with fail
  refine (HNm.out _).mono ?_; rintro e wn ⟨rfl, rfl⟩
  go_wp2_with fail
  refine (HTr.out _).mono ?_; rintro e W2 ⟨rfl, hb2⟩
  have hlo : bo < W.heap.size := by rw [← HBo.out]; exact HX.out.2.2.1.lt
  have e20 := (hb2.cell (p := ⟨bo, 0, none⟩) hlo).trans e0
  have e21 := (hb2.cell (p := ⟨bo, 1, none⟩) hlo).trans e1
  have e22 := (hb2.cell (p := ⟨bo, 2, none⟩) hlo).trans e2
  have H2 : Hid (HasXF base bx bf tv F G W2 S P ∧ Upd (fun g => F g ∨ G g) (fun g => F g ∨ G g) w W2 ∧ Below w0.heap.size w0 W2 ∧ base ≤ W2.heap.size) :=
    Lib.hid ⟨HX.out.1.below hb2, (Upd.below HX.out.2.1).trans (Upd.below hb2), H00.out.trans ((HX.out.2.1.trans (hb2.mono HX.out.2.1.size)).mono H00.out.size), Nat.le_trans HX.out.2.2.2 (Nat.le_trans HX.out.2.1.size hb2.size)⟩
  have HBl : Hid (bo < W2.heap.size) := Lib.hid (Nat.lt_of_lt_of_le hlo hb2.size)
  clear hb2 hlo e0 e1 e2 a0 a2 hWW hbo
  obtain ⟨hwl, htl, hap, hBl, hatS, hTL, hsS, hsW, hsT⟩ := HAll.out
  by_cases ht : tail = []
  · have hbt : TL.toList = [] := by rw [← hTL, ht, ByteArray.toList_eq]; rfl
    have hbe : TL.toList.isEmpty = true := by rw [hbt]; rfl
    obtain rfl : ap = true := by rw [← hap, ht]; rfl
    clear hTL hap ht hBl hatS hwl htl hsS hsW hsT
    go_upto_region 4 with fail
    rcases HW.out with hw | hw | hw | hw | hw | hw | hw | hw
    · have q1 : (WD.toList == [105, 102, 100, 101, 102]) = true := by rw [HQ.out.1, hw]; rfl
      have q2 : (WD.toList == [105, 102, 110, 100, 101, 102]) = false := by rw [HQ.out.2.1, hw]; rfl
      have q3 : (WD.toList == [101, 108, 115, 101]) = false := by rw [HQ.out.2.2.1, hw]; rfl
      have q4 : (WD.toList == [101, 110, 100, 105, 102]) = false := by rw [HQ.out.2.2.2.1, hw]; rfl
      have q5 : (WD.toList == [100, 101, 102, 105, 110, 101]) = false := by rw [HQ.out.2.2.2.2.1, hw]; rfl
      have q6 : (WD.toList == [117, 110, 100, 101, 102]) = false := by rw [HQ.out.2.2.2.2.2.1, hw]; rfl
      have q7 : (WD.toList == [105, 110, 99, 108, 117, 100, 101]) = false := by rw [HQ.out.2.2.2.2.2.2, hw]; rfl
      go_wp2_with fail
      refine (HC.out W2 H2.out.1 H2.out.2.2.2 (by simp [hw])).mono ?_; rintro e w5 ⟨F5, G5, rfl, hx5, hu5⟩
      have H5 := Lib.hid (And.intro hx5 (H2.out.2.1.trans hu5))
      clear hx5 hu5
      go_wp2_with fail
      go_ret
      have hR := HR.out
      rw [if_pos (by simp [hw])] at hR
      subst hR
      exact ⟨F5, G5, rfl, H5.out.1, H5.out.2⟩
    · have q1 : (WD.toList == [105, 102, 100, 101, 102]) = false := by rw [HQ.out.1, hw]; rfl
      have q2 : (WD.toList == [105, 102, 110, 100, 101, 102]) = true := by rw [HQ.out.2.1, hw]; rfl
      have q3 : (WD.toList == [101, 108, 115, 101]) = false := by rw [HQ.out.2.2.1, hw]; rfl
      have q4 : (WD.toList == [101, 110, 100, 105, 102]) = false := by rw [HQ.out.2.2.2.1, hw]; rfl
      have q5 : (WD.toList == [100, 101, 102, 105, 110, 101]) = false := by rw [HQ.out.2.2.2.2.1, hw]; rfl
      have q6 : (WD.toList == [117, 110, 100, 101, 102]) = false := by rw [HQ.out.2.2.2.2.2.1, hw]; rfl
      have q7 : (WD.toList == [105, 110, 99, 108, 117, 100, 101]) = false := by rw [HQ.out.2.2.2.2.2.2, hw]; rfl
      go_wp2_with fail
      refine (HC.out W2 H2.out.1 H2.out.2.2.2 (by simp [hw])).mono ?_; rintro e w5 ⟨F5, G5, rfl, hx5, hu5⟩
      have H5 := Lib.hid (And.intro hx5 (H2.out.2.1.trans hu5))
      clear hx5 hu5
      go_wp2_with fail
      go_ret
      have hR := HR.out
      rw [if_pos (by simp [hw])] at hR
      subst hR
      exact ⟨F5, G5, rfl, H5.out.1, H5.out.2⟩
    · have q1 : (WD.toList == [105, 102, 100, 101, 102]) = false := by rw [HQ.out.1, hw]; rfl
      have q2 : (WD.toList == [105, 102, 110, 100, 101, 102]) = false := by rw [HQ.out.2.1, hw]; rfl
      have q3 : (WD.toList == [101, 108, 115, 101]) = true := by rw [HQ.out.2.2.1, hw]; rfl
      have q4 : (WD.toList == [101, 110, 100, 105, 102]) = false := by rw [HQ.out.2.2.2.1, hw]; rfl
      have q5 : (WD.toList == [100, 101, 102, 105, 110, 101]) = false := by rw [HQ.out.2.2.2.2.1, hw]; rfl
      have q6 : (WD.toList == [117, 110, 100, 101, 102]) = false := by rw [HQ.out.2.2.2.2.2.1, hw]; rfl
      have q7 : (WD.toList == [105, 110, 99, 108, 117, 100, 101]) = false := by rw [HQ.out.2.2.2.2.2.2, hw]; rfl
      go_wp2_with fail
      refine (HC.out W2 H2.out.1 H2.out.2.2.2 (by simp [hw])).mono ?_; rintro e w5 ⟨F5, G5, rfl, hx5, hu5⟩
      have H5 := Lib.hid (And.intro hx5 (H2.out.2.1.trans hu5))
      clear hx5 hu5
      go_wp2_with fail
      go_ret
      have hR := HR.out
      rw [if_pos (by simp [hw])] at hR
      subst hR
      exact ⟨F5, G5, rfl, H5.out.1, H5.out.2⟩
    · have q1 : (WD.toList == [105, 102, 100, 101, 102]) = false := by rw [HQ.out.1, hw]; rfl
      have q2 : (WD.toList == [105, 102, 110, 100, 101, 102]) = false := by rw [HQ.out.2.1, hw]; rfl
      have q3 : (WD.toList == [101, 108, 115, 101]) = false := by rw [HQ.out.2.2.1, hw]; rfl
      have q4 : (WD.toList == [101, 110, 100, 105, 102]) = true := by rw [HQ.out.2.2.2.1, hw]; rfl
      have q5 : (WD.toList == [100, 101, 102, 105, 110, 101]) = false := by rw [HQ.out.2.2.2.2.1, hw]; rfl
      have q6 : (WD.toList == [117, 110, 100, 101, 102]) = false := by rw [HQ.out.2.2.2.2.2.1, hw]; rfl
      have q7 : (WD.toList == [105, 110, 99, 108, 117, 100, 101]) = false := by rw [HQ.out.2.2.2.2.2.2, hw]; rfl
      go_wp2_with fail
      refine (HC.out W2 H2.out.1 H2.out.2.2.2 (by simp [hw])).mono ?_; rintro e w5 ⟨F5, G5, rfl, hx5, hu5⟩
      have H5 := Lib.hid (And.intro hx5 (H2.out.2.1.trans hu5))
      clear hx5 hu5
      go_wp2_with fail
      go_ret
      have hR := HR.out
      rw [if_pos (by simp [hw])] at hR
      subst hR
      exact ⟨F5, G5, rfl, H5.out.1, H5.out.2⟩
    · have q1 : (WD.toList == [105, 102, 100, 101, 102]) = false := by rw [HQ.out.1, hw]; rfl
      have q2 : (WD.toList == [105, 102, 110, 100, 101, 102]) = false := by rw [HQ.out.2.1, hw]; rfl
      have q3 : (WD.toList == [101, 108, 115, 101]) = false := by rw [HQ.out.2.2.1, hw]; rfl
      have q4 : (WD.toList == [101, 110, 100, 105, 102]) = false := by rw [HQ.out.2.2.2.1, hw]; rfl
      have q5 : (WD.toList == [100, 101, 102, 105, 110, 101]) = true := by rw [HQ.out.2.2.2.2.1, hw]; rfl
      have q6 : (WD.toList == [117, 110, 100, 101, 102]) = false := by rw [HQ.out.2.2.2.2.2.1, hw]; rfl
      have q7 : (WD.toList == [105, 110, 99, 108, 117, 100, 101]) = false := by rw [HQ.out.2.2.2.2.2.2, hw]; rfl
      go_wp2_with fail
      refine (counts_any H2.out.1.f).mono ?_; rintro e w3 ⟨rfl, hb3⟩
      have e30 := (hb3.cell (p := ⟨bo, 0, none⟩) HBl.out).trans e20
      have e31 := (hb3.cell (p := ⟨bo, 1, none⟩) HBl.out).trans e21
      have e32 := (hb3.cell (p := ⟨bo, 2, none⟩) HBl.out).trans e22
      have H3 : Hid (HasXF base bx bf tv F G w3 S P ∧ Upd (fun g => F g ∨ G g) (fun g => F g ∨ G g) w w3 ∧ Below w0.heap.size w0 w3 ∧ base ≤ w3.heap.size) :=
        Lib.hid ⟨H2.out.1.below hb3, H2.out.2.1.trans (Upd.below hb3), H2.out.2.2.1.trans (hb3.mono H2.out.2.2.1.size), Nat.le_trans H2.out.2.2.2 hb3.size⟩
      clear hb3 e20 e21 e22
      obtain ⟨cn, hcn⟩ : ∃ cn, countsP P = cn := ⟨_, rfl⟩
      rw [hcn]
      have HCn := Lib.hid hcn
      clear hcn
      cases cn
      · go_wp2_with fail
        go_ret
        have hR := HR.out
        rw [if_neg (by rw [hw]; decide), if_pos (by simp [hw]), HCn.out, if_neg (by simp)] at hR
        subst hR
        exact ⟨F, G, rfl, H3.out.1, H3.out.2.1⟩
      · go_wp2_with fail
        refine (HD.out w3 H3.out.1 H3.out.2.2.1 H3.out.2.2.2 (by simp [hw])).mono ?_; rintro e w5 ⟨F5, G5, rfl, hx5, hu5⟩
        have H5 := Lib.hid (And.intro hx5 (H3.out.2.1.trans hu5))
        clear hx5 hu5
        go_wp2_with fail
        go_ret
        have hR := HR.out
        rw [if_neg (by rw [hw]; decide), if_pos (by simp [hw]), HCn.out, if_pos rfl] at hR
        subst hR
        exact ⟨F5, G5, rfl, H5.out.1, H5.out.2⟩
    · have q1 : (WD.toList == [105, 102, 100, 101, 102]) = false := by rw [HQ.out.1, hw]; rfl
      have q2 : (WD.toList == [105, 102, 110, 100, 101, 102]) = false := by rw [HQ.out.2.1, hw]; rfl
      have q3 : (WD.toList == [101, 108, 115, 101]) = false := by rw [HQ.out.2.2.1, hw]; rfl
      have q4 : (WD.toList == [101, 110, 100, 105, 102]) = false := by rw [HQ.out.2.2.2.1, hw]; rfl
      have q5 : (WD.toList == [100, 101, 102, 105, 110, 101]) = false := by rw [HQ.out.2.2.2.2.1, hw]; rfl
      have q6 : (WD.toList == [117, 110, 100, 101, 102]) = true := by rw [HQ.out.2.2.2.2.2.1, hw]; rfl
      have q7 : (WD.toList == [105, 110, 99, 108, 117, 100, 101]) = false := by rw [HQ.out.2.2.2.2.2.2, hw]; rfl
      go_wp2_with fail
      refine (counts_any H2.out.1.f).mono ?_; rintro e w3 ⟨rfl, hb3⟩
      have e30 := (hb3.cell (p := ⟨bo, 0, none⟩) HBl.out).trans e20
      have e31 := (hb3.cell (p := ⟨bo, 1, none⟩) HBl.out).trans e21
      have e32 := (hb3.cell (p := ⟨bo, 2, none⟩) HBl.out).trans e22
      have H3 : Hid (HasXF base bx bf tv F G w3 S P ∧ Upd (fun g => F g ∨ G g) (fun g => F g ∨ G g) w w3 ∧ Below w0.heap.size w0 w3 ∧ base ≤ w3.heap.size) :=
        Lib.hid ⟨H2.out.1.below hb3, H2.out.2.1.trans (Upd.below hb3), H2.out.2.2.1.trans (hb3.mono H2.out.2.2.1.size), Nat.le_trans H2.out.2.2.2 hb3.size⟩
      clear hb3 e20 e21 e22
      obtain ⟨cn, hcn⟩ : ∃ cn, countsP P = cn := ⟨_, rfl⟩
      rw [hcn]
      have HCn := Lib.hid hcn
      clear hcn
      cases cn
      · go_wp2_with fail
        go_ret
        have hR := HR.out
        rw [if_neg (by rw [hw]; decide), if_pos (by simp [hw]), HCn.out, if_neg (by simp)] at hR
        subst hR
        exact ⟨F, G, rfl, H3.out.1, H3.out.2.1⟩
      · go_wp2_with fail
        refine (HD.out w3 H3.out.1 H3.out.2.2.1 H3.out.2.2.2 (by simp [hw])).mono ?_; rintro e w5 ⟨F5, G5, rfl, hx5, hu5⟩
        have H5 := Lib.hid (And.intro hx5 (H3.out.2.1.trans hu5))
        clear hx5 hu5
        go_wp2_with fail
        go_ret
        have hR := HR.out
        rw [if_neg (by rw [hw]; decide), if_pos (by simp [hw]), HCn.out, if_pos rfl] at hR
        subst hR
        exact ⟨F5, G5, rfl, H5.out.1, H5.out.2⟩
    · have q1 : (WD.toList == [105, 102, 100, 101, 102]) = false := by rw [HQ.out.1, hw]; rfl
      have q2 : (WD.toList == [105, 102, 110, 100, 101, 102]) = false := by rw [HQ.out.2.1, hw]; rfl
      have q3 : (WD.toList == [101, 108, 115, 101]) = false := by rw [HQ.out.2.2.1, hw]; rfl
      have q4 : (WD.toList == [101, 110, 100, 105, 102]) = false := by rw [HQ.out.2.2.2.1, hw]; rfl
      have q5 : (WD.toList == [100, 101, 102, 105, 110, 101]) = false := by rw [HQ.out.2.2.2.2.1, hw]; rfl
      have q6 : (WD.toList == [117, 110, 100, 101, 102]) = false := by rw [HQ.out.2.2.2.2.2.1, hw]; rfl
      have q7 : (WD.toList == [105, 110, 99, 108, 117, 100, 101]) = true := by rw [HQ.out.2.2.2.2.2.2, hw]; rfl
      go_wp2_with fail
      refine (counts_any H2.out.1.f).mono ?_; rintro e w3 ⟨rfl, hb3⟩
      have e30 := (hb3.cell (p := ⟨bo, 0, none⟩) HBl.out).trans e20
      have e31 := (hb3.cell (p := ⟨bo, 1, none⟩) HBl.out).trans e21
      have e32 := (hb3.cell (p := ⟨bo, 2, none⟩) HBl.out).trans e22
      have H3 : Hid (HasXF base bx bf tv F G w3 S P ∧ Upd (fun g => F g ∨ G g) (fun g => F g ∨ G g) w w3 ∧ Below w0.heap.size w0 w3 ∧ base ≤ w3.heap.size) :=
        Lib.hid ⟨H2.out.1.below hb3, H2.out.2.1.trans (Upd.below hb3), H2.out.2.2.1.trans (hb3.mono H2.out.2.2.1.size), Nat.le_trans H2.out.2.2.2 hb3.size⟩
      clear hb3 e20 e21 e22
      obtain ⟨cn, hcn⟩ : ∃ cn, countsP P = cn := ⟨_, rfl⟩
      rw [hcn]
      have HCn := Lib.hid hcn
      clear hcn
      cases cn
      · go_wp2_with fail
        go_ret
        have hR := HR.out
        rw [if_neg (by rw [hw]; decide), if_pos (by simp [hw]), HCn.out, if_neg (by simp)] at hR
        subst hR
        exact ⟨F, G, rfl, H3.out.1, H3.out.2.1⟩
      · go_wp2_with fail
        refine (HD.out w3 H3.out.1 H3.out.2.2.1 H3.out.2.2.2 (by simp [hw])).mono ?_; rintro e w5 ⟨F5, G5, rfl, hx5, hu5⟩
        have H5 := Lib.hid (And.intro hx5 (H3.out.2.1.trans hu5))
        clear hx5 hu5
        go_wp2_with fail
        go_ret
        have hR := HR.out
        rw [if_neg (by rw [hw]; decide), if_pos (by simp [hw]), HCn.out, if_pos rfl] at hR
        subst hR
        exact ⟨F5, G5, rfl, H5.out.1, H5.out.2⟩
    · have q1 : (WD.toList == [105, 102, 100, 101, 102]) = false := by rw [HQ.out.1]; exact decide_eq_false hw.1
      have q2 : (WD.toList == [105, 102, 110, 100, 101, 102]) = false := by rw [HQ.out.2.1]; exact decide_eq_false hw.2.1
      have q3 : (WD.toList == [101, 108, 115, 101]) = false := by rw [HQ.out.2.2.1]; exact decide_eq_false hw.2.2.1
      have q4 : (WD.toList == [101, 110, 100, 105, 102]) = false := by rw [HQ.out.2.2.2.1]; exact decide_eq_false hw.2.2.2.1
      have q5 : (WD.toList == [100, 101, 102, 105, 110, 101]) = false := by rw [HQ.out.2.2.2.2.1]; exact decide_eq_false hw.2.2.2.2.1
      have q6 : (WD.toList == [117, 110, 100, 101, 102]) = false := by rw [HQ.out.2.2.2.2.2.1]; exact decide_eq_false hw.2.2.2.2.2.1
      have q7 : (WD.toList == [105, 110, 99, 108, 117, 100, 101]) = false := by rw [HQ.out.2.2.2.2.2.2]; exact decide_eq_false hw.2.2.2.2.2.2
      have HWN := Lib.hid hw
      clear hw
      go_wp2_with fail
      refine (counts_any H2.out.1.f).mono ?_; rintro e w3 ⟨rfl, hb3⟩
      have e30 := (hb3.cell (p := ⟨bo, 0, none⟩) HBl.out).trans e20
      have e31 := (hb3.cell (p := ⟨bo, 1, none⟩) HBl.out).trans e21
      have e32 := (hb3.cell (p := ⟨bo, 2, none⟩) HBl.out).trans e22
      have H3 : Hid (HasXF base bx bf tv F G w3 S P ∧ Upd (fun g => F g ∨ G g) (fun g => F g ∨ G g) w w3 ∧ Below w0.heap.size w0 w3 ∧ base ≤ w3.heap.size) :=
        Lib.hid ⟨H2.out.1.below hb3, H2.out.2.1.trans (Upd.below hb3), H2.out.2.2.1.trans (hb3.mono H2.out.2.2.1.size), Nat.le_trans H2.out.2.2.2 hb3.size⟩
      clear hb3 e20 e21 e22
      obtain ⟨cn, hcn⟩ : ∃ cn, countsP P = cn := ⟨_, rfl⟩
      rw [hcn]
      have HCn := Lib.hid hcn
      clear hcn
      go_wp2_with fail
      go_ret
      have hR := HR.out
      have hn := HWN.out
      rw [if_neg (by rintro (h | h | h | h); exact hn.1 h; exact hn.2.1 h; exact hn.2.2.1 h; exact hn.2.2.2.1 h), if_neg (by rintro (h | h | h); exact hn.2.2.2.2.1 h; exact hn.2.2.2.2.2.1 h; exact hn.2.2.2.2.2.2 h), HCn.out] at hR
      subst hR
      exact ⟨F, G, rfl, H3.out.1, H3.out.2.1⟩
  · have hbt : ¬ TL.toList = [] := by rw [← hTL]; exact (bstr_ne ht).1
    have hbe : TL.toList.isEmpty = false := by rw [← hTL]; exact (bstr_ne ht).2
    have htp : 0 < tail.length := by cases hq : tail with
      | nil => exact absurd hq ht
      | cons _ _ => simp
    have hlt : WD.size < SS.size := by omega
    have hlti : (WD.size : Int) < (SS.size : Int) := by omega
    obtain ⟨c0, hc0⟩ : ∃ c0, tail.getD 0 0 = c0 := ⟨_, rfl⟩
    have hat := hatS hlt
    rw [hc0] at hBl hap hat
    rw [decide_eq_false ht, Bool.false_or] at hap
    have hIB := HIB.out c0 W2
    rw [show ((c0.toNat : Int)).toNat.toUInt8 = c0 by simp] at hIB
    obtain ⟨ib, hib⟩ : ∃ ib, Lib.indexByte [32, 9, 13] c0 = ib := ⟨_, rfl⟩
    rw [hib] at hBl hIB
    have hge : decide (0 ≤ ib) = ap := by
      rw [← hap]
      by_cases hbl : isBlank c0 = false
      · rw [hbl]; exact decide_eq_false (by have := hBl.2 hbl; omega)
      · have : isBlank c0 = true := by simpa using hbl
        rw [this]; exact decide_eq_true (by by_cases h : ib < 0; exact absurd (hBl.1 h) hbl; omega)
    have HIB2 := Lib.hid hIB
    clear hTL hap ht hBl hatS hwl htl hsS hsW hsT htp hc0 hIB hib HIB
    go_wp2_with fail
    refine HIB2.out.mono ?_; rintro e wn ⟨rfl, hwn⟩; obtain rfl : W2 = wn := hwn.symm
    go_upto_region 4 with fail
    rcases HW.out with hw | hw | hw | hw | hw | hw | hw | hw
    · have q1 : (WD.toList == [105, 102, 100, 101, 102]) = true := by rw [HQ.out.1, hw]; rfl
      have q2 : (WD.toList == [105, 102, 110, 100, 101, 102]) = false := by rw [HQ.out.2.1, hw]; rfl
      have q3 : (WD.toList == [101, 108, 115, 101]) = false := by rw [HQ.out.2.2.1, hw]; rfl
      have q4 : (WD.toList == [101, 110, 100, 105, 102]) = false := by rw [HQ.out.2.2.2.1, hw]; rfl
      have q5 : (WD.toList == [100, 101, 102, 105, 110, 101]) = false := by rw [HQ.out.2.2.2.2.1, hw]; rfl
      have q6 : (WD.toList == [117, 110, 100, 101, 102]) = false := by rw [HQ.out.2.2.2.2.2.1, hw]; rfl
      have q7 : (WD.toList == [105, 110, 99, 108, 117, 100, 101]) = false := by rw [HQ.out.2.2.2.2.2.2, hw]; rfl
      go_wp2_with fail
      refine (HC.out W2 H2.out.1 H2.out.2.2.2 (by simp [hw])).mono ?_; rintro e w5 ⟨F5, G5, rfl, hx5, hu5⟩
      have H5 := Lib.hid (And.intro hx5 (H2.out.2.1.trans hu5))
      clear hx5 hu5
      go_wp2_with fail
      go_ret
      have hR := HR.out
      rw [if_pos (by simp [hw])] at hR
      subst hR
      exact ⟨F5, G5, rfl, H5.out.1, H5.out.2⟩
    · have q1 : (WD.toList == [105, 102, 100, 101, 102]) = false := by rw [HQ.out.1, hw]; rfl
      have q2 : (WD.toList == [105, 102, 110, 100, 101, 102]) = true := by rw [HQ.out.2.1, hw]; rfl
      have q3 : (WD.toList == [101, 108, 115, 101]) = false := by rw [HQ.out.2.2.1, hw]; rfl
      have q4 : (WD.toList == [101, 110, 100, 105, 102]) = false := by rw [HQ.out.2.2.2.1, hw]; rfl
      have q5 : (WD.toList == [100, 101, 102, 105, 110, 101]) = false := by rw [HQ.out.2.2.2.2.1, hw]; rfl
      have q6 : (WD.toList == [117, 110, 100, 101, 102]) = false := by rw [HQ.out.2.2.2.2.2.1, hw]; rfl
      have q7 : (WD.toList == [105, 110, 99, 108, 117, 100, 101]) = false := by rw [HQ.out.2.2.2.2.2.2, hw]; rfl
      go_wp2_with fail
      refine (HC.out W2 H2.out.1 H2.out.2.2.2 (by simp [hw])).mono ?_; rintro e w5 ⟨F5, G5, rfl, hx5, hu5⟩
      have H5 := Lib.hid (And.intro hx5 (H2.out.2.1.trans hu5))
      clear hx5 hu5
      go_wp2_with fail
      go_ret
      have hR := HR.out
      rw [if_pos (by simp [hw])] at hR
      subst hR
      exact ⟨F5, G5, rfl, H5.out.1, H5.out.2⟩
    · have q1 : (WD.toList == [105, 102, 100, 101, 102]) = false := by rw [HQ.out.1, hw]; rfl
      have q2 : (WD.toList == [105, 102, 110, 100, 101, 102]) = false := by rw [HQ.out.2.1, hw]; rfl
      have q3 : (WD.toList == [101, 108, 115, 101]) = true := by rw [HQ.out.2.2.1, hw]; rfl
      have q4 : (WD.toList == [101, 110, 100, 105, 102]) = false := by rw [HQ.out.2.2.2.1, hw]; rfl
      have q5 : (WD.toList == [100, 101, 102, 105, 110, 101]) = false := by rw [HQ.out.2.2.2.2.1, hw]; rfl
      have q6 : (WD.toList == [117, 110, 100, 101, 102]) = false := by rw [HQ.out.2.2.2.2.2.1, hw]; rfl
      have q7 : (WD.toList == [105, 110, 99, 108, 117, 100, 101]) = false := by rw [HQ.out.2.2.2.2.2.2, hw]; rfl
      go_wp2_with fail
      refine (HC.out W2 H2.out.1 H2.out.2.2.2 (by simp [hw])).mono ?_; rintro e w5 ⟨F5, G5, rfl, hx5, hu5⟩
      have H5 := Lib.hid (And.intro hx5 (H2.out.2.1.trans hu5))
      clear hx5 hu5
      go_wp2_with fail
      go_ret
      have hR := HR.out
      rw [if_pos (by simp [hw])] at hR
      subst hR
      exact ⟨F5, G5, rfl, H5.out.1, H5.out.2⟩
    · have q1 : (WD.toList == [105, 102, 100, 101, 102]) = false := by rw [HQ.out.1, hw]; rfl
      have q2 : (WD.toList == [105, 102, 110, 100, 101, 102]) = false := by rw [HQ.out.2.1, hw]; rfl
      have q3 : (WD.toList == [101, 108, 115, 101]) = false := by rw [HQ.out.2.2.1, hw]; rfl
      have q4 : (WD.toList == [101, 110, 100, 105, 102]) = true := by rw [HQ.out.2.2.2.1, hw]; rfl
      have q5 : (WD.toList == [100, 101, 102, 105, 110, 101]) = false := by rw [HQ.out.2.2.2.2.1, hw]; rfl
      have q6 : (WD.toList == [117, 110, 100, 101, 102]) = false := by rw [HQ.out.2.2.2.2.2.1, hw]; rfl
      have q7 : (WD.toList == [105, 110, 99, 108, 117, 100, 101]) = false := by rw [HQ.out.2.2.2.2.2.2, hw]; rfl
      go_wp2_with fail
      refine (HC.out W2 H2.out.1 H2.out.2.2.2 (by simp [hw])).mono ?_; rintro e w5 ⟨F5, G5, rfl, hx5, hu5⟩
      have H5 := Lib.hid (And.intro hx5 (H2.out.2.1.trans hu5))
      clear hx5 hu5
      go_wp2_with fail
      go_ret
      have hR := HR.out
      rw [if_pos (by simp [hw])] at hR
      subst hR
      exact ⟨F5, G5, rfl, H5.out.1, H5.out.2⟩
    · have q1 : (WD.toList == [105, 102, 100, 101, 102]) = false := by rw [HQ.out.1, hw]; rfl
      have q2 : (WD.toList == [105, 102, 110, 100, 101, 102]) = false := by rw [HQ.out.2.1, hw]; rfl
      have q3 : (WD.toList == [101, 108, 115, 101]) = false := by rw [HQ.out.2.2.1, hw]; rfl
      have q4 : (WD.toList == [101, 110, 100, 105, 102]) = false := by rw [HQ.out.2.2.2.1, hw]; rfl
      have q5 : (WD.toList == [100, 101, 102, 105, 110, 101]) = true := by rw [HQ.out.2.2.2.2.1, hw]; rfl
      have q6 : (WD.toList == [117, 110, 100, 101, 102]) = false := by rw [HQ.out.2.2.2.2.2.1, hw]; rfl
      have q7 : (WD.toList == [105, 110, 99, 108, 117, 100, 101]) = false := by rw [HQ.out.2.2.2.2.2.2, hw]; rfl
      go_wp2_with fail
      refine (counts_any H2.out.1.f).mono ?_; rintro e w3 ⟨rfl, hb3⟩
      have e30 := (hb3.cell (p := ⟨bo, 0, none⟩) HBl.out).trans e20
      have e31 := (hb3.cell (p := ⟨bo, 1, none⟩) HBl.out).trans e21
      have e32 := (hb3.cell (p := ⟨bo, 2, none⟩) HBl.out).trans e22
      have H3 : Hid (HasXF base bx bf tv F G w3 S P ∧ Upd (fun g => F g ∨ G g) (fun g => F g ∨ G g) w w3 ∧ Below w0.heap.size w0 w3 ∧ base ≤ w3.heap.size) :=
        Lib.hid ⟨H2.out.1.below hb3, H2.out.2.1.trans (Upd.below hb3), H2.out.2.2.1.trans (hb3.mono H2.out.2.2.1.size), Nat.le_trans H2.out.2.2.2 hb3.size⟩
      clear hb3 e20 e21 e22
      obtain ⟨cn, hcn⟩ : ∃ cn, countsP P = cn := ⟨_, rfl⟩
      rw [hcn]
      have HCn := Lib.hid hcn
      clear hcn
      cases cn
      · go_wp2_with fail
        go_ret
        have hR := HR.out
        rw [if_neg (by rw [hw]; decide), if_pos (by simp [hw]), HCn.out, if_neg (by simp)] at hR
        subst hR
        exact ⟨F, G, rfl, H3.out.1, H3.out.2.1⟩
      · go_wp2_with fail
        refine (HD.out w3 H3.out.1 H3.out.2.2.1 H3.out.2.2.2 (by simp [hw])).mono ?_; rintro e w5 ⟨F5, G5, rfl, hx5, hu5⟩
        have H5 := Lib.hid (And.intro hx5 (H3.out.2.1.trans hu5))
        clear hx5 hu5
        go_wp2_with fail
        go_ret
        have hR := HR.out
        rw [if_neg (by rw [hw]; decide), if_pos (by simp [hw]), HCn.out, if_pos rfl] at hR
        subst hR
        exact ⟨F5, G5, rfl, H5.out.1, H5.out.2⟩
    · have q1 : (WD.toList == [105, 102, 100, 101, 102]) = false := by rw [HQ.out.1, hw]; rfl
      have q2 : (WD.toList == [105, 102, 110, 100, 101, 102]) = false := by rw [HQ.out.2.1, hw]; rfl
      have q3 : (WD.toList == [101, 108, 115, 101]) = false := by rw [HQ.out.2.2.1, hw]; rfl
      have q4 : (WD.toList == [101, 110, 100, 105, 102]) = false := by rw [HQ.out.2.2.2.1, hw]; rfl
      have q5 : (WD.toList == [100, 101, 102, 105, 110, 101]) = false := by rw [HQ.out.2.2.2.2.1, hw]; rfl
      have q6 : (WD.toList == [117, 110, 100, 101, 102]) = true := by rw [HQ.out.2.2.2.2.2.1, hw]; rfl
      have q7 : (WD.toList == [105, 110, 99, 108, 117, 100, 101]) = false := by rw [HQ.out.2.2.2.2.2.2, hw]; rfl
      go_wp2_with fail
      refine (counts_any H2.out.1.f).mono ?_; rintro e w3 ⟨rfl, hb3⟩
      have e30 := (hb3.cell (p := ⟨bo, 0, none⟩) HBl.out).trans e20
      have e31 := (hb3.cell (p := ⟨bo, 1, none⟩) HBl.out).trans e21
      have e32 := (hb3.cell (p := ⟨bo, 2, none⟩) HBl.out).trans e22
      have H3 : Hid (HasXF base bx bf tv F G w3 S P ∧ Upd (fun g => F g ∨ G g) (fun g => F g ∨ G g) w w3 ∧ Below w0.heap.size w0 w3 ∧ base ≤ w3.heap.size) :=
        Lib.hid ⟨H2.out.1.below hb3, H2.out.2.1.trans (Upd.below hb3), H2.out.2.2.1.trans (hb3.mono H2.out.2.2.1.size), Nat.le_trans H2.out.2.2.2 hb3.size⟩
      clear hb3 e20 e21 e22
      obtain ⟨cn, hcn⟩ : ∃ cn, countsP P = cn := ⟨_, rfl⟩
      rw [hcn]
      have HCn := Lib.hid hcn
      clear hcn
      cases cn
      · go_wp2_with fail
        go_ret
        have hR := HR.out
        rw [if_neg (by rw [hw]; decide), if_pos (by simp [hw]), HCn.out, if_neg (by simp)] at hR
        subst hR
        exact ⟨F, G, rfl, H3.out.1, H3.out.2.1⟩
      · go_wp2_with fail
        refine (HD.out w3 H3.out.1 H3.out.2.2.1 H3.out.2.2.2 (by simp [hw])).mono ?_; rintro e w5 ⟨F5, G5, rfl, hx5, hu5⟩
        have H5 := Lib.hid (And.intro hx5 (H3.out.2.1.trans hu5))
        clear hx5 hu5
        go_wp2_with fail
        go_ret
        have hR := HR.out
        rw [if_neg (by rw [hw]; decide), if_pos (by simp [hw]), HCn.out, if_pos rfl] at hR
        subst hR
        exact ⟨F5, G5, rfl, H5.out.1, H5.out.2⟩
    · have q1 : (WD.toList == [105, 102, 100, 101, 102]) = false := by rw [HQ.out.1, hw]; rfl
      have q2 : (WD.toList == [105, 102, 110, 100, 101, 102]) = false := by rw [HQ.out.2.1, hw]; rfl
      have q3 : (WD.toList == [101, 108, 115, 101]) = false := by rw [HQ.out.2.2.1, hw]; rfl
      have q4 : (WD.toList == [101, 110, 100, 105, 102]) = false := by rw [HQ.out.2.2.2.1, hw]; rfl
      have q5 : (WD.toList == [100, 101, 102, 105, 110, 101]) = false := by rw [HQ.out.2.2.2.2.1, hw]; rfl
      have q6 : (WD.toList == [117, 110, 100, 101, 102]) = false := by rw [HQ.out.2.2.2.2.2.1, hw]; rfl
      have q7 : (WD.toList == [105, 110, 99, 108, 117, 100, 101]) = true := by rw [HQ.out.2.2.2.2.2.2, hw]; rfl
      go_wp2_with fail
      refine (counts_any H2.out.1.f).mono ?_; rintro e w3 ⟨rfl, hb3⟩
      have e30 := (hb3.cell (p := ⟨bo, 0, none⟩) HBl.out).trans e20
      have e31 := (hb3.cell (p := ⟨bo, 1, none⟩) HBl.out).trans e21
      have e32 := (hb3.cell (p := ⟨bo, 2, none⟩) HBl.out).trans e22
      have H3 : Hid (HasXF base bx bf tv F G w3 S P ∧ Upd (fun g => F g ∨ G g) (fun g => F g ∨ G g) w w3 ∧ Below w0.heap.size w0 w3 ∧ base ≤ w3.heap.size) :=
        Lib.hid ⟨H2.out.1.below hb3, H2.out.2.1.trans (Upd.below hb3), H2.out.2.2.1.trans (hb3.mono H2.out.2.2.1.size), Nat.le_trans H2.out.2.2.2 hb3.size⟩
      clear hb3 e20 e21 e22
      obtain ⟨cn, hcn⟩ : ∃ cn, countsP P = cn := ⟨_, rfl⟩
      rw [hcn]
      have HCn := Lib.hid hcn
      clear hcn
      cases cn
      · go_wp2_with fail
        go_ret
        have hR := HR.out
        rw [if_neg (by rw [hw]; decide), if_pos (by simp [hw]), HCn.out, if_neg (by simp)] at hR
        subst hR
        exact ⟨F, G, rfl, H3.out.1, H3.out.2.1⟩
      · go_wp2_with fail
        refine (HD.out w3 H3.out.1 H3.out.2.2.1 H3.out.2.2.2 (by simp [hw])).mono ?_; rintro e w5 ⟨F5, G5, rfl, hx5, hu5⟩
        have H5 := Lib.hid (And.intro hx5 (H3.out.2.1.trans hu5))
        clear hx5 hu5
        go_wp2_with fail
        go_ret
        have hR := HR.out
        rw [if_neg (by rw [hw]; decide), if_pos (by simp [hw]), HCn.out, if_pos rfl] at hR
        subst hR
        exact ⟨F5, G5, rfl, H5.out.1, H5.out.2⟩
    · have q1 : (WD.toList == [105, 102, 100, 101, 102]) = false := by rw [HQ.out.1]; exact decide_eq_false hw.1
      have q2 : (WD.toList == [105, 102, 110, 100, 101, 102]) = false := by rw [HQ.out.2.1]; exact decide_eq_false hw.2.1
      have q3 : (WD.toList == [101, 108, 115, 101]) = false := by rw [HQ.out.2.2.1]; exact decide_eq_false hw.2.2.1
      have q4 : (WD.toList == [101, 110, 100, 105, 102]) = false := by rw [HQ.out.2.2.2.1]; exact decide_eq_false hw.2.2.2.1
      have q5 : (WD.toList == [100, 101, 102, 105, 110, 101]) = false := by rw [HQ.out.2.2.2.2.1]; exact decide_eq_false hw.2.2.2.2.1
      have q6 : (WD.toList == [117, 110, 100, 101, 102]) = false := by rw [HQ.out.2.2.2.2.2.1]; exact decide_eq_false hw.2.2.2.2.2.1
      have q7 : (WD.toList == [105, 110, 99, 108, 117, 100, 101]) = false := by rw [HQ.out.2.2.2.2.2.2]; exact decide_eq_false hw.2.2.2.2.2.2
      have HWN := Lib.hid hw
      clear hw
      go_wp2_with fail
      refine (counts_any H2.out.1.f).mono ?_; rintro e w3 ⟨rfl, hb3⟩
      have e30 := (hb3.cell (p := ⟨bo, 0, none⟩) HBl.out).trans e20
      have e31 := (hb3.cell (p := ⟨bo, 1, none⟩) HBl.out).trans e21
      have e32 := (hb3.cell (p := ⟨bo, 2, none⟩) HBl.out).trans e22
      have H3 : Hid (HasXF base bx bf tv F G w3 S P ∧ Upd (fun g => F g ∨ G g) (fun g => F g ∨ G g) w w3 ∧ Below w0.heap.size w0 w3 ∧ base ≤ w3.heap.size) :=
        Lib.hid ⟨H2.out.1.below hb3, H2.out.2.1.trans (Upd.below hb3), H2.out.2.2.1.trans (hb3.mono H2.out.2.2.1.size), Nat.le_trans H2.out.2.2.2 hb3.size⟩
      clear hb3 e20 e21 e22
      obtain ⟨cn, hcn⟩ : ∃ cn, countsP P = cn := ⟨_, rfl⟩
      rw [hcn]
      have HCn := Lib.hid hcn
      clear hcn
      go_wp2_with fail
      go_ret
      have hR := HR.out
      have hn := HWN.out
      rw [if_neg (by rintro (h | h | h | h); exact hn.1 h; exact hn.2.1 h; exact hn.2.2.1 h; exact hn.2.2.2.1 h), if_neg (by rintro (h | h | h); exact hn.2.2.2.2.1 h; exact hn.2.2.2.2.2.1 h; exact hn.2.2.2.2.2.2 h), HCn.out] at hR
      subst hR
      exact ⟨F, G, rfl, H3.out.1, H3.out.2.1⟩
end Go.Proofs.YtcjfelndnnhgjaaGreatDoor
namespace Go.Proofs.YtcjfelndnnhgjaaGreatDoor
set_option linter.unusedVariables false
open Go.RowKit Go.Maps

/-! # what every function of pre leaves true -/
def FL (S S' : Xs) : Prop := S'.err = 0 → S.err = 0 ∧ S'.files = S.files
theorem FL.refl (S : Xs) : FL S S := fun h => ⟨h, rfl⟩
theorem FL.trans {a b c : Xs} (h : FL a b) (k : FL b c) : FL a c := fun e => ⟨(h (k e).1).1, (k e).2.trans (h (k e).1).2⟩
def SL (S S' : Xs) : Prop := S'.err = 0 → S.err = 0 ∧ S.size ≤ S'.size
theorem SL.refl (S : Xs) : SL S S := fun h => ⟨h, Nat.le_refl _⟩
theorem SL.trans {a b c : Xs} (h : SL a b) (k : SL b c) : SL a c := fun e => ⟨(h (k e).1).1, Nat.le_trans (h (k e).1).2 (k e).2⟩
theorem fail_fl (S : Xs) (f l c e : Int) (he : e ≠ 0) : FL S (failP S f l c e) := fun h => absurd h (failP_facts S f l c e he).2.2
theorem put_fl (S : Xs) (p : Pc) (f l c : Int) (j : Bool) : FL S (putP S p f l c j) := by
  unfold putP
  split
  · exact FL.refl S
  · split
    · intro h; exact absurd h (failP_facts _ f l c 4 (by decide)).2.2
    · split <;> exact fun h => ⟨h, rfl⟩
theorem useL_fl {U : Xs → Bs → Xs} (f l c : Int) (hU : ∀ S n, FL S (U S n)) : ∀ (k : Nat) (s : Bs) (S : Xs), FL S (useL U f l c k s S)
  | 0, _, S => FL.refl S
  | k + 1, s, S => by
    unfold useL
    split
    · exact FL.refl S
    · split
      · exact put_fl _ _ _ _ _ _
      · split
        · exact (put_fl _ _ _ _ _ _).trans (fail_fl _ _ _ _ _ (by decide))
        · exact ((put_fl _ _ _ _ _ _).trans (hU _ _)).trans (useL_fl f l c hU k _ _)
theorem useP_fl (f l c : Int) : ∀ (d : Nat) (S : Xs) (n : Bs), FL S (useP f l c d S n)
  | 0, S, n => by
    unfold useP
    split <;> exact fail_fl _ _ _ _ _ (by decide)
  | d + 1, S, n => by
    unfold useP
    split
    · exact fail_fl _ _ _ _ _ (by decide)
    · exact useL_fl f l c (fun S n => useP_fl f l c d S n) _ _ _
theorem textP_fl (S : Xs) (P : Fs) (p : Pc) : FL S (textP S P p).1 := put_fl _ _ _ _ _ _
theorem usesL_fl (num : Nat) (T : Bs) : ∀ (k : Nat) (s : Bs) (m : Nat) (S : Xs) (P : Fs), FL S (usesL num T k s m S P).1
  | 0, _, _, S, P => FL.refl S
  | k + 1, s, m, S, P => by
    unfold usesL
    split
    · exact textP_fl S P _
    · split
      · exact textP_fl S P _
      · split
        · exact (textP_fl S P _).trans (fail_fl _ _ _ _ _ (by decide))
        · exact ((textP_fl S P _).trans (useP_fl _ _ _ _ _ _)).trans (usesL_fl num T k _ _ _ _)
theorem fail_sl (S : Xs) (f l c e : Int) (he : e ≠ 0) : SL S (failP S f l c e) := fun h => absurd h (failP_facts S f l c e he).2.2
theorem put_sl (S : Xs) (p : Pc) (f l c : Int) (j : Bool) : SL S (putP S p f l c j) := by
  unfold putP
  split
  · exact SL.refl S
  · split
    · intro h; exact absurd h (failP_facts _ f l c 4 (by decide)).2.2
    · split <;> exact fun h => ⟨h, Nat.le_add_right _ _⟩
theorem useL_sl {U : Xs → Bs → Xs} (f l c : Int) (hU : ∀ S n, SL S (U S n)) : ∀ (k : Nat) (s : Bs) (S : Xs), SL S (useL U f l c k s S)
  | 0, _, S => SL.refl S
  | k + 1, s, S => by
    unfold useL
    split
    · exact SL.refl S
    · split
      · exact put_sl _ _ _ _ _ _
      · split
        · exact (put_sl _ _ _ _ _ _).trans (fail_sl _ _ _ _ _ (by decide))
        · exact ((put_sl _ _ _ _ _ _).trans (hU _ _)).trans (useL_sl f l c hU k _ _)
theorem useP_sl (f l c : Int) : ∀ (d : Nat) (S : Xs) (n : Bs), SL S (useP f l c d S n)
  | 0, S, n => by
    unfold useP
    split <;> exact fail_sl _ _ _ _ _ (by decide)
  | d + 1, S, n => by
    unfold useP
    split
    · exact fail_sl _ _ _ _ _ (by decide)
    · exact useL_sl f l c (fun S n => useP_sl f l c d S n) _ _ _
theorem textP_sl (S : Xs) (P : Fs) (p : Pc) : SL S (textP S P p).1 := put_sl _ _ _ _ _ _
theorem usesL_sl (num : Nat) (T : Bs) : ∀ (k : Nat) (s : Bs) (m : Nat) (S : Xs) (P : Fs), SL S (usesL num T k s m S P).1
  | 0, _, _, S, P => SL.refl S
  | k + 1, s, m, S, P => by
    unfold usesL
    split
    · exact textP_sl S P _
    · split
      · exact textP_sl S P _
      · split
        · exact (textP_sl S P _).trans (fail_sl _ _ _ _ _ (by decide))
        · exact ((textP_sl S P _).trans (useP_sl _ _ _ _ _ _)).trans (usesL_sl num T k _ _ _ _)
/-- as long as nothing failed: at most k texts more than bytes -/
structure TX (k : Nat) (S : Xs) : Prop where
  tn : S.texts.length ≤ 65560
  sz : S.err = 0 → S.texts.length ≤ S.size + k
theorem TX.le {a b : Nat} {S : Xs} (h : TX a S) (hab : a ≤ b) : TX b S := ⟨h.tn, fun e => by have := h.sz e; omega⟩
theorem TX.same {k : Nat} {S S' : Xs} (h : TX k S) (ht : S'.texts.length = S.texts.length) (hs : SL S S') : TX k S' := ⟨by rw [ht]; exact h.tn, fun e => by have := h.sz (hs e).1; have := (hs e).2; omega⟩
theorem TX.failed {k : Nat} {S S' : Xs} (h : TX k S) (ht : S'.texts.length = S.texts.length) (he : S'.err ≠ 0) : TX k S' := ⟨by rw [ht]; exact h.tn, fun e => absurd e he⟩
/-- a state, and the state behind -/
structure GX (k : Nat) (S S' : Xs) : Prop where
  wx : WX S'
  tx : TX k S'
  fl : FL S S'
theorem GX.trans {k b : Nat} {S S' S'' : Xs} (h : GX b S S') (k' : GX k S' S'') : GX k S S'' := ⟨k'.wx, k'.tx, h.fl.trans k'.fl⟩
theorem GX.refl {k : Nat} {S : Xs} (h : WX S) (ht : TX k S) : GX k S S := ⟨h, ht, FL.refl S⟩
theorem GX.le {a b : Nat} {S S' : Xs} (h : GX a S S') (hab : a ≤ b) : GX b S S' := ⟨h.wx, h.tx.le hab, h.fl⟩
theorem GX.fail {k : Nat} {S : Xs} (h : WX S) (ht : TX k S) (f l c e : Int) (he : e ≠ 0) : GX k S (failP S f l c e) := ⟨h.fail _ _ _ _ he, ht.failed (by rw [(failP_facts S f l c e he).2.1]) (failP_facts S f l c e he).2.2, fail_fl _ _ _ _ _ he⟩
theorem textP_gx {k : Nat} {S : Xs} (P : Fs) (p : Pc) (h : WX S) (ht : TX k S) : GX k S (textP S P p).1 := ⟨(textP_wx P p h).1, ht.same (by rw [(textP_wx P p h).2.2.1]) (textP_sl S P p), textP_fl S P p⟩
theorem usesP_gx {k : Nat} (num : Nat) (T s : Bs) (m : Nat) {S : Xs} (P : Fs) (h : WX S) (ht : TX k S) : GX k S (usesP num T s m S P).1 := ⟨(usesL_wx num T _ s m S P h).1, ht.same (by have := (usesL_wx num T (s.length + 1) s m S P h).2.2.1; unfold usesP; rw [this]) (usesL_sl num T _ s m S P), usesL_fl num T _ s m S P⟩
/-- a newline -/
theorem textP_nl {k : Nat} {S : Xs} (P : Fs) (p : Pc) (hp : p.text.length = 1) (h : WX S) (ht : TX (k + 1) S) : GX k S (textP S P p).1 := by
  refine ⟨(textP_wx P p h).1, ⟨by rw [(textP_wx P p h).2.2.1]; exact ht.tn, ?_⟩, textP_fl S P p⟩
  show (putP S p _ _ _ _).err = 0 → (putP S p _ _ _ _).texts.length ≤ (putP S p _ _ _ _).size + k
  unfold putP
  split
  · rename_i h1
    intro e
    rcases h1 with h1 | h1
    · rw [h1] at hp; cases hp
    · exact absurd e h1
  · rename_i h1
    have he : S.err = 0 := by
      by_cases he : S.err = 0
      · exact he
      · exact absurd (Or.inr he) h1
    have := ht.sz he
    split
    · intro e; exact absurd e (failP_facts _ _ _ _ 4 (by decide)).2.2
    · split
      · intro _; show S.texts.length ≤ S.size + p.text.length + k; omega
      · intro _; show S.texts.length ≤ S.size + p.text.length + k; omega
theorem condP_gx {k : Nat} {S : Xs} (P : Fs) (word rest : Bs) (f l c : Int) (apart : Bool) (h : WX S) (ht : TX k S) : GX k S (condP S P word rest f l c apart).1 ∧ (condP S P word rest f l c apart).2.num = P.num ∧ (condP S P word rest f l c apart).2.conds.length ≤ P.conds.length + 1 := by
  unfold condP
  split
  · split
    · exact ⟨GX.fail h ht _ _ _ _ (by decide), rfl, by simp⟩
    · exact ⟨GX.refl h ht, rfl, by simp⟩
  · split
    · split
      · exact ⟨GX.fail h ht _ _ _ _ (by decide), rfl, by simp⟩
      · exact ⟨GX.refl h ht, rfl, by simp⟩
    · split
      · exact ⟨GX.fail h ht _ _ _ _ (by decide), rfl, by simp⟩
      · exact ⟨GX.refl h ht, rfl, by simp only [List.length_take]; omega⟩
section
variable {file : Xs → Nat → Int → Int → Int → Xs} {find : Bs → Nat}
def FileOk (file : Xs → Nat → Int → Int → Int → Xs) : Prop := ∀ (k : Nat) (S : Xs) (num : Nat) (f l c : Int), k ≤ 8 → WX S → TX k S → GX (k + 1) S (file S num f l c)
theorem inclP_gx (hf : FileOk file) {k : Nat} (hk : k ≤ 8) {S : Xs} (rest : Bs) (f l c : Int) (h : WX S) (ht : TX k S) : GX (k + 1) S (inclP file find S rest f l c) := by
  unfold inclP
  split
  · exact (GX.fail h ht _ _ _ _ (by decide)).le (Nat.le_succ _)
  · split
    · exact (GX.fail h ht _ _ _ _ (by decide)).le (Nat.le_succ _)
    · exact hf _ _ _ _ _ _ hk h ht
theorem undP_gx {k : Nat} {S : Xs} (rest : Bs) (f l c : Int) (apart : Bool) (h : WX S) (ht : TX k S) : GX k S (defP file find S wUndef rest f l c apart) := by
  unfold defP
  rw [if_neg (by decide)]
  split
  · exact GX.fail h ht _ _ _ _ (by decide)
  · rw [if_pos rfl]
    refine ⟨⟨fun x => ?_, h.tl, h.tn, fun e => ⟨(h.fx e).size, (h.fx e).out, (h.fx e).text⟩⟩, ⟨ht.tn, ht.sz⟩, fun e => ⟨e, rfl⟩⟩
    show (if x = name rest then 0 else S.defs x) ≤ _
    split
    · exact Nat.zero_le _
    · exact h.dl x
theorem dfnP_gx {k : Nat} (hk : k ≤ 8) {S : Xs} (he : S.err = 0) (rest : Bs) (f l c : Int) (apart : Bool) (h : WX S) (ht : TX k S) (hr : rest.length ≤ 32768) : GX (k + 1) S (defP file find S wDefine rest f l c apart) := by
  unfold defP
  rw [if_neg (by decide)]
  split
  · exact (GX.fail h ht _ _ _ _ (by decide)).le (Nat.le_succ _)
  · rw [if_neg (by decide)]
    have hz := ht.sz he
    have hsz := (h.fx he).size
    have hl : ∀ t : Bs, (S.texts ++ [t]).length = S.texts.length + 1 := fun t => by simp
    refine ⟨⟨fun x => ?_, fun i => ?_, ?_, fun e => ⟨(h.fx e).size, (h.fx e).out, (h.fx e).text⟩⟩, ?_, fun e => ⟨e, rfl⟩⟩
    · show (if x = name rest then S.texts.length + 1 else S.defs x) ≤ (S.texts ++ [_]).length
      rw [hl]
      split
      · exact Nat.le_refl _
      · have := h.dl x; omega
    · show ((S.texts ++ [_]).getD i []).length ≤ _
      by_cases hi : i < S.texts.length
      · have := h.tl i
        rw [List.getD, List.getElem?_append_left hi, ← List.getD]
        exact this
      · by_cases hi2 : i = S.texts.length
        · subst hi2
          rw [List.getD, List.getElem?_append_right (Nat.le_refl _), Nat.sub_self]
          show (trim (rest.drop (name rest).length)).length ≤ _
          have := trim_le (rest.drop (name rest).length)
          rw [List.length_drop] at this; omega
        · rw [List.getD, List.getElem?_append_right (by omega), List.getElem?_eq_none (by simp; omega)]
          simp
    · show (S.texts ++ [_]).length ≤ _
      rw [hl]; omega
    · refine ⟨?_, fun _ => ?_⟩
      · show (S.texts ++ [_]).length ≤ _
        rw [hl]; omega
      · show (S.texts ++ [_]).length ≤ S.size + (k + 1)
        rw [hl]; omega
theorem dirP_gx (hf : FileOk file) {k : Nat} (hk : k ≤ 8) {S : Xs} (he : S.err = 0) (P : Fs) (s : Bs) (f l c : Int) (h : WX S) (ht : TX k S) (hs : s.length ≤ 32768) :
    GX (k + 1) S (dirP file find S P s f l c).2.1 ∧ (dirP file find S P s f l c).2.2.num = P.num ∧ (dirP file find S P s f l c).2.2.conds.length ≤ P.conds.length + 1 ∧
      (countsP (dirP file find S P s f l c).2.2 = false → TX k (dirP file find S P s f l c).2.1) ∧ ((dirP file find S P s f l c).1 = false → TX k (dirP file find S P s f l c).2.1) := by
  unfold dirP
  simp only
  split
  · obtain ⟨a, b, d⟩ := condP_gx P (name s) (trim (s.drop (name s).length)) f l c (decide (s.drop (name s).length = []) || isBlank ((s.drop (name s).length).getD 0 0)) h ht
    exact ⟨a.le (Nat.le_succ _), b, d, fun _ => a.tx, fun _ => a.tx⟩
  · split
    · rename_i hw
      have hrl : (trim (s.drop (name s).length)).length ≤ 32768 := by have := trim_le (s.drop (name s).length); rw [List.length_drop] at this; omega
      refine ⟨?_, rfl, Nat.le_succ _, fun hc => ?_, fun hc => by cases hc⟩
      · show GX (k + 1) S (if countsP P = true then defP file find S (name s) (trim (s.drop (name s).length)) f l c (decide (s.drop (name s).length = []) || isBlank ((s.drop (name s).length).getD 0 0)) else S)
        by_cases hc : countsP P = true
        · rw [if_pos hc]
          generalize trim (s.drop (name s).length) = rest at *
          generalize (decide (s.drop (name s).length = []) || isBlank ((s.drop (name s).length).getD 0 0)) = ap at *
          rcases hw with hw | hw | hw
          · rw [hw]
            exact dfnP_gx hk he rest f l c ap h ht hrl
          · rw [hw]
            exact (undP_gx rest f l c ap h ht).le (Nat.le_succ _)
          · rw [hw]
            unfold defP
            rw [if_pos rfl]
            exact inclP_gx hf hk rest f l c h ht
        · rw [if_neg hc]
          exact (GX.refl h ht).le (Nat.le_succ _)
      · have hc' : countsP P = false := hc
        show TX k (if countsP P = true then _ else S)
        rw [hc', if_neg (by simp)]
        exact ht
    · exact ⟨(GX.refl h ht).le (Nat.le_succ _), rfl, Nat.le_succ _, fun _ => ht, fun _ => ht⟩
theorem lineP_gx (hf : FileOk file) {k : Nat} (hk : k ≤ 8) {num : Nat} {T : Bs} {S : Xs} (he : S.err = 0) (P : Fs) (s : Bs) (m : Nat) (ended : Bool) (h : WX S) (ht : TX k S) (hs : s.length ≤ 32768) (hn : P.num = num) :
    GX (if ended = true then k else k + 1) S (lineP file find num T s m ended S P).1 ∧ (lineP file find num T s m ended S P).2.num = num ∧ (lineP file find num T s m ended S P).2.conds.length ≤ P.conds.length + 1 := by
  obtain ⟨K, hK⟩ : ∃ K, (if ended = true then k else k + 1) = K := ⟨_, rfl⟩
  rw [hK]
  unfold lineP
  simp only
  obtain ⟨d, hd⟩ : ∃ d, (if trimL s ≠ [] ∧ (trimL s).getD 0 0 = 96 then dirP file find S P ((trimL s).drop 1) ((num : Int) + 1) (plTo T (m + s.length - (trimL s).length)).1 (plTo T (m + s.length - (trimL s).length)).2 else (false, S, P)) = d := ⟨_, rfl⟩
  rw [hd]
  have hD : GX (k + 1) S d.2.1 ∧ d.2.2.num = num ∧ d.2.2.conds.length ≤ P.conds.length + 1 ∧ (countsP d.2.2 = false → TX k d.2.1) ∧ (d.1 = false → TX k d.2.1) := by
    rw [← hd]
    split
    · have hl := trimL_le s
      have hdl : ((trimL s).drop 1).length = (trimL s).length - 1 := List.length_drop
      obtain ⟨a, b, e, q, r⟩ := dirP_gx (find := find) hf hk he P ((trimL s).drop 1) ((num : Int) + 1) (plTo T (m + s.length - (trimL s).length)).1 (plTo T (m + s.length - (trimL s).length)).2 h ht (by omega)
      exact ⟨a, b.trans hn, e, q, r⟩
    · exact ⟨(GX.refl h ht).le (Nat.le_succ _), hn, Nat.le_succ _, fun _ => ht, fun _ => ht⟩
  obtain ⟨g, gn, gc, gq, gr⟩ := hD
  have low : ∀ S', TX k S' → TX K S' := fun S' h => h.le (by rw [← hK]; split <;> omega)
  split
  · split
    · obtain ⟨_, _, _, tn, tc⟩ := textP_wx { d.2.2 with joins := false } (ownPc num T (if ended = true then [10] else []) (m + s.length)) g.wx
      refine ⟨?_, tn.trans gn, by rw [tc]; exact gc⟩
      cases ended with
      | true =>
        obtain rfl : k = K := hK
        exact g.trans (textP_nl { d.2.2 with joins := false } (ownPc num T (if true = true then [10] else []) (m + s.length)) rfl g.wx g.tx)
      | false =>
        obtain rfl : k + 1 = K := hK
        exact g.trans (textP_gx { d.2.2 with joins := false } (ownPc num T (if false = true then [10] else []) (m + s.length)) g.wx g.tx)
    · rename_i hc
      exact ⟨⟨g.wx, low _ (gq (by simpa using hc)), g.fl⟩, gn, gc⟩
  · rename_i hd1
    have hr := gr (by simpa using hd1)
    split
    · have u := usesP_gx num T s m d.2.2 g.wx hr
      have t := textP_gx (usesP num T s m d.2.1 d.2.2).2 (ownPc num T (if ended = true then [10] else []) (m + s.length)) u.wx u.tx
      obtain ⟨_, _, _, un, uc⟩ := usesL_wx num T (s.length + 1) s m d.2.1 d.2.2 g.wx
      obtain ⟨_, _, _, tn, tc⟩ := textP_wx (usesP num T s m d.2.1 d.2.2).2 (ownPc num T (if ended = true then [10] else []) (m + s.length)) u.wx
      have all := (g.trans u).trans t
      exact ⟨⟨all.wx, low _ all.tx, all.fl⟩, tn.trans (Eq.trans un gn), by rw [tc]; exact Nat.le_trans (Nat.le_of_eq (congrArg List.length uc)) gc⟩
    · exact ⟨⟨g.wx, low _ hr, g.fl⟩, gn, gc⟩
theorem linesL_gx (hf : FileOk file) {j : Nat} (hj : j ≤ 8) {num : Nat} {T X : Bs} (hX : X.length ≤ 32768) : ∀ (k m : Nat) (S : Xs) (P : Fs), WX S → TX j S → P.num = num →
    GX (j + 1) S (linesL file find num T X k m S P).1
  | 0, m, S, P, h, ht, _ => (GX.refl h ht).le (Nat.le_succ _)
  | k + 1, m, S, P, h, ht, hn => by
    unfold linesL
    by_cases hm : m < X.length
    · by_cases he : S.err = 0
      · rw [if_pos ⟨hm, he⟩]
        have hdl : (X.drop m).length = X.length - m := List.length_drop
        cases hq : cutB 10 (X.drop m) with
        | none =>
          simp only
          exact (lineP_gx (find := find) (T := T) hf hj he P (X.drop m) m false h ht (by omega) hn).1
        | some xy =>
          obtain ⟨x, y⟩ := xy
          simp only
          have hl : (X.drop m).length = x.length + 1 + y.length := by rw [(cutB_some hq).1]; simp; omega
          obtain ⟨g, gn, _⟩ := lineP_gx (find := find) (T := T) hf hj he P x m true h ht (by omega) hn
          exact g.trans (linesL_gx (T := T) hf hj hX k (m + x.length + 1) _ (lineP file find num T x m true S P).2 g.wx g.tx gn)
      · rw [if_neg (fun hh => he hh.2)]
        exact (GX.refl h ht).le (Nat.le_succ _)
    · rw [if_neg (fun hh => hm hh.1)]
      exact (GX.refl h ht).le (Nat.le_succ _)
end
theorem plainP_len {s X : Bs} (h : plainP s = (X, none)) : X.length = s.length := (plainP_blank h).len
theorem fileP_gx {texts : Nat → Bs} {find : Bs → Nat} (hl : ∀ n, (texts n).length ≤ 32768) : ∀ d, FileOk (fileP texts find d)
  | 0 => fun k S num f l c hk h ht => by
    unfold fileP
    exact ⟨(WX.fail (S := { S with files := S.files + 1 }) ⟨h.dl, h.tl, h.tn, fun e => ⟨(h.fx e).size, (h.fx e).out, (h.fx e).text⟩⟩ f l c 8 (by decide)), TX.failed (S := S) (ht.le (Nat.le_succ _)) (by rw [(failP_facts { S with files := S.files + 1 } f l c 8 (by decide)).2.1]) (failP_facts _ f l c 8 (by decide)).2.2, fun e => absurd e (failP_facts _ f l c 8 (by decide)).2.2⟩
  | d + 1 => fun k S num f l c hk h ht => by
    have h' : WX { S with files := S.files + 1 } := ⟨h.dl, h.tl, h.tn, fun e => ⟨(h.fx e).size, (h.fx e).out, (h.fx e).text⟩⟩
    have ht' : TX k { S with files := S.files + 1 } := ⟨ht.tn, ht.sz⟩
    unfold fileP
    cases hp : plainP (texts num) with
    | mk X o =>
      cases o with
      | some b =>
        simp only
        exact ⟨h'.fail _ _ _ _ (by decide), TX.failed (S := S) (ht.le (Nat.le_succ _)) (by rw [(failP_facts { S with files := S.files + 1 } _ _ _ 6 (by decide)).2.1]) (failP_facts _ _ _ _ 6 (by decide)).2.2, fun e => absurd e (failP_facts _ _ _ _ 6 (by decide)).2.2⟩
      | none =>
        simp only
        have hpl := plainP_len hp
        have hn := hl num
        have g := linesL_gx (find := find) (T := texts num) (num := num - 1) (fileP_gx (find := find) hl d) hk (X := X) (by omega) (X.length + 1) 0 { S with files := S.files + 1 } ⟨num - 1, [], false⟩ h' ht' rfl
        generalize linesL (fileP texts find d) find (num - 1) (texts num) X (X.length + 1) 0 { S with files := S.files + 1 } ⟨num - 1, [], false⟩ = r at *
        split
        · refine ⟨⟨g.wx.dl, g.wx.tl, g.wx.tn, fun e => ⟨(g.wx.fx e).size, (g.wx.fx e).out, (g.wx.fx e).text⟩⟩, ⟨g.tx.tn, g.tx.sz⟩, fun e => ?_⟩
          have := g.fl e
          exact ⟨this.1, by show r.1.files - 1 = S.files; rw [this.2]; show S.files + 1 - 1 = _; omega⟩
        · have g2 := g.wx.fail (r.2.conds.getD (r.2.conds.length - 1) default).f (r.2.conds.getD (r.2.conds.length - 1) default).l (r.2.conds.getD (r.2.conds.length - 1) default).c 6 (by decide)
          obtain ⟨f1, f2, f3⟩ := failP_facts r.1 (r.2.conds.getD (r.2.conds.length - 1) default).f (r.2.conds.getD (r.2.conds.length - 1) default).l (r.2.conds.getD (r.2.conds.length - 1) default).c 6 (by decide)
          refine ⟨⟨g2.dl, g2.tl, g2.tn, fun e => absurd e f3⟩, TX.failed (S := r.1) g.tx ?_ f3, fun e => absurd e f3⟩
          show (failP _ _ _ _ _).texts.length = _
          rw [f2]
end Go.Proofs.YtcjfelndnnhgjaaGreatDoor
