/- Texts of this claim, one behind another: G22, G23. They state lemmas; each names its own conditions. -/
import Derived.Test.YtcjfelndnnhgjaaGreatDoorZB
namespace Go.Proofs.YtcjfelndnnhgjaaGreatDoor
set_option linter.unusedVariables false
open Go.RowKit Go.Maps

/-- a block that is none of theirs stays -/
theorem Upd.keepBlk {F F' : Nat → Prop} {w w' : World} {b t : Nat} {l : List Value} (h : Upd F F' w w') (hk : Blk w b t l) (hn : ¬ F b) : Blk w' b t l ∧ ¬ F' b :=
  ⟨(h.block b hk.lt hn).trans hk, fun hf => (h.sub b hf).elim hn fun hl => by have := hk.lt; omega⟩
set_option maxRecDepth 100000 in
set_option maxHeartbeats 8000000 in
theorem line_any {w0 w : World} {bx bf bt : Nat} {ps : List Part} {fs : List Fil} {F G : Nat → Prop} {S : Xs} {P : Fs} {k : Nat} (hk : k ≤ 8) (herr : S.err = 0) (htx : TX k S) (hM : Made w0 bt ps fs) (hl : fs.length ≤ 100000) (h0 : Below w0.heap.size w0 w)
    (h : HasXF w0.heap.size bx bf (.pointer (some ⟨bt, 0, none⟩)) F G w S P) (hw : WX S) (num : Nat) (hnum : P.num = num) (TB : ByteArray) (hT : (fs.getD num default).text = TB) (hn : num < fs.length) (T : Bs) (hTB : TB.data.toList = T) (s : Bs) (m : Nat) (ended : Bool) (hs : s.length ≤ 32768) (hm : m + s.length ≤ T.length) (hTl : T.length ≤ 32768)
    (hcl : P.conds.length ≤ 90000) (file : Xs → Nat → Int → Int → Int → Xs) (hfo : FileOk file)
    (hfile : ∀ (f l c : Int) (W : World) (F' : Nat → Prop) (num : Nat), HasX w0.heap.size bx (.pointer (some ⟨bt, 0, none⟩)) F' W S → Below w0.heap.size w0 W → 1 ≤ num → num ≤ fs.length → Calls Tryz.prog 17 #[.pointer (some ⟨bx, 0, none⟩), .int .i64 num, .agg #[.int .i64 f, .int .i64 l, .int .i64 c]] W (XR w0.heap.size bx (.pointer (some ⟨bt, 0, none⟩)) F' W (file S num f l c) (.tuple #[]))) :
    Calls Tryz.prog 30 #[.pointer (some ⟨bf, 0, none⟩), .string (bstr s), .int .i64 m, .bool ended] w (FR w0.heap.size bx bf (.pointer (some ⟨bt, 0, none⟩)) F G w (lineP file (findN fs) num T s m ended S P).1 (lineP file (findN fs) num T s m ended S P).2 (.tuple #[])) := by
  obtain ⟨tv, htv⟩ : ∃ tv, Value.pointer (some ⟨bt, 0, none⟩) = tv := ⟨_, rfl⟩
  obtain ⟨base, hbase⟩ : ∃ base, w0.heap.size = base := ⟨_, rfl⟩
  have hbw : base ≤ w.heap.size := by rw [← hbase]; exact h0.size
  have hTsz : TB.size = T.length := by rw [← hTB]; simp
  have hlow : ∀ (W' : World) (F' G' : Nat → Prop), Upd (fun g => F g ∨ G g) (fun g => F' g ∨ G' g) w W' → Below w0.heap.size w0 W' := fun W' F' G' hu => h0.trans (hu.low h.base h0.size)
  have hplace : ∀ (w' : World) (F' G' : Nat → Prop) (S' : Xs) (P' : Fs) (j : Nat), HasXF base bx bf tv F' G' w' S' P' → P'.num = num → Upd (fun g => F g ∨ G g) (fun g => F' g ∨ G' g) w w' → j ≤ T.length →
      Calls Tryz.prog 43 #[.pointer (some ⟨bf, 0, none⟩), .int .i64 j] w' fun e w2 => e = .returned (.agg #[.int .i64 ((num : Int) + 1), .int .i64 (plTo T j).1, .int .i64 (plTo T j).2]) ∧ Below w'.heap.size w' w2 := by
    intro w' F' G' S' P' j hx hnu hu hj
    have := place_any hM hl (hlow w' F' G' hu) (P := P') (by rw [hbase, htv]; exact hx) j TB (by rw [hnu]; exact hT) (by rw [hnu]; exact hn) (by rw [hTsz]; exact hj)
    rw [hTB, hnu] at this
    exact this
  have htl := trimL_le s
  obtain ⟨rest, hrest⟩ : ∃ r, trimL s = r := ⟨_, rfl⟩
  rw [hrest] at htl
  obtain ⟨tl, htl2⟩ : ∃ t, rest.drop 1 = t := ⟨_, rfl⟩
  have htll : tl.length ≤ 32768 := by rw [← htl2, List.length_drop]; omega
  have hdir : ∀ (w' : World) (f l c : Int), rest ≠ [] ∧ rest.getD 0 0 = 96 → HasXF base bx bf tv F G w' S P → Upd (fun g => F g ∨ G g) (fun g => F g ∨ G g) w w' →
      Calls Tryz.prog 44 #[.pointer (some ⟨bf, 0, none⟩), .string (bstr tl), .agg #[.int .i64 f, .int .i64 l, .int .i64 c]] w' (FR base bx bf tv F G w' (dirP file (findN fs) S P tl f l c).2.1 (dirP file (findN fs) S P tl f l c).2.2 (.bool (dirP file (findN fs) S P tl f l c).1)) := by
    intro w' f l c h96 hx hu
    refine dir_any htv.symm hbase.symm hM hl (hlow w' F G hu) hx (Nat.le_trans hbw hu.size) tl htll (by have := htx.tn; omega) hcl f l c file ?_
    rw [← htv, ← hbase]
    intro W F' nm a1 a2 a3 a4 a5 a6
    exact hfile f l c W F' nm a1 a2 a3 a4
  have huses : ∀ (w' : World) (F' G' : Nat → Prop) (S' : Xs) (P' : Fs), HasXF base bx bf tv F' G' w' S' P' → Upd (fun g => F g ∨ G g) (fun g => F' g ∨ G' g) w w' → WX S' → P'.num = num →
      Calls Tryz.prog 47 #[.pointer (some ⟨bf, 0, none⟩), .string (bstr s), .int .i64 m] w' (FR base bx bf tv F' G' w' (usesP num T s m S' P').1 (usesP num T s m S' P').2 (.tuple #[])) := by
    intro w' F' G' S' P' hx hu hw' hn'
    subst hbase; subst htv
    exact uses_any hM hl (hlow w' F' G' hu) hx hw' num hn' TB hT hn T hTB s m hs hm hTl
  obtain ⟨en, hen⟩ : ∃ en : Bs, (if ended = true then [10] else []) = en := ⟨_, rfl⟩
  have henl : en.length ≤ 1 := by rw [← hen]; split <;> simp
  obtain ⟨EN, hEN⟩ : ∃ EN, bstr en = EN := ⟨_, rfl⟩
  obtain ⟨pe, hpe⟩ : ∃ p, plTo T (m + s.length) = p := ⟨_, rfl⟩
  have htext : ∀ (w' : World) (F' G' : Nat → Prop) (S' : Xs) (P' : Fs), HasXF base bx bf tv F' G' w' S' P' → base ≤ w'.heap.size → WX S' →
      Calls Tryz.prog 46 #[.pointer (some ⟨bf, 0, none⟩), .agg #[.string EN, .int .i64 ((num : Int) + 1), .int .i64 pe.1, .int .i64 pe.2, .bool false]] w' (FR base bx bf tv F' G' w' (textP S' P' (ownPc num T en (m + s.length))).1 (textP S' P' (ownPc num T en (m + s.length))).2 (.tuple #[])) := by
    intro w' F' G' S' P' hx hb' hw'
    have := text_any hx (ownPc num T en (m + s.length)) hb' hw'.fx (by show en.length ≤ _; omega)
    unfold ownPc at this ⊢
    rw [hpe] at this ⊢
    rw [← hEN]
    exact this
  obtain ⟨a, ha⟩ : ∃ a, m + s.length - rest.length = a := ⟨_, rfl⟩
  obtain ⟨pa, hpa⟩ : ∃ p, plTo T a = p := ⟨_, rfl⟩
  obtain ⟨me, hme⟩ : ∃ me, m + s.length = me := ⟨_, rfl⟩
  obtain ⟨SS, hSS⟩ : ∃ x, bstr s = x := ⟨_, rfl⟩
  obtain ⟨RT, hRT⟩ : ∃ x, bstr rest = x := ⟨_, rfl⟩
  obtain ⟨TL, hTL⟩ : ∃ x, bstr tl = x := ⟨_, rfl⟩
  have hsS : SS.size = s.length := by rw [← hSS, bstr_size]
  have hsR : RT.size = rest.length := by rw [← hRT, bstr_size]
  have hSb : (SS.size : Int) ≤ 32768 := by omega
  have hmb : (m : Int) ≤ 32768 := by omega
  have hw1 : IntKind.i64.wrap ((m : Int) + (SS.size : Int)) = (me : Int) := by rw [i64_of (by omega)]; omega
  have hw2 : IntKind.i64.wrap ((me : Int) - (RT.size : Int)) = (a : Int) := by rw [i64_of (by omega)]; omega
  have hTr := fun W' => trimLeft_any (w := W') s
  rw [hrest, hRT, hSS] at hTr
  obtain ⟨R, hR⟩ : ∃ R, lineP file (findN fs) num T s m ended S P = R := ⟨_, rfl⟩
  rw [hR]
  unfold lineP at hR
  simp only at hR
  rw [hen, hrest, htl2, ha, hpa] at hR
  have hpl1 := fun w' hx hu => hplace w' F G S P me hx hnum hu (by omega)
  have hpl2 := fun w' hx hu => hplace w' F G S P a hx hnum hu (by omega)
  rw [show plTo T me = pe by rw [← hme]; exact hpe] at hpl1
  rw [hpa] at hpl2
  rw [hTL] at hdir
  rw [hSS] at huses ⊢
  rw [hbase, htv] at h ⊢
  have HTr := Lib.hid hTr
  have HPl1 := Lib.hid hpl1
  have HPl2 := Lib.hid hpl2
  have HDi := Lib.hid hdir
  have HUs := Lib.hid huses
  have HTe := Lib.hid htext
  have HR0 := Lib.hid hR
  have H0 := Lib.hid (And.intro h (And.intro hbw (And.intro hw hnum)))
  have HDg := Lib.hid (fun f l c (h96 : rest ≠ [] ∧ rest.getD 0 0 = 96) => dirP_gx (find := findN fs) hfo hk herr P tl f l c hw htx htll)
  have hatR : ∀ h : 0 < RT.size, RT[0] = rest.getD 0 0 := by subst hRT; intro h; rw [bstr_at]
  have hex : 0 < rest.length → RT.extract 1 RT.size = TL := by
    intro hp
    rw [hsR, ← hRT, ← hTL, ← htl2, bstr_extract, List.take_length]
  clear hM hl h0 h hw hT hTB hs hm hTl htx herr hk hcl hfo hfile hlow hplace hdir huses htext hTsz htl htll henl hpl1 hpl2 hR hTr hbw hbase htv hpe hpa hme ha hnum hn
  have HAll := Lib.hid (And.intro hsS (And.intro hsR (And.intro hatR hex)))
  clear hsS hsR hatR hex hSb hmb
  go_enter Tryz.func30, Tryz.ntmps30
  go_wp2_with fail
  refine (HTr.out _).mono ?_; rintro e w1 ⟨rfl, hb1⟩
  have H1 := Lib.hid (And.intro (H0.out.1.below hb1) (Upd.below (F := fun g => F g ∨ G g) hb1))
  clear hb1
  go_wp2_with fail
  refine (HPl1.out _ H1.out.1 H1.out.2).mono ?_; rintro e w2 ⟨rfl, hb2⟩
  have H2 := Lib.hid (And.intro (H1.out.1.below hb2) (H1.out.2.trans (Upd.below hb2)))
  clear hb2
  cases ended
  · have hEN0 : EN = ⟨#[]⟩ := by rw [← hEN, ← hen]; rfl
    subst hEN0
    clear hen hEN
    go_upto_region 5 with fail
    have hbx := Below.new w2 (.cells #[.string ((⟨#[]⟩ : ByteArray)), .int .i64 ((num : Int) + 1), .int .i64 pe.1, .int .i64 pe.2, .bool false] 67)
    have hkx : Blk (w2.alloc (.cells #[.string ((⟨#[]⟩ : ByteArray)), .int .i64 ((num : Int) + 1), .int .i64 pe.1, .int .i64 pe.2, .bool false] 67)) w2.heap.size 67 [.string ((⟨#[]⟩ : ByteArray)), .int .i64 ((num : Int) + 1), .int .i64 pe.1, .int .i64 pe.2, .bool false] := Blk.new _ _
    have hnx : ¬ (F w2.heap.size ∨ G w2.heap.size) := by
      rintro (hg | hg)
      · have := (H2.out.1.x.lt _ hg).2; omega
      · have := (H2.out.1.f.lt _ hg).2; omega
    have HW := Lib.hid (And.intro (H2.out.1.below hbx) (And.intro (H2.out.2.trans (Upd.below hbx)) (And.intro hkx hnx)))
    clear hbx hkx hnx
    generalize w2.alloc (.cells #[.string ((⟨#[]⟩ : ByteArray)), .int .i64 ((num : Int) + 1), .int .i64 pe.1, .int .i64 pe.2, .bool false] 67) = W at *
    generalize w2.heap.size = be at *
    by_cases hre : rest = []
    · have hno : ¬ (rest ≠ [] ∧ rest.getD 0 0 = 96) := fun h => h.1 hre
      have hrt : RT.toList = [] := by rw [← hRT, hre, ByteArray.toList_eq]; rfl
      have hrt2 : RT.toList.isEmpty = true := by rw [hrt]; rfl
      clear hre hrest htl2 hSS hRT hTL hw1 hw2
      have h0R := HR0.out
      rw [if_neg hno] at h0R
      have hR1 : R = if countsP P = true then textP (usesP num T s m S P).1 (usesP num T s m S P).2 (ownPc num T en (m + s.length)) else (S, P) := by rw [← h0R]; rfl
      have hbd : Below W.heap.size W W.drew := (Below.refl _ _).drew
      obtain ⟨Fq, Gq, Sq, Pq, HQ⟩ : ∃ Fq Gq Sq Pq, Hid (HasXF base bx bf tv Fq Gq W.drew Sq Pq ∧ Upd (fun g => F g ∨ G g) (fun g => Fq g ∨ Gq g) w W.drew ∧ Blk W.drew be 67 [.string (((⟨#[]⟩ : ByteArray))), .int .i64 ((num : Int) + 1), .int .i64 pe.1, .int .i64 pe.2, .bool false] ∧ ¬ (Fq be ∨ Gq be) ∧ WX Sq ∧ Pq.num = num ∧ R = if countsP Pq = true then textP (usesP num T s m Sq Pq).1 (usesP num T s m Sq Pq).2 (ownPc num T en (m + s.length)) else (Sq, Pq)) :=
        ⟨F, G, S, P, Lib.hid ⟨HW.out.1.below hbd, HW.out.2.1.trans (Upd.below hbd), HW.out.2.2.1.next hbd, HW.out.2.2.2, H0.out.2.2.1, H0.out.2.2.2, hR1⟩⟩
      clear h0R hR1 hbd hno
      refine wp_region_held_drew (S := fun W => True ∧ True ∧ True) (by kernel_rfl) ⟨trivial, trivial, trivial⟩ (fun hHeld => ?_)
      generalize W.drew = W4 at *
      refine held_take (i := 0) (v := ?_) rfl (by kernel_rfl) (by kernel_rfl) (by kernel_rfl) (fun _ _ _ h => h) (Or.inl ⟨by rfl, ?_⟩) hHeld ?_
      rotate_left
      · intro w hSw; obtain ⟨hS1, hS2, hS3⟩ := hSw; go_simp; (try with_reducible rfl)
      try simp only [Act.put, List.setIfInBounds_toArray, List.set_cons_zero, List.set_cons_succ]
      refine held_take (i := 1) (v := ?_) rfl (by kernel_rfl) (by kernel_rfl) (by kernel_rfl) (fun _ _ _ h => h) (Or.inl ⟨by rfl, ?_⟩) hHeld ?_
      rotate_left
      · intro w hSw; obtain ⟨hS1, hS2, hS3⟩ := hSw; go_simp; (try with_reducible rfl)
      try simp only [Act.put, List.setIfInBounds_toArray, List.set_cons_zero, List.set_cons_succ]
      refine held_take (i := 2) (v := ?_) rfl (by kernel_rfl) (by kernel_rfl) (by kernel_rfl) (fun _ _ _ h => h) (Or.inl ⟨by rfl, ?_⟩) hHeld ?_
      rotate_left
      · intro w hSw; obtain ⟨hS1, hS2, hS3⟩ := hSw; go_simp; (try with_reducible rfl)
      try simp only [Act.put, List.setIfInBounds_toArray, List.set_cons_zero, List.set_cons_succ]
      refine held_take (i := 3) rfl (by kernel_rfl) (by kernel_rfl) (by kernel_rfl) (fun _ _ _ h => h) (Or.inr ⟨by rfl, rfl⟩) hHeld ?_
      try simp only [Act.put, List.setIfInBounds_toArray, List.set_cons_zero, List.set_cons_succ]
      refine held_take (i := 4) rfl (by kernel_rfl) (by kernel_rfl) (by kernel_rfl) (fun _ _ _ h => h) (Or.inr ⟨by rfl, rfl⟩) hHeld ?_
      try simp only [Act.put, List.setIfInBounds_toArray, List.set_cons_zero, List.set_cons_succ]
      refine held_take (i := 5) rfl (by kernel_rfl) (by kernel_rfl) (by kernel_rfl) (fun _ _ _ h => h) (Or.inr ⟨by rfl, rfl⟩) hHeld ?_
      try simp only [Act.put, List.setIfInBounds_toArray, List.set_cons_zero, List.set_cons_succ]
      refine held_take (i := 6) (v := ?_) rfl (by kernel_rfl) (by kernel_rfl) (by kernel_rfl) (fun _ _ _ h => h) (Or.inl ⟨by rfl, ?_⟩) hHeld ?_
      rotate_left
      · intro w hSw; obtain ⟨hS1, hS2, hS3⟩ := hSw; go_simp; (try with_reducible rfl)
      try simp only [Act.put, List.setIfInBounds_toArray, List.set_cons_zero, List.set_cons_succ]
      refine held_take (i := 7) (v := ?_) rfl (by kernel_rfl) (by kernel_rfl) (by kernel_rfl) (fun _ _ _ h => h) (Or.inl ⟨by rfl, ?_⟩) hHeld ?_
      rotate_left
      · intro w hSw; obtain ⟨hS1, hS2, hS3⟩ := hSw; go_simp; (try with_reducible rfl)
      try simp only [Act.put, List.setIfInBounds_toArray, List.set_cons_zero, List.set_cons_succ]
      refine held_take (i := 8) rfl (by kernel_rfl) (by kernel_rfl) (by kernel_rfl) (fun _ _ _ h => h) (Or.inr ⟨by rfl, rfl⟩) hHeld ?_
      try simp only [Act.put, List.setIfInBounds_toArray, List.set_cons_zero, List.set_cons_succ]
      refine held_take (i := 9) rfl (by kernel_rfl) (by kernel_rfl) (by kernel_rfl) (fun _ _ _ h => h) (Or.inr ⟨by rfl, rfl⟩) hHeld ?_
      try simp only [Act.put, List.setIfInBounds_toArray, List.set_cons_zero, List.set_cons_succ]
      refine held_take (i := 10) rfl (by kernel_rfl) (by kernel_rfl) (by kernel_rfl) (fun _ _ _ h => h) (Or.inr ⟨by rfl, rfl⟩) hHeld ?_
      try simp only [Act.put, List.setIfInBounds_toArray, List.set_cons_zero, List.set_cons_succ]
      refine held_take (i := 11) rfl (by kernel_rfl) (by kernel_rfl) (by kernel_rfl) (fun _ _ _ h => h) (Or.inr ⟨by rfl, rfl⟩) hHeld ?_
      try simp only [Act.put, List.setIfInBounds_toArray, List.set_cons_zero, List.set_cons_succ]
      refine held_take (i := 12) rfl (by kernel_rfl) (by kernel_rfl) (by kernel_rfl) (fun _ _ _ h => h) (Or.inr ⟨by rfl, rfl⟩) hHeld ?_
      try simp only [Act.put, List.setIfInBounds_toArray, List.set_cons_zero, List.set_cons_succ]
      refine held_take (i := 13) rfl (by kernel_rfl) (by kernel_rfl) (by kernel_rfl) (fun _ _ _ h => h) (Or.inr ⟨by rfl, rfl⟩) hHeld ?_
      try simp only [Act.put, List.setIfInBounds_toArray, List.set_cons_zero, List.set_cons_succ]
      refine held_take (i := 14) rfl (by kernel_rfl) (by kernel_rfl) (by kernel_rfl) (fun _ _ _ h => h) (Or.inr ⟨by rfl, rfl⟩) hHeld ?_
      try simp only [Act.put, List.setIfInBounds_toArray, List.set_cons_zero, List.set_cons_succ]
      refine held_take (i := 15) (v := ?_) rfl (by kernel_rfl) (by kernel_rfl) (by kernel_rfl) (fun _ _ _ h => h) (Or.inl ⟨by rfl, ?_⟩) hHeld ?_
      rotate_left
      · intro w hSw; obtain ⟨hS1, hS2, hS3⟩ := hSw; go_simp; (try with_reducible rfl)
      try simp only [Act.put, List.setIfInBounds_toArray, List.set_cons_zero, List.set_cons_succ]
      refine wpAnyH_done (by kernel_rfl) ?_ _
      clear hHeld
      go_wp2_with fail
      refine (counts_any HQ.out.1.f).mono ?_; rintro e w3 ⟨rfl, hb3⟩
      have H3 : Hid (HasXF base bx bf tv Fq Gq w3 Sq Pq ∧ Upd (fun g => F g ∨ G g) (fun g => Fq g ∨ Gq g) w w3 ∧ Blk w3 be 67 [.string (((⟨#[]⟩ : ByteArray))), .int .i64 ((num : Int) + 1), .int .i64 pe.1, .int .i64 pe.2, .bool false]) :=
        Lib.hid ⟨HQ.out.1.below hb3, HQ.out.2.1.trans (Upd.below hb3), HQ.out.2.2.1.next hb3⟩
      clear hb3
      obtain ⟨cn, hcn⟩ : ∃ cn, countsP Pq = cn := ⟨_, rfl⟩
      rw [hcn]
      have HCn := Lib.hid hcn
      clear hcn
      cases cn
      · go_wp2_with fail
        go_end0
        have hRq := HQ.out.2.2.2.2.2.2
        rw [HCn.out, if_neg (by simp)] at hRq
        rw [hRq]
        exact ⟨Fq, Gq, rfl, H3.out.1, H3.out.2.1⟩
      · go_wp2_with fail
        refine (HUs.out w3 Fq Gq Sq Pq H3.out.1 H3.out.2.1 HQ.out.2.2.2.2.1 HQ.out.2.2.2.2.2.1).mono ?_; rintro e w5 ⟨F5, G5, rfl, hx5, hu5⟩
        obtain ⟨hk5, hn5⟩ := hu5.keepBlk H3.out.2.2 HQ.out.2.2.2.1
        have b0 := hk5.cell (i := 0) rfl
        have b1 := hk5.cell (i := 1) rfl
        have b2 := hk5.cell (i := 2) rfl
        have b3 := hk5.cell (i := 3) rfl
        have b4 := hk5.cell (i := 4) rfl
        have H5 := Lib.hid (And.intro hx5 (And.intro (H3.out.2.1.trans hu5) (show WX (usesP num T s m Sq Pq).1 from (usesL_wx num T (s.length + 1) s m _ Pq HQ.out.2.2.2.2.1).1)))
        clear hx5 hu5 hk5 hn5
        go_wp2_with fail
        refine (HTe.out w5 F5 G5 _ _ H5.out.1 (Nat.le_trans H0.out.2.1 H5.out.2.1.size) H5.out.2.2).mono ?_; rintro e w9 ⟨F9, G9, rfl, hx9, hu9⟩
        have H9 := Lib.hid (And.intro hx9 hu9)
        clear hx9 hu9
        go_wp2_with fail
        go_end0
        have hRq := HQ.out.2.2.2.2.2.2
        rw [HCn.out, if_pos rfl] at hRq
        rw [hRq]
        exact ⟨F9, G9, rfl, H9.out.1, H5.out.2.1.trans H9.out.2⟩
    · have hrt : ¬ RT.toList = [] := by rw [← hRT]; exact (bstr_ne hre).1
      have hrt2 : RT.toList.isEmpty = false := by rw [← hRT]; exact (bstr_ne hre).2
      have hrp : 0 < rest.length := by cases hq : rest with
        | nil => exact absurd hq hre
        | cons _ _ => simp
      have hlt : 0 < RT.size := by have := HAll.out.2.1; omega
      have hlti : (0 : Int) < (RT.size : Int) := by omega
      obtain ⟨c1, hc1⟩ : ∃ c1, rest.getD 0 0 = c1 := ⟨_, rfl⟩
      have hat : RT[0] = c1 := by rw [← hc1]; exact HAll.out.2.2.1 hlt
      by_cases h96 : c1 = 96
      · subst h96
        have hyes : rest ≠ [] ∧ rest.getD 0 0 = 96 := ⟨hre, hc1⟩
        have h0R := HR0.out
        rw [if_pos hyes] at h0R
        obtain ⟨D, hD⟩ : ∃ D, dirP file (findN fs) S P tl ((num : Int) + 1) pa.1 pa.2 = D := ⟨_, rfl⟩
        rw [hD] at h0R
        have hdg := HDg.out ((num : Int) + 1) pa.1 pa.2 hyes
        rw [hD] at hdg
        have hdc := fun w' hx hu => HDi.out w' ((num : Int) + 1) pa.1 pa.2 hyes hx hu
        rw [hD] at hdc
        have HDc := Lib.hid hdc
        have HDw := Lib.hid (And.intro hdg h0R)
        have hsl : ∀ w', (Instr.slice 9 (Value.string RT) (some (Value.int IntKind.i64 1)) none none).run Tryz.prog w' = .ok (.string TL) w' := by
          intro w'
          have h := run_slice_string_l (P := Tryz.prog) (w := w') 9 RT Tryz.underlying9 .i64 1 (by omega) (by omega)
          rw [h]
          rw [show ((1 : Int)).toNat = 1 from rfl, HAll.out.2.2.2 hrp]
        have hx1 := HW.out.1
        clear hre hrest htl2 hSS hRT hTL hw1 hw2 hyes h0R hD hdg hdc hrp hc1 hx1
        have s0 : Below W.heap.size W W.drew := (Below.refl _ _).drew
        have HPd : Hid (∀ W', Below W.heap.size W W' → Calls Tryz.prog 43 #[.pointer (some ⟨bf, 0, none⟩), .int .i64 a] W' fun e w2 => e = .returned (.agg #[.int .i64 ((num : Int) + 1), .int .i64 pa.1, .int .i64 pa.2]) ∧ Below W'.heap.size W' w2) :=
          Lib.hid fun W' hb => HPl2.out W' (HW.out.1.below hb) (HW.out.2.1.trans (Upd.below hb))
        have HDd : Hid (∀ W', Below W.heap.size W W' → Calls Tryz.prog 44 #[.pointer (some ⟨bf, 0, none⟩), .string TL, .agg #[.int .i64 ((num : Int) + 1), .int .i64 pa.1, .int .i64 pa.2]] W' (FR base bx bf tv F G W' D.2.1 D.2.2 (.bool D.1))) :=
          Lib.hid fun W' hb => HDc.out W' (HW.out.1.below hb) (HW.out.2.1.trans (Upd.below hb))
        go_region_held3 (fun w' => True) (trivial)
          (first
            | (go_at_call 43; refine (HPd.out _ s0).mono ?_; rintro e w6 ⟨rfl, hb6⟩; have s6 : Below W.heap.size W w6 := Below.next s0 hb6; clear hb6)
            | (go_at_call 44; refine (HDd.out _ s6).mono ?_; rintro e w7 ⟨F7, G7, rfl, hx7, hu7⟩; have H7 := Lib.hid (And.intro hx7 (And.intro hu7 s6)); clear hx7 hu7))
        obtain ⟨hx7, hu7, hs6⟩ := H7.out
        obtain ⟨hk7, hn7⟩ := hu7.keepBlk (HW.out.2.2.1.next hs6) HW.out.2.2.2
        have hu77 := HW.out.2.1.trans ((Upd.below hs6).trans hu7)
        obtain ⟨D1, S7, P7⟩ := D
        have HQ7 := Lib.hid (And.intro hx7 (And.intro hu77 (And.intro hk7 (And.intro hn7 (And.intro HDw.out.1.1.wx (HDw.out.1.2.1.trans H0.out.2.2.2))))))
        have HR7 := Lib.hid HDw.out.2
        clear hx7 hu7 hs6 hk7 hn7 hu77 s0 s6 H7 HDw HPd HDd HDc
        cases D1
        · obtain ⟨Fq, Gq, Sq, Pq, HQ⟩ : ∃ Fq Gq Sq Pq, Hid (HasXF base bx bf tv Fq Gq w7 Sq Pq ∧ Upd (fun g => F g ∨ G g) (fun g => Fq g ∨ Gq g) w w7 ∧ Blk w7 be 67 [.string ((⟨#[]⟩ : ByteArray)), .int .i64 ((num : Int) + 1), .int .i64 pe.1, .int .i64 pe.2, .bool false] ∧ ¬ (Fq be ∨ Gq be) ∧ WX Sq ∧ Pq.num = num ∧ R = if countsP Pq = true then textP (usesP num T s m Sq Pq).1 (usesP num T s m Sq Pq).2 (ownPc num T en (m + s.length)) else (Sq, Pq)) :=
            ⟨F7, G7, S7, P7, Lib.hid ⟨HQ7.out.1, HQ7.out.2.1, HQ7.out.2.2.1, HQ7.out.2.2.2.1, HQ7.out.2.2.2.2.1, HQ7.out.2.2.2.2.2, by rw [← HR7.out]; rfl⟩⟩
          clear HQ7 HR7
          go_wp2_with fail
          refine (counts_any HQ.out.1.f).mono ?_; rintro e w3 ⟨rfl, hb3⟩
          have H3 : Hid (HasXF base bx bf tv Fq Gq w3 Sq Pq ∧ Upd (fun g => F g ∨ G g) (fun g => Fq g ∨ Gq g) w w3 ∧ Blk w3 be 67 [.string (((⟨#[]⟩ : ByteArray))), .int .i64 ((num : Int) + 1), .int .i64 pe.1, .int .i64 pe.2, .bool false]) :=
            Lib.hid ⟨HQ.out.1.below hb3, HQ.out.2.1.trans (Upd.below hb3), HQ.out.2.2.1.next hb3⟩
          clear hb3
          obtain ⟨cn, hcn⟩ : ∃ cn, countsP Pq = cn := ⟨_, rfl⟩
          rw [hcn]
          have HCn := Lib.hid hcn
          clear hcn
          cases cn
          · go_wp2_with fail
            go_end0
            have hRq := HQ.out.2.2.2.2.2.2
            rw [HCn.out, if_neg (by simp)] at hRq
            rw [hRq]
            exact ⟨Fq, Gq, rfl, H3.out.1, H3.out.2.1⟩
          · go_wp2_with fail
            refine (HUs.out w3 Fq Gq Sq Pq H3.out.1 H3.out.2.1 HQ.out.2.2.2.2.1 HQ.out.2.2.2.2.2.1).mono ?_; rintro e w5 ⟨F5, G5, rfl, hx5, hu5⟩
            obtain ⟨hk5, hn5⟩ := hu5.keepBlk H3.out.2.2 HQ.out.2.2.2.1
            have b0 := hk5.cell (i := 0) rfl
            have b1 := hk5.cell (i := 1) rfl
            have b2 := hk5.cell (i := 2) rfl
            have b3 := hk5.cell (i := 3) rfl
            have b4 := hk5.cell (i := 4) rfl
            have H5 := Lib.hid (And.intro hx5 (And.intro (H3.out.2.1.trans hu5) (show WX (usesP num T s m Sq Pq).1 from (usesL_wx num T (s.length + 1) s m _ Pq HQ.out.2.2.2.2.1).1)))
            clear hx5 hu5 hk5 hn5
            go_wp2_with fail
            refine (HTe.out w5 F5 G5 _ _ H5.out.1 (Nat.le_trans H0.out.2.1 H5.out.2.1.size) H5.out.2.2).mono ?_; rintro e w9 ⟨F9, G9, rfl, hx9, hu9⟩
            have H9 := Lib.hid (And.intro hx9 hu9)
            clear hx9 hu9
            go_wp2_with fail
            go_end0
            have hRq := HQ.out.2.2.2.2.2.2
            rw [HCn.out, if_pos rfl] at hRq
            rw [hRq]
            exact ⟨F9, G9, rfl, H9.out.1, H5.out.2.1.trans H9.out.2⟩
        · have hj := HQ7.out.1.f.setJ false
          have hfin := HQ7.out.1.fon hj.1 hj.2
          obtain ⟨hk8, hn8⟩ := hfin.2.keepBlk HQ7.out.2.2.1 HQ7.out.2.2.2.1
          obtain ⟨vc5, hf5, hG5⟩ := HQ7.out.1.f
          have f3 := hf5.blk.frz 3
          have c3 := hf5.blk.cell (i := 3) rfl
          have H8 := Lib.hid (And.intro hfin.1 (And.intro (HQ7.out.2.1.trans hfin.2) (And.intro hk8 hn8)))
          clear hj hfin hk8 hn8 hf5 hG5
          go_wp2_with fail
          generalize w7.setCell ⟨bf, 3, none⟩ (.bool false) = W8 at *
          clear f3 c3
          refine (counts_any H8.out.1.f).mono ?_; rintro e w3 ⟨rfl, hb3⟩
          have H3 := Lib.hid (And.intro (H8.out.1.below hb3) (And.intro (H8.out.2.1.trans (Upd.below hb3)) (H8.out.2.2.1.next hb3)))
          clear hb3
          have hR7 : R = if countsP { P7 with joins := false } = true then textP S7 { P7 with joins := false } (ownPc num T en (m + s.length)) else (S7, { P7 with joins := false }) := by rw [← HR7.out]; rfl
          obtain ⟨cn, hcn⟩ : ∃ cn, countsP { P7 with joins := false } = cn := ⟨_, rfl⟩
          rw [hcn] at hR7 ⊢
          have HR8 := Lib.hid hR7
          clear hcn hR7
          cases cn
          · go_wp2_with fail
            go_end0
            have hRq := HR8.out
            rw [if_neg (by simp)] at hRq
            rw [hRq]
            exact ⟨F7, G7, rfl, H3.out.1, H3.out.2.1⟩
          · have b0 := H3.out.2.2.cell (i := 0) rfl
            have b1 := H3.out.2.2.cell (i := 1) rfl
            have b2 := H3.out.2.2.cell (i := 2) rfl
            have b3 := H3.out.2.2.cell (i := 3) rfl
            have b4 := H3.out.2.2.cell (i := 4) rfl
            go_wp2_with fail
            refine (HTe.out w3 F7 G7 _ _ H3.out.1 (Nat.le_trans H0.out.2.1 H3.out.2.1.size) HQ7.out.2.2.2.2.1).mono ?_; rintro e w9 ⟨F9, G9, rfl, hx9, hu9⟩
            have H9 := Lib.hid (And.intro hx9 hu9)
            clear hx9 hu9
            go_wp2_with fail
            go_end0
            have hRq := HR8.out
            rw [if_pos trivial] at hRq
            rw [hRq]
            exact ⟨F9, G9, rfl, H9.out.1, H3.out.2.1.trans H9.out.2⟩
      · have hno : ¬ (rest ≠ [] ∧ rest.getD 0 0 = 96) := fun h => h96 (hc1.symm.trans h.2)
        have hc96i : ¬ ((c1.toNat : Nat) : Int) = 96 := by
          have : c1.toNat ≠ 96 := fun e => h96 (UInt8.toNat_inj.1 e)
          omega
        have hc96 : (((c1.toNat : Nat) : Int) == 96) = false := by simpa using hc96i
        clear hre hrest htl2 hSS hRT hTL hw1 hw2 hc1 h96 hrp
        have h0R := HR0.out
        rw [if_neg hno] at h0R
        have hR1 : R = if countsP P = true then textP (usesP num T s m S P).1 (usesP num T s m S P).2 (ownPc num T en (m + s.length)) else (S, P) := by rw [← h0R]; rfl
        have hbd : Below W.heap.size W W.drew := (Below.refl _ _).drew
        obtain ⟨Fq, Gq, Sq, Pq, HQ⟩ : ∃ Fq Gq Sq Pq, Hid (HasXF base bx bf tv Fq Gq W.drew Sq Pq ∧ Upd (fun g => F g ∨ G g) (fun g => Fq g ∨ Gq g) w W.drew ∧ Blk W.drew be 67 [.string (((⟨#[]⟩ : ByteArray))), .int .i64 ((num : Int) + 1), .int .i64 pe.1, .int .i64 pe.2, .bool false] ∧ ¬ (Fq be ∨ Gq be) ∧ WX Sq ∧ Pq.num = num ∧ R = if countsP Pq = true then textP (usesP num T s m Sq Pq).1 (usesP num T s m Sq Pq).2 (ownPc num T en (m + s.length)) else (Sq, Pq)) :=
          ⟨F, G, S, P, Lib.hid ⟨HW.out.1.below hbd, HW.out.2.1.trans (Upd.below hbd), HW.out.2.2.1.next hbd, HW.out.2.2.2, H0.out.2.2.1, H0.out.2.2.2, hR1⟩⟩
        clear h0R hR1 hbd hno
        refine wp_region_held_drew (S := fun W => True ∧ True ∧ True) (by kernel_rfl) ⟨trivial, trivial, trivial⟩ (fun hHeld => ?_)
        generalize W.drew = W4 at *
        refine held_take (i := 0) (v := ?_) rfl (by kernel_rfl) (by kernel_rfl) (by kernel_rfl) (fun _ _ _ h => h) (Or.inl ⟨by rfl, ?_⟩) hHeld ?_
        rotate_left
        · intro w hSw; obtain ⟨hS1, hS2, hS3⟩ := hSw; go_simp; (try with_reducible rfl)
        try simp only [Act.put, List.setIfInBounds_toArray, List.set_cons_zero, List.set_cons_succ]
        refine held_take (i := 1) (v := ?_) rfl (by kernel_rfl) (by kernel_rfl) (by kernel_rfl) (fun _ _ _ h => h) (Or.inl ⟨by rfl, ?_⟩) hHeld ?_
        rotate_left
        · intro w hSw; obtain ⟨hS1, hS2, hS3⟩ := hSw; go_simp; (try with_reducible rfl)
        try simp only [Act.put, List.setIfInBounds_toArray, List.set_cons_zero, List.set_cons_succ]
        refine held_take (i := 2) (v := ?_) rfl (by kernel_rfl) (by kernel_rfl) (by kernel_rfl) (fun _ _ _ h => h) (Or.inl ⟨by rfl, ?_⟩) hHeld ?_
        rotate_left
        · intro w hSw; obtain ⟨hS1, hS2, hS3⟩ := hSw; go_simp; (try with_reducible rfl)
        try simp only [Act.put, List.setIfInBounds_toArray, List.set_cons_zero, List.set_cons_succ]
        refine held_take (i := 3) (v := ?_) rfl (by kernel_rfl) (by kernel_rfl) (by kernel_rfl) (fun _ _ _ h => h) (Or.inl ⟨by rfl, ?_⟩) hHeld ?_
        rotate_left
        · intro w hSw; obtain ⟨hS1, hS2, hS3⟩ := hSw; go_simp; (try with_reducible rfl)
        try simp only [Act.put, List.setIfInBounds_toArray, List.set_cons_zero, List.set_cons_succ]
        refine held_take (i := 4) (v := ?_) rfl (by kernel_rfl) (by kernel_rfl) (by kernel_rfl) (fun _ _ _ h => h) (Or.inl ⟨by rfl, ?_⟩) hHeld ?_
        rotate_left
        · intro w hSw; obtain ⟨hS1, hS2, hS3⟩ := hSw; go_simp; (try with_reducible rfl)
        try simp only [Act.put, List.setIfInBounds_toArray, List.set_cons_zero, List.set_cons_succ]
        refine held_take (i := 5) (v := ?_) rfl (by kernel_rfl) (by kernel_rfl) (by kernel_rfl) (fun _ _ _ h => h) (Or.inl ⟨by rfl, ?_⟩) hHeld ?_
        rotate_left
        · intro w hSw; obtain ⟨hS1, hS2, hS3⟩ := hSw; go_simp; (try with_reducible rfl)
        try simp only [Act.put, List.setIfInBounds_toArray, List.set_cons_zero, List.set_cons_succ]
        refine held_take (i := 6) (v := ?_) rfl (by kernel_rfl) (by kernel_rfl) (by kernel_rfl) (fun _ _ _ h => h) (Or.inl ⟨by rfl, ?_⟩) hHeld ?_
        rotate_left
        · intro w hSw; obtain ⟨hS1, hS2, hS3⟩ := hSw; go_simp; (try with_reducible rfl)
        try simp only [Act.put, List.setIfInBounds_toArray, List.set_cons_zero, List.set_cons_succ]
        refine held_take (i := 7) (v := ?_) rfl (by kernel_rfl) (by kernel_rfl) (by kernel_rfl) (fun _ _ _ h => h) (Or.inl ⟨by rfl, ?_⟩) hHeld ?_
        rotate_left
        · intro w hSw; obtain ⟨hS1, hS2, hS3⟩ := hSw; go_simp; (try with_reducible rfl)
        try simp only [Act.put, List.setIfInBounds_toArray, List.set_cons_zero, List.set_cons_succ]
        refine held_take (i := 8) rfl (by kernel_rfl) (by kernel_rfl) (by kernel_rfl) (fun _ _ _ h => h) (Or.inr ⟨by rfl, rfl⟩) hHeld ?_
        try simp only [Act.put, List.setIfInBounds_toArray, List.set_cons_zero, List.set_cons_succ]
        refine held_take (i := 9) rfl (by kernel_rfl) (by kernel_rfl) (by kernel_rfl) (fun _ _ _ h => h) (Or.inr ⟨by rfl, rfl⟩) hHeld ?_
        try simp only [Act.put, List.setIfInBounds_toArray, List.set_cons_zero, List.set_cons_succ]
        refine held_take (i := 10) rfl (by kernel_rfl) (by kernel_rfl) (by kernel_rfl) (fun _ _ _ h => h) (Or.inr ⟨by rfl, rfl⟩) hHeld ?_
        try simp only [Act.put, List.setIfInBounds_toArray, List.set_cons_zero, List.set_cons_succ]
        refine held_take (i := 11) rfl (by kernel_rfl) (by kernel_rfl) (by kernel_rfl) (fun _ _ _ h => h) (Or.inr ⟨by rfl, rfl⟩) hHeld ?_
        try simp only [Act.put, List.setIfInBounds_toArray, List.set_cons_zero, List.set_cons_succ]
        refine held_take (i := 12) rfl (by kernel_rfl) (by kernel_rfl) (by kernel_rfl) (fun _ _ _ h => h) (Or.inr ⟨by rfl, rfl⟩) hHeld ?_
        try simp only [Act.put, List.setIfInBounds_toArray, List.set_cons_zero, List.set_cons_succ]
        refine held_take (i := 13) rfl (by kernel_rfl) (by kernel_rfl) (by kernel_rfl) (fun _ _ _ h => h) (Or.inr ⟨by rfl, rfl⟩) hHeld ?_
        try simp only [Act.put, List.setIfInBounds_toArray, List.set_cons_zero, List.set_cons_succ]
        refine held_take (i := 14) rfl (by kernel_rfl) (by kernel_rfl) (by kernel_rfl) (fun _ _ _ h => h) (Or.inr ⟨by rfl, rfl⟩) hHeld ?_
        try simp only [Act.put, List.setIfInBounds_toArray, List.set_cons_zero, List.set_cons_succ]
        refine held_take (i := 15) (v := ?_) rfl (by kernel_rfl) (by kernel_rfl) (by kernel_rfl) (fun _ _ _ h => h) (Or.inl ⟨by rfl, ?_⟩) hHeld ?_
        rotate_left
        · intro w hSw; obtain ⟨hS1, hS2, hS3⟩ := hSw; go_simp; (try with_reducible rfl)
        try simp only [Act.put, List.setIfInBounds_toArray, List.set_cons_zero, List.set_cons_succ]
        refine wpAnyH_done (by kernel_rfl) ?_ _
        clear hHeld
        go_wp2_with fail
        refine (counts_any HQ.out.1.f).mono ?_; rintro e w3 ⟨rfl, hb3⟩
        have H3 : Hid (HasXF base bx bf tv Fq Gq w3 Sq Pq ∧ Upd (fun g => F g ∨ G g) (fun g => Fq g ∨ Gq g) w w3 ∧ Blk w3 be 67 [.string (((⟨#[]⟩ : ByteArray))), .int .i64 ((num : Int) + 1), .int .i64 pe.1, .int .i64 pe.2, .bool false]) :=
          Lib.hid ⟨HQ.out.1.below hb3, HQ.out.2.1.trans (Upd.below hb3), HQ.out.2.2.1.next hb3⟩
        clear hb3
        obtain ⟨cn, hcn⟩ : ∃ cn, countsP Pq = cn := ⟨_, rfl⟩
        rw [hcn]
        have HCn := Lib.hid hcn
        clear hcn
        cases cn
        · go_wp2_with fail
          go_end0
          have hRq := HQ.out.2.2.2.2.2.2
          rw [HCn.out, if_neg (by simp)] at hRq
          rw [hRq]
          exact ⟨Fq, Gq, rfl, H3.out.1, H3.out.2.1⟩
        · go_wp2_with fail
          refine (HUs.out w3 Fq Gq Sq Pq H3.out.1 H3.out.2.1 HQ.out.2.2.2.2.1 HQ.out.2.2.2.2.2.1).mono ?_; rintro e w5 ⟨F5, G5, rfl, hx5, hu5⟩
          obtain ⟨hk5, hn5⟩ := hu5.keepBlk H3.out.2.2 HQ.out.2.2.2.1
          have b0 := hk5.cell (i := 0) rfl
          have b1 := hk5.cell (i := 1) rfl
          have b2 := hk5.cell (i := 2) rfl
          have b3 := hk5.cell (i := 3) rfl
          have b4 := hk5.cell (i := 4) rfl
          have H5 := Lib.hid (And.intro hx5 (And.intro (H3.out.2.1.trans hu5) (show WX (usesP num T s m Sq Pq).1 from (usesL_wx num T (s.length + 1) s m _ Pq HQ.out.2.2.2.2.1).1)))
          clear hx5 hu5 hk5 hn5
          go_wp2_with fail
          refine (HTe.out w5 F5 G5 _ _ H5.out.1 (Nat.le_trans H0.out.2.1 H5.out.2.1.size) H5.out.2.2).mono ?_; rintro e w9 ⟨F9, G9, rfl, hx9, hu9⟩
          have H9 := Lib.hid (And.intro hx9 hu9)
          clear hx9 hu9
          go_wp2_with fail
          go_end0
          have hRq := HQ.out.2.2.2.2.2.2
          rw [HCn.out, if_pos rfl] at hRq
          rw [hRq]
          exact ⟨F9, G9, rfl, H9.out.1, H5.out.2.1.trans H9.out.2⟩
  · have hEN0 : EN = ⟨#[10]⟩ := by rw [← hEN, ← hen]; rfl
    subst hEN0
    clear hen hEN
    go_upto_region 5 with fail
    have hbx := Below.new w2 (.cells #[.string ((⟨#[10]⟩ : ByteArray)), .int .i64 ((num : Int) + 1), .int .i64 pe.1, .int .i64 pe.2, .bool false] 67)
    have hkx : Blk (w2.alloc (.cells #[.string ((⟨#[10]⟩ : ByteArray)), .int .i64 ((num : Int) + 1), .int .i64 pe.1, .int .i64 pe.2, .bool false] 67)) w2.heap.size 67 [.string ((⟨#[10]⟩ : ByteArray)), .int .i64 ((num : Int) + 1), .int .i64 pe.1, .int .i64 pe.2, .bool false] := Blk.new _ _
    have hnx : ¬ (F w2.heap.size ∨ G w2.heap.size) := by
      rintro (hg | hg)
      · have := (H2.out.1.x.lt _ hg).2; omega
      · have := (H2.out.1.f.lt _ hg).2; omega
    have HW := Lib.hid (And.intro (H2.out.1.below hbx) (And.intro (H2.out.2.trans (Upd.below hbx)) (And.intro hkx hnx)))
    clear hbx hkx hnx
    generalize w2.alloc (.cells #[.string ((⟨#[10]⟩ : ByteArray)), .int .i64 ((num : Int) + 1), .int .i64 pe.1, .int .i64 pe.2, .bool false] 67) = W at *
    generalize w2.heap.size = be at *
    by_cases hre : rest = []
    · have hno : ¬ (rest ≠ [] ∧ rest.getD 0 0 = 96) := fun h => h.1 hre
      have hrt : RT.toList = [] := by rw [← hRT, hre, ByteArray.toList_eq]; rfl
      have hrt2 : RT.toList.isEmpty = true := by rw [hrt]; rfl
      clear hre hrest htl2 hSS hRT hTL hw1 hw2
      have h0R := HR0.out
      rw [if_neg hno] at h0R
      have hR1 : R = if countsP P = true then textP (usesP num T s m S P).1 (usesP num T s m S P).2 (ownPc num T en (m + s.length)) else (S, P) := by rw [← h0R]; rfl
      have hbd : Below W.heap.size W W.drew := (Below.refl _ _).drew
      obtain ⟨Fq, Gq, Sq, Pq, HQ⟩ : ∃ Fq Gq Sq Pq, Hid (HasXF base bx bf tv Fq Gq W.drew Sq Pq ∧ Upd (fun g => F g ∨ G g) (fun g => Fq g ∨ Gq g) w W.drew ∧ Blk W.drew be 67 [.string (((⟨#[10]⟩ : ByteArray))), .int .i64 ((num : Int) + 1), .int .i64 pe.1, .int .i64 pe.2, .bool false] ∧ ¬ (Fq be ∨ Gq be) ∧ WX Sq ∧ Pq.num = num ∧ R = if countsP Pq = true then textP (usesP num T s m Sq Pq).1 (usesP num T s m Sq Pq).2 (ownPc num T en (m + s.length)) else (Sq, Pq)) :=
        ⟨F, G, S, P, Lib.hid ⟨HW.out.1.below hbd, HW.out.2.1.trans (Upd.below hbd), HW.out.2.2.1.next hbd, HW.out.2.2.2, H0.out.2.2.1, H0.out.2.2.2, hR1⟩⟩
      clear h0R hR1 hbd hno
      refine wp_region_held_drew (S := fun W => True ∧ True ∧ True) (by kernel_rfl) ⟨trivial, trivial, trivial⟩ (fun hHeld => ?_)
      generalize W.drew = W4 at *
      refine held_take (i := 0) (v := ?_) rfl (by kernel_rfl) (by kernel_rfl) (by kernel_rfl) (fun _ _ _ h => h) (Or.inl ⟨by rfl, ?_⟩) hHeld ?_
      rotate_left
      · intro w hSw; obtain ⟨hS1, hS2, hS3⟩ := hSw; go_simp; (try with_reducible rfl)
      try simp only [Act.put, List.setIfInBounds_toArray, List.set_cons_zero, List.set_cons_succ]
      refine held_take (i := 1) (v := ?_) rfl (by kernel_rfl) (by kernel_rfl) (by kernel_rfl) (fun _ _ _ h => h) (Or.inl ⟨by rfl, ?_⟩) hHeld ?_
      rotate_left
      · intro w hSw; obtain ⟨hS1, hS2, hS3⟩ := hSw; go_simp; (try with_reducible rfl)
      try simp only [Act.put, List.setIfInBounds_toArray, List.set_cons_zero, List.set_cons_succ]
      refine held_take (i := 2) (v := ?_) rfl (by kernel_rfl) (by kernel_rfl) (by kernel_rfl) (fun _ _ _ h => h) (Or.inl ⟨by rfl, ?_⟩) hHeld ?_
      rotate_left
      · intro w hSw; obtain ⟨hS1, hS2, hS3⟩ := hSw; go_simp; (try with_reducible rfl)
      try simp only [Act.put, List.setIfInBounds_toArray, List.set_cons_zero, List.set_cons_succ]
      refine held_take (i := 3) rfl (by kernel_rfl) (by kernel_rfl) (by kernel_rfl) (fun _ _ _ h => h) (Or.inr ⟨by rfl, rfl⟩) hHeld ?_
      try simp only [Act.put, List.setIfInBounds_toArray, List.set_cons_zero, List.set_cons_succ]
      refine held_take (i := 4) rfl (by kernel_rfl) (by kernel_rfl) (by kernel_rfl) (fun _ _ _ h => h) (Or.inr ⟨by rfl, rfl⟩) hHeld ?_
      try simp only [Act.put, List.setIfInBounds_toArray, List.set_cons_zero, List.set_cons_succ]
      refine held_take (i := 5) rfl (by kernel_rfl) (by kernel_rfl) (by kernel_rfl) (fun _ _ _ h => h) (Or.inr ⟨by rfl, rfl⟩) hHeld ?_
      try simp only [Act.put, List.setIfInBounds_toArray, List.set_cons_zero, List.set_cons_succ]
      refine held_take (i := 6) (v := ?_) rfl (by kernel_rfl) (by kernel_rfl) (by kernel_rfl) (fun _ _ _ h => h) (Or.inl ⟨by rfl, ?_⟩) hHeld ?_
      rotate_left
      · intro w hSw; obtain ⟨hS1, hS2, hS3⟩ := hSw; go_simp; (try with_reducible rfl)
      try simp only [Act.put, List.setIfInBounds_toArray, List.set_cons_zero, List.set_cons_succ]
      refine held_take (i := 7) (v := ?_) rfl (by kernel_rfl) (by kernel_rfl) (by kernel_rfl) (fun _ _ _ h => h) (Or.inl ⟨by rfl, ?_⟩) hHeld ?_
      rotate_left
      · intro w hSw; obtain ⟨hS1, hS2, hS3⟩ := hSw; go_simp; (try with_reducible rfl)
      try simp only [Act.put, List.setIfInBounds_toArray, List.set_cons_zero, List.set_cons_succ]
      refine held_take (i := 8) rfl (by kernel_rfl) (by kernel_rfl) (by kernel_rfl) (fun _ _ _ h => h) (Or.inr ⟨by rfl, rfl⟩) hHeld ?_
      try simp only [Act.put, List.setIfInBounds_toArray, List.set_cons_zero, List.set_cons_succ]
      refine held_take (i := 9) rfl (by kernel_rfl) (by kernel_rfl) (by kernel_rfl) (fun _ _ _ h => h) (Or.inr ⟨by rfl, rfl⟩) hHeld ?_
      try simp only [Act.put, List.setIfInBounds_toArray, List.set_cons_zero, List.set_cons_succ]
      refine held_take (i := 10) rfl (by kernel_rfl) (by kernel_rfl) (by kernel_rfl) (fun _ _ _ h => h) (Or.inr ⟨by rfl, rfl⟩) hHeld ?_
      try simp only [Act.put, List.setIfInBounds_toArray, List.set_cons_zero, List.set_cons_succ]
      refine held_take (i := 11) rfl (by kernel_rfl) (by kernel_rfl) (by kernel_rfl) (fun _ _ _ h => h) (Or.inr ⟨by rfl, rfl⟩) hHeld ?_
      try simp only [Act.put, List.setIfInBounds_toArray, List.set_cons_zero, List.set_cons_succ]
      refine held_take (i := 12) rfl (by kernel_rfl) (by kernel_rfl) (by kernel_rfl) (fun _ _ _ h => h) (Or.inr ⟨by rfl, rfl⟩) hHeld ?_
      try simp only [Act.put, List.setIfInBounds_toArray, List.set_cons_zero, List.set_cons_succ]
      refine held_take (i := 13) rfl (by kernel_rfl) (by kernel_rfl) (by kernel_rfl) (fun _ _ _ h => h) (Or.inr ⟨by rfl, rfl⟩) hHeld ?_
      try simp only [Act.put, List.setIfInBounds_toArray, List.set_cons_zero, List.set_cons_succ]
      refine held_take (i := 14) rfl (by kernel_rfl) (by kernel_rfl) (by kernel_rfl) (fun _ _ _ h => h) (Or.inr ⟨by rfl, rfl⟩) hHeld ?_
      try simp only [Act.put, List.setIfInBounds_toArray, List.set_cons_zero, List.set_cons_succ]
      refine held_take (i := 15) (v := ?_) rfl (by kernel_rfl) (by kernel_rfl) (by kernel_rfl) (fun _ _ _ h => h) (Or.inl ⟨by rfl, ?_⟩) hHeld ?_
      rotate_left
      · intro w hSw; obtain ⟨hS1, hS2, hS3⟩ := hSw; go_simp; (try with_reducible rfl)
      try simp only [Act.put, List.setIfInBounds_toArray, List.set_cons_zero, List.set_cons_succ]
      refine wpAnyH_done (by kernel_rfl) ?_ _
      clear hHeld
      go_wp2_with fail
      refine (counts_any HQ.out.1.f).mono ?_; rintro e w3 ⟨rfl, hb3⟩
      have H3 : Hid (HasXF base bx bf tv Fq Gq w3 Sq Pq ∧ Upd (fun g => F g ∨ G g) (fun g => Fq g ∨ Gq g) w w3 ∧ Blk w3 be 67 [.string (((⟨#[10]⟩ : ByteArray))), .int .i64 ((num : Int) + 1), .int .i64 pe.1, .int .i64 pe.2, .bool false]) :=
        Lib.hid ⟨HQ.out.1.below hb3, HQ.out.2.1.trans (Upd.below hb3), HQ.out.2.2.1.next hb3⟩
      clear hb3
      obtain ⟨cn, hcn⟩ : ∃ cn, countsP Pq = cn := ⟨_, rfl⟩
      rw [hcn]
      have HCn := Lib.hid hcn
      clear hcn
      cases cn
      · go_wp2_with fail
        go_end0
        have hRq := HQ.out.2.2.2.2.2.2
        rw [HCn.out, if_neg (by simp)] at hRq
        rw [hRq]
        exact ⟨Fq, Gq, rfl, H3.out.1, H3.out.2.1⟩
      · go_wp2_with fail
        refine (HUs.out w3 Fq Gq Sq Pq H3.out.1 H3.out.2.1 HQ.out.2.2.2.2.1 HQ.out.2.2.2.2.2.1).mono ?_; rintro e w5 ⟨F5, G5, rfl, hx5, hu5⟩
        obtain ⟨hk5, hn5⟩ := hu5.keepBlk H3.out.2.2 HQ.out.2.2.2.1
        have b0 := hk5.cell (i := 0) rfl
        have b1 := hk5.cell (i := 1) rfl
        have b2 := hk5.cell (i := 2) rfl
        have b3 := hk5.cell (i := 3) rfl
        have b4 := hk5.cell (i := 4) rfl
        have H5 := Lib.hid (And.intro hx5 (And.intro (H3.out.2.1.trans hu5) (show WX (usesP num T s m Sq Pq).1 from (usesL_wx num T (s.length + 1) s m _ Pq HQ.out.2.2.2.2.1).1)))
        clear hx5 hu5 hk5 hn5
        go_wp2_with fail
        refine (HTe.out w5 F5 G5 _ _ H5.out.1 (Nat.le_trans H0.out.2.1 H5.out.2.1.size) H5.out.2.2).mono ?_; rintro e w9 ⟨F9, G9, rfl, hx9, hu9⟩
        have H9 := Lib.hid (And.intro hx9 hu9)
        clear hx9 hu9
        go_wp2_with fail
        go_end0
        have hRq := HQ.out.2.2.2.2.2.2
        rw [HCn.out, if_pos rfl] at hRq
        rw [hRq]
        exact ⟨F9, G9, rfl, H9.out.1, H5.out.2.1.trans H9.out.2⟩
    · have hrt : ¬ RT.toList = [] := by rw [← hRT]; exact (bstr_ne hre).1
      have hrt2 : RT.toList.isEmpty = false := by rw [← hRT]; exact (bstr_ne hre).2
      have hrp : 0 < rest.length := by cases hq : rest with
        | nil => exact absurd hq hre
        | cons _ _ => simp
      have hlt : 0 < RT.size := by have := HAll.out.2.1; omega
      have hlti : (0 : Int) < (RT.size : Int) := by omega
      obtain ⟨c1, hc1⟩ : ∃ c1, rest.getD 0 0 = c1 := ⟨_, rfl⟩
      have hat : RT[0] = c1 := by rw [← hc1]; exact HAll.out.2.2.1 hlt
      by_cases h96 : c1 = 96
      · subst h96
        have hyes : rest ≠ [] ∧ rest.getD 0 0 = 96 := ⟨hre, hc1⟩
        have h0R := HR0.out
        rw [if_pos hyes] at h0R
        obtain ⟨D, hD⟩ : ∃ D, dirP file (findN fs) S P tl ((num : Int) + 1) pa.1 pa.2 = D := ⟨_, rfl⟩
        rw [hD] at h0R
        have hdg := HDg.out ((num : Int) + 1) pa.1 pa.2 hyes
        rw [hD] at hdg
        have hdc := fun w' hx hu => HDi.out w' ((num : Int) + 1) pa.1 pa.2 hyes hx hu
        rw [hD] at hdc
        have HDc := Lib.hid hdc
        have HDw := Lib.hid (And.intro hdg h0R)
        have hsl : ∀ w', (Instr.slice 9 (Value.string RT) (some (Value.int IntKind.i64 1)) none none).run Tryz.prog w' = .ok (.string TL) w' := by
          intro w'
          have h := run_slice_string_l (P := Tryz.prog) (w := w') 9 RT Tryz.underlying9 .i64 1 (by omega) (by omega)
          rw [h]
          rw [show ((1 : Int)).toNat = 1 from rfl, HAll.out.2.2.2 hrp]
        have hx1 := HW.out.1
        clear hre hrest htl2 hSS hRT hTL hw1 hw2 hyes h0R hD hdg hdc hrp hc1 hx1
        have s0 : Below W.heap.size W W.drew := (Below.refl _ _).drew
        have HPd : Hid (∀ W', Below W.heap.size W W' → Calls Tryz.prog 43 #[.pointer (some ⟨bf, 0, none⟩), .int .i64 a] W' fun e w2 => e = .returned (.agg #[.int .i64 ((num : Int) + 1), .int .i64 pa.1, .int .i64 pa.2]) ∧ Below W'.heap.size W' w2) :=
          Lib.hid fun W' hb => HPl2.out W' (HW.out.1.below hb) (HW.out.2.1.trans (Upd.below hb))
        have HDd : Hid (∀ W', Below W.heap.size W W' → Calls Tryz.prog 44 #[.pointer (some ⟨bf, 0, none⟩), .string TL, .agg #[.int .i64 ((num : Int) + 1), .int .i64 pa.1, .int .i64 pa.2]] W' (FR base bx bf tv F G W' D.2.1 D.2.2 (.bool D.1))) :=
          Lib.hid fun W' hb => HDc.out W' (HW.out.1.below hb) (HW.out.2.1.trans (Upd.below hb))
        go_region_held3 (fun w' => True) (trivial)
          (first
            | (go_at_call 43; refine (HPd.out _ s0).mono ?_; rintro e w6 ⟨rfl, hb6⟩; have s6 : Below W.heap.size W w6 := Below.next s0 hb6; clear hb6)
            | (go_at_call 44; refine (HDd.out _ s6).mono ?_; rintro e w7 ⟨F7, G7, rfl, hx7, hu7⟩; have H7 := Lib.hid (And.intro hx7 (And.intro hu7 s6)); clear hx7 hu7))
        obtain ⟨hx7, hu7, hs6⟩ := H7.out
        obtain ⟨hk7, hn7⟩ := hu7.keepBlk (HW.out.2.2.1.next hs6) HW.out.2.2.2
        have hu77 := HW.out.2.1.trans ((Upd.below hs6).trans hu7)
        obtain ⟨D1, S7, P7⟩ := D
        have HQ7 := Lib.hid (And.intro hx7 (And.intro hu77 (And.intro hk7 (And.intro hn7 (And.intro HDw.out.1.1.wx (HDw.out.1.2.1.trans H0.out.2.2.2))))))
        have HR7 := Lib.hid HDw.out.2
        clear hx7 hu7 hs6 hk7 hn7 hu77 s0 s6 H7 HDw HPd HDd HDc
        cases D1
        · obtain ⟨Fq, Gq, Sq, Pq, HQ⟩ : ∃ Fq Gq Sq Pq, Hid (HasXF base bx bf tv Fq Gq w7 Sq Pq ∧ Upd (fun g => F g ∨ G g) (fun g => Fq g ∨ Gq g) w w7 ∧ Blk w7 be 67 [.string ((⟨#[10]⟩ : ByteArray)), .int .i64 ((num : Int) + 1), .int .i64 pe.1, .int .i64 pe.2, .bool false] ∧ ¬ (Fq be ∨ Gq be) ∧ WX Sq ∧ Pq.num = num ∧ R = if countsP Pq = true then textP (usesP num T s m Sq Pq).1 (usesP num T s m Sq Pq).2 (ownPc num T en (m + s.length)) else (Sq, Pq)) :=
            ⟨F7, G7, S7, P7, Lib.hid ⟨HQ7.out.1, HQ7.out.2.1, HQ7.out.2.2.1, HQ7.out.2.2.2.1, HQ7.out.2.2.2.2.1, HQ7.out.2.2.2.2.2, by rw [← HR7.out]; rfl⟩⟩
          clear HQ7 HR7
          go_wp2_with fail
          refine (counts_any HQ.out.1.f).mono ?_; rintro e w3 ⟨rfl, hb3⟩
          have H3 : Hid (HasXF base bx bf tv Fq Gq w3 Sq Pq ∧ Upd (fun g => F g ∨ G g) (fun g => Fq g ∨ Gq g) w w3 ∧ Blk w3 be 67 [.string (((⟨#[10]⟩ : ByteArray))), .int .i64 ((num : Int) + 1), .int .i64 pe.1, .int .i64 pe.2, .bool false]) :=
            Lib.hid ⟨HQ.out.1.below hb3, HQ.out.2.1.trans (Upd.below hb3), HQ.out.2.2.1.next hb3⟩
          clear hb3
          obtain ⟨cn, hcn⟩ : ∃ cn, countsP Pq = cn := ⟨_, rfl⟩
          rw [hcn]
          have HCn := Lib.hid hcn
          clear hcn
          cases cn
          · go_wp2_with fail
            go_end0
            have hRq := HQ.out.2.2.2.2.2.2
            rw [HCn.out, if_neg (by simp)] at hRq
            rw [hRq]
            exact ⟨Fq, Gq, rfl, H3.out.1, H3.out.2.1⟩
          · go_wp2_with fail
            refine (HUs.out w3 Fq Gq Sq Pq H3.out.1 H3.out.2.1 HQ.out.2.2.2.2.1 HQ.out.2.2.2.2.2.1).mono ?_; rintro e w5 ⟨F5, G5, rfl, hx5, hu5⟩
            obtain ⟨hk5, hn5⟩ := hu5.keepBlk H3.out.2.2 HQ.out.2.2.2.1
            have b0 := hk5.cell (i := 0) rfl
            have b1 := hk5.cell (i := 1) rfl
            have b2 := hk5.cell (i := 2) rfl
            have b3 := hk5.cell (i := 3) rfl
            have b4 := hk5.cell (i := 4) rfl
            have H5 := Lib.hid (And.intro hx5 (And.intro (H3.out.2.1.trans hu5) (show WX (usesP num T s m Sq Pq).1 from (usesL_wx num T (s.length + 1) s m _ Pq HQ.out.2.2.2.2.1).1)))
            clear hx5 hu5 hk5 hn5
            go_wp2_with fail
            refine (HTe.out w5 F5 G5 _ _ H5.out.1 (Nat.le_trans H0.out.2.1 H5.out.2.1.size) H5.out.2.2).mono ?_; rintro e w9 ⟨F9, G9, rfl, hx9, hu9⟩
            have H9 := Lib.hid (And.intro hx9 hu9)
            clear hx9 hu9
            go_wp2_with fail
            go_end0
            have hRq := HQ.out.2.2.2.2.2.2
            rw [HCn.out, if_pos rfl] at hRq
            rw [hRq]
            exact ⟨F9, G9, rfl, H9.out.1, H5.out.2.1.trans H9.out.2⟩
        · have hj := HQ7.out.1.f.setJ false
          have hfin := HQ7.out.1.fon hj.1 hj.2
          obtain ⟨hk8, hn8⟩ := hfin.2.keepBlk HQ7.out.2.2.1 HQ7.out.2.2.2.1
          obtain ⟨vc5, hf5, hG5⟩ := HQ7.out.1.f
          have f3 := hf5.blk.frz 3
          have c3 := hf5.blk.cell (i := 3) rfl
          have H8 := Lib.hid (And.intro hfin.1 (And.intro (HQ7.out.2.1.trans hfin.2) (And.intro hk8 hn8)))
          clear hj hfin hk8 hn8 hf5 hG5
          go_wp2_with fail
          generalize w7.setCell ⟨bf, 3, none⟩ (.bool false) = W8 at *
          clear f3 c3
          refine (counts_any H8.out.1.f).mono ?_; rintro e w3 ⟨rfl, hb3⟩
          have H3 := Lib.hid (And.intro (H8.out.1.below hb3) (And.intro (H8.out.2.1.trans (Upd.below hb3)) (H8.out.2.2.1.next hb3)))
          clear hb3
          have hR7 : R = if countsP { P7 with joins := false } = true then textP S7 { P7 with joins := false } (ownPc num T en (m + s.length)) else (S7, { P7 with joins := false }) := by rw [← HR7.out]; rfl
          obtain ⟨cn, hcn⟩ : ∃ cn, countsP { P7 with joins := false } = cn := ⟨_, rfl⟩
          rw [hcn] at hR7 ⊢
          have HR8 := Lib.hid hR7
          clear hcn hR7
          cases cn
          · go_wp2_with fail
            go_end0
            have hRq := HR8.out
            rw [if_neg (by simp)] at hRq
            rw [hRq]
            exact ⟨F7, G7, rfl, H3.out.1, H3.out.2.1⟩
          · have b0 := H3.out.2.2.cell (i := 0) rfl
            have b1 := H3.out.2.2.cell (i := 1) rfl
            have b2 := H3.out.2.2.cell (i := 2) rfl
            have b3 := H3.out.2.2.cell (i := 3) rfl
            have b4 := H3.out.2.2.cell (i := 4) rfl
            go_wp2_with fail
            refine (HTe.out w3 F7 G7 _ _ H3.out.1 (Nat.le_trans H0.out.2.1 H3.out.2.1.size) HQ7.out.2.2.2.2.1).mono ?_; rintro e w9 ⟨F9, G9, rfl, hx9, hu9⟩
            have H9 := Lib.hid (And.intro hx9 hu9)
            clear hx9 hu9
            go_wp2_with fail
            go_end0
            have hRq := HR8.out
            rw [if_pos trivial] at hRq
            rw [hRq]
            exact ⟨F9, G9, rfl, H9.out.1, H3.out.2.1.trans H9.out.2⟩
      · have hno : ¬ (rest ≠ [] ∧ rest.getD 0 0 = 96) := fun h => h96 (hc1.symm.trans h.2)
        have hc96i : ¬ ((c1.toNat : Nat) : Int) = 96 := by
          have : c1.toNat ≠ 96 := fun e => h96 (UInt8.toNat_inj.1 e)
          omega
        have hc96 : (((c1.toNat : Nat) : Int) == 96) = false := by simpa using hc96i
        clear hre hrest htl2 hSS hRT hTL hw1 hw2 hc1 h96 hrp
        have h0R := HR0.out
        rw [if_neg hno] at h0R
        have hR1 : R = if countsP P = true then textP (usesP num T s m S P).1 (usesP num T s m S P).2 (ownPc num T en (m + s.length)) else (S, P) := by rw [← h0R]; rfl
        have hbd : Below W.heap.size W W.drew := (Below.refl _ _).drew
        obtain ⟨Fq, Gq, Sq, Pq, HQ⟩ : ∃ Fq Gq Sq Pq, Hid (HasXF base bx bf tv Fq Gq W.drew Sq Pq ∧ Upd (fun g => F g ∨ G g) (fun g => Fq g ∨ Gq g) w W.drew ∧ Blk W.drew be 67 [.string (((⟨#[10]⟩ : ByteArray))), .int .i64 ((num : Int) + 1), .int .i64 pe.1, .int .i64 pe.2, .bool false] ∧ ¬ (Fq be ∨ Gq be) ∧ WX Sq ∧ Pq.num = num ∧ R = if countsP Pq = true then textP (usesP num T s m Sq Pq).1 (usesP num T s m Sq Pq).2 (ownPc num T en (m + s.length)) else (Sq, Pq)) :=
          ⟨F, G, S, P, Lib.hid ⟨HW.out.1.below hbd, HW.out.2.1.trans (Upd.below hbd), HW.out.2.2.1.next hbd, HW.out.2.2.2, H0.out.2.2.1, H0.out.2.2.2, hR1⟩⟩
        clear h0R hR1 hbd hno
        refine wp_region_held_drew (S := fun W => True ∧ True ∧ True) (by kernel_rfl) ⟨trivial, trivial, trivial⟩ (fun hHeld => ?_)
        generalize W.drew = W4 at *
        refine held_take (i := 0) (v := ?_) rfl (by kernel_rfl) (by kernel_rfl) (by kernel_rfl) (fun _ _ _ h => h) (Or.inl ⟨by rfl, ?_⟩) hHeld ?_
        rotate_left
        · intro w hSw; obtain ⟨hS1, hS2, hS3⟩ := hSw; go_simp; (try with_reducible rfl)
        try simp only [Act.put, List.setIfInBounds_toArray, List.set_cons_zero, List.set_cons_succ]
        refine held_take (i := 1) (v := ?_) rfl (by kernel_rfl) (by kernel_rfl) (by kernel_rfl) (fun _ _ _ h => h) (Or.inl ⟨by rfl, ?_⟩) hHeld ?_
        rotate_left
        · intro w hSw; obtain ⟨hS1, hS2, hS3⟩ := hSw; go_simp; (try with_reducible rfl)
        try simp only [Act.put, List.setIfInBounds_toArray, List.set_cons_zero, List.set_cons_succ]
        refine held_take (i := 2) (v := ?_) rfl (by kernel_rfl) (by kernel_rfl) (by kernel_rfl) (fun _ _ _ h => h) (Or.inl ⟨by rfl, ?_⟩) hHeld ?_
        rotate_left
        · intro w hSw; obtain ⟨hS1, hS2, hS3⟩ := hSw; go_simp; (try with_reducible rfl)
        try simp only [Act.put, List.setIfInBounds_toArray, List.set_cons_zero, List.set_cons_succ]
        refine held_take (i := 3) (v := ?_) rfl (by kernel_rfl) (by kernel_rfl) (by kernel_rfl) (fun _ _ _ h => h) (Or.inl ⟨by rfl, ?_⟩) hHeld ?_
        rotate_left
        · intro w hSw; obtain ⟨hS1, hS2, hS3⟩ := hSw; go_simp; (try with_reducible rfl)
        try simp only [Act.put, List.setIfInBounds_toArray, List.set_cons_zero, List.set_cons_succ]
        refine held_take (i := 4) (v := ?_) rfl (by kernel_rfl) (by kernel_rfl) (by kernel_rfl) (fun _ _ _ h => h) (Or.inl ⟨by rfl, ?_⟩) hHeld ?_
        rotate_left
        · intro w hSw; obtain ⟨hS1, hS2, hS3⟩ := hSw; go_simp; (try with_reducible rfl)
        try simp only [Act.put, List.setIfInBounds_toArray, List.set_cons_zero, List.set_cons_succ]
        refine held_take (i := 5) (v := ?_) rfl (by kernel_rfl) (by kernel_rfl) (by kernel_rfl) (fun _ _ _ h => h) (Or.inl ⟨by rfl, ?_⟩) hHeld ?_
        rotate_left
        · intro w hSw; obtain ⟨hS1, hS2, hS3⟩ := hSw; go_simp; (try with_reducible rfl)
        try simp only [Act.put, List.setIfInBounds_toArray, List.set_cons_zero, List.set_cons_succ]
        refine held_take (i := 6) (v := ?_) rfl (by kernel_rfl) (by kernel_rfl) (by kernel_rfl) (fun _ _ _ h => h) (Or.inl ⟨by rfl, ?_⟩) hHeld ?_
        rotate_left
        · intro w hSw; obtain ⟨hS1, hS2, hS3⟩ := hSw; go_simp; (try with_reducible rfl)
        try simp only [Act.put, List.setIfInBounds_toArray, List.set_cons_zero, List.set_cons_succ]
        refine held_take (i := 7) (v := ?_) rfl (by kernel_rfl) (by kernel_rfl) (by kernel_rfl) (fun _ _ _ h => h) (Or.inl ⟨by rfl, ?_⟩) hHeld ?_
        rotate_left
        · intro w hSw; obtain ⟨hS1, hS2, hS3⟩ := hSw; go_simp; (try with_reducible rfl)
        try simp only [Act.put, List.setIfInBounds_toArray, List.set_cons_zero, List.set_cons_succ]
        refine held_take (i := 8) rfl (by kernel_rfl) (by kernel_rfl) (by kernel_rfl) (fun _ _ _ h => h) (Or.inr ⟨by rfl, rfl⟩) hHeld ?_
        try simp only [Act.put, List.setIfInBounds_toArray, List.set_cons_zero, List.set_cons_succ]
        refine held_take (i := 9) rfl (by kernel_rfl) (by kernel_rfl) (by kernel_rfl) (fun _ _ _ h => h) (Or.inr ⟨by rfl, rfl⟩) hHeld ?_
        try simp only [Act.put, List.setIfInBounds_toArray, List.set_cons_zero, List.set_cons_succ]
        refine held_take (i := 10) rfl (by kernel_rfl) (by kernel_rfl) (by kernel_rfl) (fun _ _ _ h => h) (Or.inr ⟨by rfl, rfl⟩) hHeld ?_
        try simp only [Act.put, List.setIfInBounds_toArray, List.set_cons_zero, List.set_cons_succ]
        refine held_take (i := 11) rfl (by kernel_rfl) (by kernel_rfl) (by kernel_rfl) (fun _ _ _ h => h) (Or.inr ⟨by rfl, rfl⟩) hHeld ?_
        try simp only [Act.put, List.setIfInBounds_toArray, List.set_cons_zero, List.set_cons_succ]
        refine held_take (i := 12) rfl (by kernel_rfl) (by kernel_rfl) (by kernel_rfl) (fun _ _ _ h => h) (Or.inr ⟨by rfl, rfl⟩) hHeld ?_
        try simp only [Act.put, List.setIfInBounds_toArray, List.set_cons_zero, List.set_cons_succ]
        refine held_take (i := 13) rfl (by kernel_rfl) (by kernel_rfl) (by kernel_rfl) (fun _ _ _ h => h) (Or.inr ⟨by rfl, rfl⟩) hHeld ?_
        try simp only [Act.put, List.setIfInBounds_toArray, List.set_cons_zero, List.set_cons_succ]
        refine held_take (i := 14) rfl (by kernel_rfl) (by kernel_rfl) (by kernel_rfl) (fun _ _ _ h => h) (Or.inr ⟨by rfl, rfl⟩) hHeld ?_
        try simp only [Act.put, List.setIfInBounds_toArray, List.set_cons_zero, List.set_cons_succ]
        refine held_take (i := 15) (v := ?_) rfl (by kernel_rfl) (by kernel_rfl) (by kernel_rfl) (fun _ _ _ h => h) (Or.inl ⟨by rfl, ?_⟩) hHeld ?_
        rotate_left
        · intro w hSw; obtain ⟨hS1, hS2, hS3⟩ := hSw; go_simp; (try with_reducible rfl)
        try simp only [Act.put, List.setIfInBounds_toArray, List.set_cons_zero, List.set_cons_succ]
        refine wpAnyH_done (by kernel_rfl) ?_ _
        clear hHeld
        go_wp2_with fail
        refine (counts_any HQ.out.1.f).mono ?_; rintro e w3 ⟨rfl, hb3⟩
        have H3 : Hid (HasXF base bx bf tv Fq Gq w3 Sq Pq ∧ Upd (fun g => F g ∨ G g) (fun g => Fq g ∨ Gq g) w w3 ∧ Blk w3 be 67 [.string (((⟨#[10]⟩ : ByteArray))), .int .i64 ((num : Int) + 1), .int .i64 pe.1, .int .i64 pe.2, .bool false]) :=
          Lib.hid ⟨HQ.out.1.below hb3, HQ.out.2.1.trans (Upd.below hb3), HQ.out.2.2.1.next hb3⟩
        clear hb3
        obtain ⟨cn, hcn⟩ : ∃ cn, countsP Pq = cn := ⟨_, rfl⟩
        rw [hcn]
        have HCn := Lib.hid hcn
        clear hcn
        cases cn
        · go_wp2_with fail
          go_end0
          have hRq := HQ.out.2.2.2.2.2.2
          rw [HCn.out, if_neg (by simp)] at hRq
          rw [hRq]
          exact ⟨Fq, Gq, rfl, H3.out.1, H3.out.2.1⟩
        · go_wp2_with fail
          refine (HUs.out w3 Fq Gq Sq Pq H3.out.1 H3.out.2.1 HQ.out.2.2.2.2.1 HQ.out.2.2.2.2.2.1).mono ?_; rintro e w5 ⟨F5, G5, rfl, hx5, hu5⟩
          obtain ⟨hk5, hn5⟩ := hu5.keepBlk H3.out.2.2 HQ.out.2.2.2.1
          have b0 := hk5.cell (i := 0) rfl
          have b1 := hk5.cell (i := 1) rfl
          have b2 := hk5.cell (i := 2) rfl
          have b3 := hk5.cell (i := 3) rfl
          have b4 := hk5.cell (i := 4) rfl
          have H5 := Lib.hid (And.intro hx5 (And.intro (H3.out.2.1.trans hu5) (show WX (usesP num T s m Sq Pq).1 from (usesL_wx num T (s.length + 1) s m _ Pq HQ.out.2.2.2.2.1).1)))
          clear hx5 hu5 hk5 hn5
          go_wp2_with fail
          refine (HTe.out w5 F5 G5 _ _ H5.out.1 (Nat.le_trans H0.out.2.1 H5.out.2.1.size) H5.out.2.2).mono ?_; rintro e w9 ⟨F9, G9, rfl, hx9, hu9⟩
          have H9 := Lib.hid (And.intro hx9 hu9)
          clear hx9 hu9
          go_wp2_with fail
          go_end0
          have hRq := HQ.out.2.2.2.2.2.2
          rw [HCn.out, if_pos rfl] at hRq
          rw [hRq]
          exact ⟨F9, G9, rfl, H9.out.1, H5.out.2.1.trans H9.out.2⟩
end Go.Proofs.YtcjfelndnnhgjaaGreatDoor
namespace Go.Proofs.YtcjfelndnnhgjaaGreatDoor
set_option linter.unusedVariables false
open Go.RowKit Go.Maps

/-! # how many files are open -/
theorem fail_ff (S : Xs) (f l c e : Int) : (failP S f l c e).files = S.files := by unfold failP; split <;> rfl
theorem put_ff (S : Xs) (p : Pc) (f l c : Int) (j : Bool) : (putP S p f l c j).files = S.files := by
  unfold putP
  split
  · rfl
  · split
    · rw [fail_ff]
    · split <;> rfl
theorem useL_ff {U : Xs → Bs → Xs} (f l c : Int) (hU : ∀ S n, (U S n).files = S.files) : ∀ (k : Nat) (s : Bs) (S : Xs), (useL U f l c k s S).files = S.files
  | 0, _, S => rfl
  | k + 1, s, S => by
    unfold useL
    split
    · rfl
    · split
      · exact put_ff _ _ _ _ _ _
      · split
        · rw [fail_ff, put_ff]
        · rw [useL_ff f l c hU k, hU, put_ff]
theorem useP_ff (f l c : Int) : ∀ (d : Nat) (S : Xs) (n : Bs), (useP f l c d S n).files = S.files
  | 0, S, n => by
    unfold useP
    split <;> exact fail_ff _ _ _ _ _
  | d + 1, S, n => by
    unfold useP
    split
    · exact fail_ff _ _ _ _ _
    · exact useL_ff f l c (fun S n => useP_ff f l c d S n) _ _ _
theorem textP_ff (S : Xs) (P : Fs) (p : Pc) : (textP S P p).1.files = S.files := put_ff _ _ _ _ _ _
theorem usesL_ff (num : Nat) (T : Bs) : ∀ (k : Nat) (s : Bs) (m : Nat) (S : Xs) (P : Fs), (usesL num T k s m S P).1.files = S.files
  | 0, _, _, S, P => rfl
  | k + 1, s, m, S, P => by
    unfold usesL
    split
    · exact textP_ff S P _
    · split
      · exact textP_ff S P _
      · split
        · show (failP _ _ _ _ _).files = _
          rw [fail_ff, textP_ff]
        · rw [usesL_ff num T k, useP_ff, textP_ff]
theorem condP_ff (S : Xs) (P : Fs) (word rest : Bs) (f l c : Int) (apart : Bool) : (condP S P word rest f l c apart).1.files = S.files ∧ FL S (condP S P word rest f l c apart).1 := by
  unfold condP
  split
  · split
    · exact ⟨fail_ff _ _ _ _ _, fail_fl _ _ _ _ _ (by decide)⟩
    · exact ⟨rfl, FL.refl S⟩
  · split
    · split
      · exact ⟨fail_ff _ _ _ _ _, fail_fl _ _ _ _ _ (by decide)⟩
      · exact ⟨rfl, FL.refl S⟩
    · split
      · exact ⟨fail_ff _ _ _ _ _, fail_fl _ _ _ _ _ (by decide)⟩
      · exact ⟨rfl, FL.refl S⟩
/-- one more at most; as many, if nothing failed -/
structure FB (S S' : Xs) : Prop where
  lo : S.files ≤ S'.files
  hi : S'.files ≤ S.files + 1
  fl : FL S S'
theorem FB.of {S S' : Xs} (h : S'.files = S.files) (k : FL S S') : FB S S' := ⟨Nat.le_of_eq h.symm, by omega, k⟩
theorem FB.then {S S' S'' : Xs} (h : FB S S') (e : S''.files = S'.files) (k : FL S' S'') : FB S S'' := ⟨by have := h.lo; omega, by have := h.hi; omega, h.fl.trans k⟩
section
variable {file : Xs → Nat → Int → Int → Int → Xs} {find : Bs → Nat}
def FileB (file : Xs → Nat → Int → Int → Int → Xs) : Prop := ∀ (S : Xs) (num : Nat) (f l c : Int), FB S (file S num f l c)
theorem inclP_fb (hf : FileB file) (S : Xs) (rest : Bs) (f l c : Int) : FB S (inclP file find S rest f l c) := by
  unfold inclP
  split
  · exact .of (fail_ff _ _ _ _ _) (fail_fl _ _ _ _ _ (by decide))
  · split
    · exact .of (fail_ff _ _ _ _ _) (fail_fl _ _ _ _ _ (by decide))
    · exact hf _ _ _ _ _
theorem defP_fb (hf : FileB file) (S : Xs) (word rest : Bs) (f l c : Int) (apart : Bool) : FB S (defP file find S word rest f l c apart) := by
  unfold defP
  split
  · exact inclP_fb hf S rest f l c
  · split
    · exact .of (fail_ff _ _ _ _ _) (fail_fl _ _ _ _ _ (by decide))
    · split
      · exact .of rfl (fun h => ⟨h, rfl⟩)
      · exact .of rfl (fun h => ⟨h, rfl⟩)
theorem dirP_fb (hf : FileB file) (S : Xs) (P : Fs) (s : Bs) (f l c : Int) : FB S (dirP file find S P s f l c).2.1 := by
  unfold dirP
  simp only
  split
  · exact .of (condP_ff _ _ _ _ _ _ _ _).1 (condP_ff _ _ _ _ _ _ _ _).2
  · split
    · show FB S (if _ then _ else _)
      split
      · exact defP_fb hf _ _ _ _ _ _ _
      · exact .of rfl (FL.refl S)
    · exact .of rfl (FL.refl S)
theorem lineP_fb (hf : FileB file) (num : Nat) (T s : Bs) (m : Nat) (ended : Bool) (S : Xs) (P : Fs) : FB S (lineP file find num T s m ended S P).1 := by
  unfold lineP
  simp only
  obtain ⟨d, hd⟩ : ∃ d, (if trimL s ≠ [] ∧ (trimL s).getD 0 0 = 96 then dirP file find S P ((trimL s).drop 1) ((num : Int) + 1) (plTo T (m + s.length - (trimL s).length)).1 (plTo T (m + s.length - (trimL s).length)).2 else (false, S, P)) = d := ⟨_, rfl⟩
  rw [hd]
  have hD : FB S d.2.1 := by
    rw [← hd]
    split
    · exact dirP_fb hf _ _ _ _ _ _
    · exact .of rfl (FL.refl S)
  split
  · split
    · exact hD.then (textP_ff _ _ _) (textP_fl _ _ _)
    · exact hD
  · split
    · exact (hD.then (usesL_ff _ _ _ _ _ _ _) (usesL_fl _ _ _ _ _ _ _)).then (textP_ff _ _ _) (textP_fl _ _ _)
    · exact hD
theorem linesL_bad (num : Nat) (T X : Bs) (k m : Nat) (S : Xs) (P : Fs) (h : S.err ≠ 0) : linesL file find num T X k m S P = (S, P) := by
  cases k with
  | zero => rfl
  | succ k => unfold linesL; rw [if_neg (fun hh => h hh.2)]
theorem linesL_fb (hf : FileB file) (num : Nat) (T X : Bs) : ∀ (k m : Nat) (S : Xs) (P : Fs), FB S (linesL file find num T X k m S P).1
  | 0, m, S, P => .of rfl (FL.refl S)
  | k + 1, m, S, P => by
    unfold linesL
    split
    · split
      · exact lineP_fb hf _ _ _ _ _ _ _
      · rename_i x y _
        have h1 := lineP_fb (find := find) hf num T x m true S P
        by_cases he : (lineP file find num T x m true S P).1.err = 0
        · have h2 := linesL_fb hf num T X k (m + x.length + 1) (lineP file find num T x m true S P).1 (lineP file find num T x m true S P).2
          have he2 := (h1.fl he).2
          exact ⟨by have := h2.lo; omega, by have := h2.hi; omega, h1.fl.trans h2.fl⟩
        · rw [linesL_bad _ _ _ _ _ _ _ he]
          exact h1
    · exact .of rfl (FL.refl S)
end
theorem fileP_fb (texts : Nat → Bs) (find : Bs → Nat) : ∀ d, FileB (fileP texts find d)
  | 0 => fun S num f l c => by
    unfold fileP
    refine ⟨?_, ?_, fun e => absurd e (failP_facts _ f l c 8 (by decide)).2.2⟩
    · rw [fail_ff]; exact Nat.le_succ _
    · rw [fail_ff]; exact Nat.le_refl _
  | d + 1 => fun S num f l c => by
    unfold fileP
    cases hp : plainP (texts num) with
    | mk X o =>
      cases o with
      | some b =>
        refine ⟨?_, ?_, fun e => absurd e (failP_facts _ _ _ _ 6 (by decide)).2.2⟩
        · show _ ≤ (failP _ _ _ _ _).files; rw [fail_ff]; exact Nat.le_succ _
        · show (failP _ _ _ _ _).files ≤ _; rw [fail_ff]; exact Nat.le_refl _
      | none =>
        simp only
        have g := linesL_fb (find := find) (fileP_fb texts find d) (num - 1) (texts num) X (X.length + 1) 0 { S with files := S.files + 1 } ⟨num - 1, [], false⟩
        generalize linesL (fileP texts find d) find (num - 1) (texts num) X (X.length + 1) 0 { S with files := S.files + 1 } ⟨num - 1, [], false⟩ = r at *
        have hlo : S.files + 1 ≤ r.1.files := g.lo
        have hhi : r.1.files ≤ S.files + 1 + 1 := g.hi
        split
        · refine ⟨by show _ ≤ r.1.files - 1; omega, by show r.1.files - 1 ≤ _; omega, fun e => ?_⟩
          have := g.fl e
          exact ⟨this.1, by show r.1.files - 1 = S.files; rw [this.2]; show S.files + 1 - 1 = _; omega⟩
        · obtain ⟨f1, f2, f3⟩ := failP_facts r.1 (r.2.conds.getD (r.2.conds.length - 1) default).f (r.2.conds.getD (r.2.conds.length - 1) default).l (r.2.conds.getD (r.2.conds.length - 1) default).c 6 (by decide)
          refine ⟨?_, ?_, fun e => absurd e f3⟩
          · show _ ≤ (failP _ _ _ _ _).files - 1; rw [fail_ff]; omega
          · show (failP _ _ _ _ _).files - 1 ≤ _; rw [fail_ff]; omega
theorem badL_lt (s : Bs) : ∀ (k i b : Nat), badL s k i = some b → b < s.length
  | 0, i, b, h => by cases h
  | k + 1, i, b, h => by
    unfold badL at h
    split at h
    · rename_i hi
      split at h
      · exact badL_lt s k _ b h
      · split at h
        · split at h
          · injection h with h; omega
          · exact badL_lt s k _ b h
        · exact badL_lt s k _ b h
    · cases h
theorem plainP_lt {s : Bs} {b : Nat} (h : (plainP s).2 = some b) : b < s.length := badL_lt s _ _ _ (by rw [← plainP_bad]; exact h)
end Go.Proofs.YtcjfelndnnhgjaaGreatDoor
