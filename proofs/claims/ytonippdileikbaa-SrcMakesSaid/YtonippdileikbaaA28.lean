import Derived.Test.YtonippdileikbaaA25
import Derived.Deep.RegionHeld3
namespace Go.Proofs.Ytonippdileikbaa
set_option linter.unusedVariables false
open Go.RowKit

theorem FirstAt.one {f g : Nat → Bool} {n : Nat} {r r' : Int} (h : FirstAt f n r) (h' : FirstAt g n r') (hfg : ∀ i, i < n → f i = g i) : r = r' := by
  rcases h with ⟨i, h1, h2, h3, rfl⟩ | ⟨h3, rfl⟩ <;> rcases h' with ⟨j, k1, k2, k3, rfl⟩ | ⟨k3, rfl⟩
  · rcases Nat.lt_trichotomy i j with e | e | e
    · have := k3 i e; rw [← hfg i h1, h2] at this; cases this
    · rw [e]
    · have := h3 j e; rw [hfg j k1, k2] at this; cases this
  · have := k3 i h1; rw [← hfg i h1, h2] at this; cases this
  · have := h3 j k1; rw [hfg j k1, k2] at this; cases this
  · rfl
theorem sameS_eq {a b : ByteArray} : sameS a b = true ↔ a.toList = b.toList := by unfold sameS; simp
theorem sameS_refl (a : ByteArray) : sameS a a = true := sameS_eq.2 rfl
theorem FirstAt.hit {f : Nat → Bool} {k : Nat} (h : f k = true) (hno : ∀ j, j < k → f j = false) : FirstAt f (k + 1) k := .inl ⟨k, Nat.lt_succ_self k, h, hno, rfl⟩
theorem FirstAt.miss {f : Nat → Bool} {k : Nat} {r : Int} (h : FirstAt f k r) (hk : f k = false) : FirstAt f (k + 1) r := by
  rcases h with ⟨i, h1, h2, h3, rfl⟩ | ⟨h3, rfl⟩
  · exact .inl ⟨i, by omega, h2, h3, rfl⟩
  · refine .inr ⟨fun j hj => ?_, rfl⟩
    rcases Nat.lt_or_ge j k with e | e
    · exact h3 j e
    · obtain rfl : j = k := by omega
      exact hk

theorem find_made {w bt ps fs} (h : Made w bt ps fs) (hl : fs.length ≤ 100000) (s : ByteArray) (r0 : Int) (hr : FirstAt (fun i => sameS (fs.getD i default).name s) fs.length r0) :
    Calls Try.prog 14 #[.pointer (some ⟨bt, 0, none⟩), .string s] w fun e w' => e = .returned (.int .i64 (1 + r0)) ∧ Below w.heap.size w w' := by
  refine (find_any h.tab s (h.small hl)).mono ?_
  rintro e w' ⟨r, hf, rfl, hb⟩
  rw [h.len] at hf
  obtain rfl : r = r0 := hf.one hr fun i hi => by show sameS _ _ = sameS _ _; rw [h.nm i hi]
  exact ⟨rfl, hb⟩
theorem get_made {w bt ps fs} (h : Made w bt ps fs) (hl : fs.length ≤ 100000) (n : Nat) (hn : n < fs.length) :
    Calls Try.prog 13 #[.pointer (some ⟨bt, 0, none⟩), .int .i64 ((n : Int) + 1)] w fun e w' => e = .returned (.tuple #[.agg #[.string (fs.getD n default).name, .string (fs.getD n default).text], .int .i64 0]) ∧ Below w.heap.size w w' := by
  have := get_in h.tab n (h.len ▸ hn) (h.small hl)
  rwa [h.nm n hn, h.tx n hn] at this
theorem few_len (l : List Fil) : (fewF l).length ≤ 20 := by simp [fewF]; omega
theorem few_get (l : List Fil) (i : Nat) (h : i < (fewF l).length) : (fewF l).getD i default = l.getD i default ∧ i < l.length := by
  have h2 : i < l.length := by simp [fewF] at h; omega
  refine ⟨?_, h2⟩
  have h3 : i < 20 := by simp [fewF] at h; omega
  simp only [List.getD, fewF, List.getElem?_take_of_lt h3]

theorem cells_step {W w' w'' : World} {a b : Nat} {n1 t1 n2 t2 : Value} (h : w'.cell? ⟨a, 0, none⟩ = some n1 ∧ w'.cell? ⟨a, 1, none⟩ = some t1 ∧ w'.cell? ⟨b, 0, none⟩ = some n2 ∧ w'.cell? ⟨b, 1, none⟩ = some t2 ∧ Below W.heap.size W w') (hb : Below w'.heap.size w' w'') :
    w''.cell? ⟨a, 0, none⟩ = some n1 ∧ w''.cell? ⟨a, 1, none⟩ = some t1 ∧ w''.cell? ⟨b, 0, none⟩ = some n2 ∧ w''.cell? ⟨b, 1, none⟩ = some t2 ∧ Below W.heap.size W w'' := by
  obtain ⟨h1, h2, h3, h4, h5⟩ := h
  exact ⟨(hb.cell (World.block_lt_of_cell? _ _ h1)).trans h1, (hb.cell (World.block_lt_of_cell? _ _ h2)).trans h2, (hb.cell (World.block_lt_of_cell? _ _ h3)).trans h3, (hb.cell (World.block_lt_of_cell? _ _ h4)).trans h4, h5.trans (hb.mono h5.size)⟩

set_option maxRecDepth 100000 in
set_option maxHeartbeats 8000000 in
theorem makes_law (v : Value) (l : List Fil) (nm : ByteArray) (n : Int) (w : World) (hr : RO w v 2 l.length (filCells l)) (hl : l.length ≤ 9223372036854775807) (hcap : ∀ p n c, v = .slice p n c → n ≤ c ∧ c ≤ 9223372036854775807)
    (hsz : ∀ i, i < l.length → (l.getD i default).name.size ≤ maxLen ∧ (l.getD i default).text.size ≤ 140737488355328) (hn : -9223372036854775808 ≤ n ∧ n ≤ 9223372036854775807) :
    Calls Try.prog 3 #[v, .string nm, .int .i64 n] w fun e w' => e = .returned (.bool true) ∧ Below w.heap.size w w' := by
  have HA := Lib.hid (awake_any w)
  have HF : Hid (∀ w', Below w.heap.size w w' → Calls Try.prog 9 #[v] w' fun e w'' => ∃ v', e = .returned v' ∧ RO w' v' 2 (fewF l).length (filCells (fewF l)) ∧ w' = w'') := Lib.hid (fun w' (hb : Below w.heap.size w w') => few_any (w := w') v l (hr.below hb) hl hcap)
  have HS : Hid (∀ i, i < (fewF l).length → ((fewF l).getD i default).name.size ≤ maxLen ∧ ((fewF l).getD i default).text.size ≤ 140737488355328) := Lib.hid fun i hi => by
    obtain ⟨e, h⟩ := few_get l i hi
    rw [e]; exact hsz i h
  have HL := Lib.hid (few_len l)
  generalize fewF l = fs at *
  obtain ⟨hn1, hn2⟩ := hn
  clear hr hl hcap hsz
  go_enter Try.func3, Try.ntmps3
  go_wp2_with fail
  refine HA.out.mono ?_; rintro e w1 ⟨rfl, hb1⟩
  have HB := Lib.hid hb1
  clear hb1 HA
  go_wp2_with fail
  refine (HF.out _ HB.out).mono ?_; rintro e w' ⟨v1, rfl, hr1, rfl⟩
  have HR1 := Lib.hid hr1
  obtain ⟨p1, c1, rfl⟩ := hr1.form
  have HFi := Lib.hid (files_any (w := w1) _ fs hr1 HL.out)
  clear hr1 HF
  go_wp2_with fail
  refine HFi.out.mono ?_; rintro e w2 ⟨v2, rfl, hr2, hb2⟩
  have HNw := Lib.hid (new_any (w := w2) v2 fs hr2 (by have := HL.out; omega) (fun i hi => (HS.out i hi).1) (fun i hi => (HS.out i hi).2))
  have HB2 := Lib.hid (HB.out.trans (hb2.mono HB.out.size))
  have HR2 := Lib.hid (HR1.out.below hb2)
  clear hr2 hb2 HFi HR1
  go_wp2_with fail
  refine HNw.out.mono ?_; rintro e w3 ⟨err, pt, hne, rfl, hb3, hnil, hmk⟩
  have HB3 := Lib.hid (HB2.out.trans (hb3.mono HB2.out.size))
  have HRn := Lib.hid (refNew_any (w := w3) _ fs (HR2.out.below hb3) HL.out (fun i hi => (HS.out i hi).1) (fun i hi => (HS.out i hi).2))
  have HM := Lib.hid (And.intro hne (And.intro hnil hmk))
  have HR3 := Lib.hid (HR2.out.below hb3)
  clear hb3 hne hnil hmk HNw HR2
  go_wp2_with fail
  refine HRn.out.mono ?_; rintro e w4 ⟨err', hne', rfl, hb4⟩
  obtain rfl : err' = err := NewErr.one hne' HM.out.1
  have HB4 := Lib.hid (HB3.out.trans (hb4.mono HB3.out.size))
  have HR4 := Lib.hid (HR3.out.below hb4)
  have hbb := Lib.hid hb4
  clear hb4 hne' HRn HR3
  by_cases he0 : err' = 0
  · subst he0
    obtain ⟨bt, ps, rfl, htab, hlen, hfar, hx⟩ := HM.out.2.2 rfl
    have HK : Hid (Made w4 bt ps fs) := Lib.hid ((Made.mk htab hlen (fun i hi => (hx i hi).1) (fun i hi => (hx i hi).2.1) (fun i hi => (hx i hi).2.2)).below hbb.out)
    have HD : Hid (∀ i j, j < i → i < fs.length → sameS (fs.getD j default).name (fs.getD i default).name = false) := Lib.hid fun i j hj hi => by
      have h0 := HM.out.1
      unfold NewErr at h0
      have h1 : ¬ dupIn fs fs.length := by
        rcases h0 with h | h | h | h | h
        · omega
        · omega
        · omega
        · omega
        · exact h.2.2.1
      rcases Bool.eq_false_or_eq_true (sameS (fs.getD j default).name (fs.getD i default).name) with h | h
      · exact absurd ⟨i, j, hj, hi, h⟩ h1
      · exact h
    have HT : Hid (∀ i, i < fs.length → (fs.getD i default).text.size ≤ 32768) := Lib.hid fun i hi => by
      have h0 := HM.out.1
      unfold NewErr at h0
      have h1 : total fs ≤ 32768 := by
        rcases h0 with h | h | h | h | h
        · omega
        · omega
        · omega
        · omega
        · exact h.2.2.2.1
      exact Nat.le_trans (text_le fs i hi) h1
    have hL := HL.out
    have hLi : (fs.length : Int) ≤ 20 := by omega
    clear htab hlen hfar hx HM hbb
    go_wp2_with fail
    go_loopw [9, 35] (fun at_ i wr => ∃ (k : Nat) (r : Int), k ≤ fs.length ∧ i = .int .i64 k ∧ at_ = .int .i64 (1 + r) ∧ FirstAt (fun i => sameS (fs.getD i default).name nm) k r ∧ Below w4.heap.size w4 wr) (fun _ i _ => fs.length - (intOf i).toNat)
    case atStart => exact ⟨0, -1, Nat.zero_le _, rfl, rfl, .inr ⟨fun j hj => absurd hj (Nat.not_lt_zero _), rfl⟩, Below.refl _ _⟩
    case round =>
      obtain ⟨k, r, hk, rfl, rfl, hfa, hbel⟩ := hrel
      have HFA := Lib.hid (And.intro hfa hbel)
      by_cases hlt : k < fs.length
      · have hki : (k : Int) < fs.length := by omega
        have hk20 : (k : Int) ≤ 20 := by omega
        have hr1 : -1 ≤ r ∧ r ≤ 20 := by rcases hfa with ⟨i, h1, _, _, rfl⟩ | ⟨_, rfl⟩ <;> omega
        obtain ⟨hr1, hr2⟩ := hr1
        have hMr := HK.out.below hbel
        have hro := HR4.out.below hbel
        obtain ⟨bb, o, rfl⟩ := hro.sl (fils_at fs k hlt).1
        have f0 := hro.cell (fils_at fs k hlt).1
        have f1 := hro.cell (fils_at fs k hlt).2
        rw [← Nat.add_assoc] at f1
        have HG := Lib.hid (fun o => get_made (hMr.below ((Below.refl wr.heap.size wr).alloc (Nat.le_refl _) o)) (by omega) k hlt)
        have HFd : Hid (∀ w', Below wr.heap.size wr w' → Calls Try.prog 14 #[.pointer (some ⟨bt, 0, none⟩), .string (fs.getD k default).name] w' fun e w'' => e = .returned (.int .i64 ((k : Int) + 1)) ∧ Below w'.heap.size w' w'') :=
          Lib.hid fun w' hb => (find_made (hMr.below hb) (by omega) (fs.getD k default).name k (.inl ⟨k, hlt, sameS_refl _, fun j hj => HD.out k j hj hlt, rfl⟩)).mono fun e w'' ⟨he, hb⟩ => ⟨by rw [he, Int.add_comm], hb⟩
        have HLn : Hid (∀ w', Below wr.heap.size wr w' → Calls Try.prog 15 #[.pointer (some ⟨bt, 0, none⟩), .int .i64 ((k : Int) + 1)] w' fun e w'' => e = .returned (.int .i64 (starts (fs.getD k default).text).length) ∧ Below w'.heap.size w' w'') :=
          Lib.hid fun w' hb => lines_made (hMr.below hb) (by omega) k _ rfl hlt
        have HRL : Hid (∀ w', Calls Try.prog 16 #[.string (fs.getD k default).text] w' fun e w'' => ∃ p c, e = .returned (.slice p (starts (fs.getD k default).text).length c) ∧ Below w'.heap.size w' w'') :=
          Lib.hid fun w' => (refLines_any _ w' (by have := HT.out k hlt; omega)).mono fun e w'' ⟨v, he, ho, hb⟩ => by
            obtain ⟨p, c, rfl⟩ := ownsRow_form ho
            rw [refLines_len] at he
            exact ⟨p, c, he, hb⟩
        have hfk := Lib.hid (show FirstAt (fun i => sameS (fs.getD i default).name nm) k r from hfa)
        obtain ⟨q, hq⟩ : ∃ q, sameS (fs.getD k default).name nm = q := ⟨_, rfl⟩
        have HQ : Hid (∃ r', FirstAt (fun i => sameS (fs.getD i default).name nm) (k + 1) r' ∧ r' = (if q then (k : Int) else r)) := Lib.hid (by
          cases q
          · exact ⟨r, hfa.miss hq, rfl⟩
          · refine ⟨k, FirstAt.hit hq fun j hj => ?_, rfl⟩
            rcases Bool.eq_false_or_eq_true (sameS (fs.getD j default).name nm) with h | h
            · have h1 := HD.out k j hj hlt
              rw [Bool.eq_false_iff] at h1
              exact absurd (sameS_eq.2 ((sameS_eq.1 h).trans (sameS_eq.1 hq).symm)) h1
            · exact h)
        have hst := starts_len (fs.getD k default).text
        have hstl := HT.out k hlt
        have hN : ((starts (fs.getD k default).text).length : Int) ≤ 40000 := by omega
        generalize hPn : (fs.getD k default).name = pn at *
        generalize hPt : (fs.getD k default).text = px at *
        generalize (starts px).length = N at *
        unfold sameS at hq
        clear hfa hbel hMr hro hPn hPt hst hstl hfk
        go_wp2_with fail
        refine (HG.out _).mono ?_; rintro e w5 ⟨rfl, hb5⟩
        obtain ⟨hkf, hb5', hlt5⟩ := kept_new (l := [.string pn, .string px]) hb5
        have HB5 := Lib.hid (And.intro hkf hb5')
        clear hb5 hkf hb5'
        go_wp2_with fail
        have s0 : (w5.alloc (Obj.cells #[.string pn, .string px] 34)).drew.cell? ⟨wr.heap.size, 0, none⟩ = some (.string pn) ∧ (w5.alloc (Obj.cells #[.string pn, .string px] 34)).drew.cell? ⟨wr.heap.size, 1, none⟩ = some (.string px) ∧ (w5.alloc (Obj.cells #[.string pn, .string px] 34)).drew.cell? ⟨w5.heap.size, 0, none⟩ = some (.string pn) ∧ (w5.alloc (Obj.cells #[.string pn, .string px] 34)).drew.cell? ⟨w5.heap.size, 1, none⟩ = some (.string px) ∧ Below wr.heap.size wr (w5.alloc (Obj.cells #[.string pn, .string px] 34)).drew :=
          ⟨(HB5.out.1.alloc _).cell (i := 0) rfl, (HB5.out.1.alloc _).cell (i := 1) rfl, (Blk.new 34 [.string pn, .string px]).cell (i := 0) rfl, (Blk.new 34 [.string pn, .string px]).cell (i := 1) rfl, (HB5.out.2.alloc HB5.out.2.size _).drew⟩
        generalize w5.alloc (Obj.cells #[.string pn, .string px] 34) = w6 at *
        have b0 := s0.2.2.2.2
        have hwr : IntKind.i64.wrap ((k : Int) + 1) = (k : Int) + 1 := IntWalk.i64_in _ (by omega)
        go_region_held3 (fun w' => w'.cell? ⟨wr.heap.size, 0, none⟩ = some (.string pn) ∧ w'.cell? ⟨wr.heap.size, 1, none⟩ = some (.string px) ∧ w'.cell? ⟨w5.heap.size, 0, none⟩ = some (.string pn) ∧ w'.cell? ⟨w5.heap.size, 1, none⟩ = some (.string px) ∧ Below wr.heap.size wr w')
          (first | assumption)
          (first
            | (go_at_call 14; refine (HFd.out _ b0).mono ?_; rintro e w7 ⟨rfl, hb7⟩; have s7 := cells_step s0 hb7; have b7 := s7.2.2.2.2; clear hb7)
            | (go_at_call 15; refine (HLn.out _ b7).mono ?_; rintro e w8 ⟨rfl, hb8⟩; have s8 := cells_step s7 hb8; have b8 := s8.2.2.2.2; clear hb8)
            | (go_at_call 16; refine (HRL.out _).mono ?_; rintro e w9 ⟨p9, c9, rfl, hb9⟩; have s9 := cells_step s8 hb9; have b9 := s9.2.2.2.2; clear hb9))
        obtain ⟨c0, c1, _, _, _⟩ := s9
        have HB9 := Lib.hid (HFA.out.2.trans (b9.mono HFA.out.2.size))
        clear s0 s7 s8 b0 b7 b8 b9 hwr HG HFd HLn HRL
        cases q
        all_goals
          go_wp2_with fail
          go_roundw
          case rel =>
            obtain ⟨r', h1, h2⟩ := HQ.out
            exact ⟨k + 1, r', by omega, by go_num, by rw [h2]; go_num, h1, HB9.out⟩
          case measure => simp [intOf]; omega
      · obtain rfl : k = fs.length := by omega
        clear hlt
        have HX := Lib.hid (HB4.out.trans (hbel.mono HB4.out.size))
        have hMr := HK.out.below hbel
        have HMr := Lib.hid hMr
        have hpl : ps.length = fs.length := hMr.len
        have HFd : Hid (∀ w', Below wr.heap.size wr w' → Calls Try.prog 14 #[.pointer (some ⟨bt, 0, none⟩), .string nm] w' fun e w'' => e = .returned (.int .i64 (1 + r)) ∧ Below w'.heap.size w' w'') :=
          Lib.hid fun w' hb => find_made (hMr.below hb) (by omega) nm r hfa
        have HLe : Hid (∀ w', Below wr.heap.size wr w' → Calls Try.prog 17 #[.pointer (some ⟨bt, 0, none⟩)] w' fun e w'' => e = .returned (.int .i64 fs.length) ∧ w' = w'') :=
          Lib.hid fun w' hb => by have := len_any (hMr.below hb).tab; rwa [hMr.len] at this
        clear hfa hbel hMr
        by_cases hin : n < 1 ∨ (fs.length : Int) < n
        · have HG := Lib.hid (get_out HMr.out.tab n (by rw [hpl]; exact hin) (by omega))
          have HLn : Hid (∀ w', Below wr.heap.size wr w' → Calls Try.prog 15 #[.pointer (some ⟨bt, 0, none⟩), .int .i64 n] w' fun e w'' => e = .returned (.int .i64 0) ∧ Below w'.heap.size w' w'') :=
            Lib.hid fun w' hb => lines_out (HMr.out.below hb).tab n (by rw [hpl]; exact hin) (by omega)
          clear hpl
          rcases hin with hin | hin
          all_goals
            try have hin1 : 1 ≤ n := by omega
            go_wp2_with fail
            refine HG.out.mono ?_; rintro e w5 ⟨rfl, hb5⟩
            have HB5 := Lib.hid hb5
            clear hb5
            go_wp2_with fail
            refine (HLn.out _ (HB5.out.alloc HB5.out.size _)).mono ?_; rintro e w6 ⟨rfl, hb6⟩
            have HB6 := Lib.hid (Below.then (HB5.out.alloc HB5.out.size _) hb6 (Nat.le_refl _))
            clear hb6
            go_wp2_with fail
            refine (HLe.out _ HB6.out).mono ?_; rintro e w' ⟨rfl, rfl⟩
            go_wp2_with fail
            refine (HFd.out _ HB6.out).mono ?_; rintro e w7 ⟨rfl, hb7⟩
            have HB7 := Lib.hid (HB6.out.trans (hb7.mono HB6.out.size))
            clear hb7
            go_wp2_with fail
            go_ret
            exact ⟨by simp, HX.out.trans (HB7.out.mono HX.out.size)⟩
        · have hin1 : 1 ≤ n := by omega
          have hin2 : n ≤ fs.length := by omega
          obtain ⟨m, hm⟩ : ∃ m : Nat, n = (m : Int) + 1 := ⟨(n - 1).toNat, by omega⟩
          have HG := get_made HMr.out (by omega) m (by omega)
          rw [← hm] at HG
          generalize (fs.getD m default).name = an at *
          generalize (fs.getD m default).text = ax at *
          have HG := Lib.hid HG
          clear hin hm hpl
          go_wp2_with fail
          refine HG.out.mono ?_; rintro e w5 ⟨rfl, hb5⟩
          have HB5 := Lib.hid hb5
          clear hb5
          go_wp2_with fail
          refine (HLe.out _ (HB5.out.alloc HB5.out.size _)).mono ?_; rintro e w' ⟨rfl, rfl⟩
          go_wp2_with fail
          refine (HFd.out _ (HB5.out.alloc HB5.out.size _)).mono ?_; rintro e w7 ⟨rfl, hb7⟩
          have HB7 := Lib.hid (Below.then (HB5.out.alloc HB5.out.size _) hb7 (Nat.le_refl _))
          clear hb7
          go_wp2_with fail
          go_ret
          exact ⟨by simp, HX.out.trans (HB7.out.mono HX.out.size)⟩
  · obtain rfl : pt = none := HM.out.2.1 he0
    have he1 : (err' != 0) = true := by simp [he0]
    clear he0
    go_wp2_with fail
    go_ret
    exact ⟨rfl, HB4.out⟩
end Go.Proofs.Ytonippdileikbaa
