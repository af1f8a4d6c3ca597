/- Texts of this claim, one behind another: E27, E28. They state lemmas; each names its own conditions. -/
import Derived.Test.YtleipnipohpkoaaDoorZF
import Derived.Test.YtleipnipohpkoaaDoorZE
namespace Go.Proofs.YtleipnipohpkoaaDoor
set_option linter.unusedVariables false
open Go.RowKit Go.Maps

/-! # awake -/
theorem fil_all {fs : List Fil} {p : Fil → Prop} (h : ∀ f ∈ fs, p f) (hd : p default) (n : Nat) : p (fs.getD n default) := by
  by_cases hn : n < fs.length
  · rw [List.getD, List.getElem?_eq_getElem hn]
    exact h _ (List.getElem_mem hn)
  · rw [List.getD, List.getElem?_eq_none (by omega)]
    exact hd
theorem sameS_bstr (a : Bs) (b : Bs) : sameS (bstr a) (bstr b) = decide (b = a) := by
  unfold sameS
  rw [bstr_toList, bstr_toList]
  by_cases h : b = a
  · subst h; simp
  · rw [decide_eq_false h]
    simp only [beq_eq_false_iff_ne, ne_eq]
    exact fun e => h e.symm
theorem findN_one (nm : Bs) (tx : ByteArray) : findN [⟨bstr nm, tx⟩] = fun b => if b = nm then 1 else 0 := by
  funext b
  show (if sameS (bstr nm) (bstr b) = true then 1 else if findN [] b = 0 then 0 else findN [] b + 1) = _
  rw [sameS_bstr]
  by_cases h : b = nm
  · simp [h]
  · simp [h, findN]
theorem findN_two (n1 n2 : Bs) (t1 t2 : ByteArray) : findN [⟨bstr n1, t1⟩, ⟨bstr n2, t2⟩] = fun b => if b = n1 then 1 else if b = n2 then 2 else 0 := by
  funext b
  show (if sameS (bstr n1) (bstr b) = true then 1 else if findN [⟨bstr n2, t2⟩] b = 0 then 0 else findN [⟨bstr n2, t2⟩] b + 1) = _
  rw [sameS_bstr, findN_one]
  by_cases h : b = n1
  · simp [h]
  · by_cases h2 : b = n2 <;> simp [h, h2]
def awTx7 : ByteArray := ⟨#[96, 100, 101, 102, 105, 110, 101, 32, 87, 32, 56, 10, 97, 32, 96, 87, 32, 98, 10]⟩
def awF : List Fil := [⟨bstr [97], awTx7⟩]
set_option maxRecDepth 100000 in
theorem awOut : expandP (textsOf awF) (fun b => if b = [97] then 1 else 0) [97] = ([⟨[10, 97, 32], 1, 1, 12, false⟩, ⟨[56], 1, 2, 3, true⟩, ⟨[32, 98, 10], 1, 2, 5, false⟩], (0, 0, 0), 0) := by
  kernel_rfl
theorem textsOf_one (nm tx : ByteArray) (n : Nat) : textsOf [⟨nm, tx⟩] n = tx.data.toList ∨ textsOf [⟨nm, tx⟩] n = [] := by
  unfold textsOf
  match n - 1 with
  | 0 => exact .inl rfl
  | k + 1 => exact .inr rfl
theorem lexp_one {w : World} {v : Value} (nm : Bs) (tx : ByteArray) (hr : RO w v 2 1 (filCells [⟨bstr nm, tx⟩])) (hn : isName (bstr nm) = true) (hnl : nm.length ≤ 100) (htl : tx.size ≤ 600) (hMax : Max w) (hne : nm ≠ []) :
    Calls Tryd.prog 8 #[v, .string (bstr nm)] w (LeR w (expandP (textsOf [⟨bstr nm, tx⟩]) (fun b => if b = nm then 1 else 0) nm)) := by
  have hz : tx.data.toList.length ≤ 600 := by simpa using htl
  have h := lexp_any (fs := [⟨bstr nm, tx⟩]) hr (err_one _ _ hn (by omega)) (by simp) hMax (fun n => fil_all (p := fun f => f.name.size ≤ 32768) (fun f hf => by rw [List.mem_singleton] at hf; subst hf; show (bstr nm).size ≤ _; rw [bstr_size]; omega) (by decide) n) (fun n => fil_all (p := fun f => f.text.size ≤ 32768) (fun f hf => by rw [List.mem_singleton] at hf; subst hf; show tx.size ≤ _; omega) (by decide) n) nm
    (cFile_one (by rw [findN_one]; exact if_neg (Ne.symm hne)) (T := tx.data.toList) (textsOf_one _ _) hz _)
  rw [findN_one] at h
  exact h
set_option maxRecDepth 100000 in
set_option maxHeartbeats 8000000 in
theorem awake_pre {w : World} (hMax : Max w) : Calls Tryd.prog 7 #[] w fun e w' => e = .returned (.bool true) ∧ Below w.heap.size w w' := by
  have hb1 := Below.new w (.cells #[.string (bstr [97]), .string awTx7] 28)
  have HE := Lib.hid (lexp_one (w := w.alloc (.cells #[.string (bstr [97]), .string awTx7] 28)) (v := .slice (some ⟨w.heap.size, 0, none⟩) 1 1) [97] awTx7 (ro_one _ _ (Blk.new 28 _)) (by decide) (by decide) (by decide) (hMax.below hb1) (by decide))
  rw [show [⟨bstr [97], awTx7⟩] = awF from rfl, awOut] at HE
  have HB := Lib.hid hb1
  clear hMax hb1
  have hn97 : bstr [97] = ⟨#[97]⟩ := rfl
  rw [hn97] at HE HB
  unfold awTx7 at HE HB
  go_enter Tryd.func7, Tryd.ntmps7
  go_wp2_with fail
  refine HE.out.mono ?_; rintro e w1 ⟨v, rfl, ho, hb⟩
  obtain ⟨g, cap, rfl, _⟩ := ho.form (by decide)
  have c0 := ho.cellAt 0 (by decide)
  have c5 := ho.cellAt 5 (by decide)
  have c6 := ho.cellAt 6 (by decide)
  have c7 := ho.cellAt 7 (by decide)
  have c8 := ho.cellAt 8 (by decide)
  have c9 := ho.cellAt 9 (by decide)
  have HB1 := Lib.hid (Below.next HB.out hb)
  clear ho hb
  simp only [outCells, pcCells, List.flatMap_cons, List.flatMap_nil, List.cons_append, List.nil_append, List.getElem?_cons_zero, List.getElem?_cons_succ] at c0 c5 c6 c7 c8 c9
  have ht0 := bstr_toList [10, 97, 32]
  have ht5 := bstr_toList [56]
  go_wp2_with fail
  go_ret
  exact ⟨rfl, HB1.out⟩
end Go.Proofs.YtleipnipohpkoaaDoor
namespace Go.Proofs.YtleipnipohpkoaaDoor
set_option linter.unusedVariables false
open Go.RowKit Go.Maps

/-! # the reference's Plain: where a comment has no end -/
theorem cut2_at (c d : UInt8) : ∀ (s : Bs) (k : Nat), (∀ j, j < k → ¬ (s.getD j 0 = c ∧ j + 1 < s.length ∧ s.getD (j + 1) 0 = d)) → k + 1 < s.length → s.getD k 0 = c → s.getD (k + 1) 0 = d → cut2 c d s = some k
  | [], k, _, h, _, _ => by simp at h
  | b :: r, 0, _, h, h1, h2 => by
    unfold cut2
    cases r with
    | nil => simp at h
    | cons e r => rw [if_pos ⟨h1, by simpa using h2⟩]
  | b :: r, k + 1, hn, h, h1, h2 => by
    unfold cut2
    have h0 := hn 0 (by omega)
    rw [if_neg (fun hh => h0 ⟨hh.1, by simp only [List.length_cons] at h ⊢; omega, by cases r with
      | nil => simp at hh
      | cons e r => simpa using hh.2⟩)]
    rw [cut2_at c d r k (fun j hj hh => hn (j + 1) (by omega) ⟨hh.1, by simp only [List.length_cons]; omega, hh.2.2⟩) (by simp only [List.length_cons] at h; omega) h1 h2]
    rfl
theorem cut2_none' (c d : UInt8) : ∀ (s : Bs), (∀ j, ¬ (s.getD j 0 = c ∧ j + 1 < s.length ∧ s.getD (j + 1) 0 = d)) → cut2 c d s = none
  | [], _ => rfl
  | b :: r, hn => by
    unfold cut2
    have h0 := hn 0
    rw [if_neg (fun hh => h0 ⟨hh.1, by cases r with
      | nil => simp at hh
      | cons e r => simp, by cases r with
      | nil => simp at hh
      | cons e r => simpa using hh.2⟩)]
    rw [cut2_none' c d r (fun j hh => hn (j + 1) ⟨hh.1, by simp only [List.length_cons]; omega, hh.2.2⟩)]
    rfl
/-- the outer loop -/
structure RP (w wr : World) (s : Bs) (R : Option Nat) (i : Nat) (ob : ByteArray) : Prop where
  wd : wr = w
  sz : ob.size = i
  le : i ≤ s.length
  res : ∃ k, s.length < i + k ∧ badL s k i = R
set_option maxRecDepth 100000 in
set_option maxHeartbeats 8000000 in
theorem rplain_any {w : World} (s : Bs) (hs : s.length ≤ 100000) :
    Calls Tryd.prog 9 #[.string (bstr s)] w fun e w' => (∃ x, e = .returned (.tuple #[.string x, .int .i64 (badV (plainP s).2)])) ∧ w = w' := by
  rw [plainP_bad]
  obtain ⟨R, hR⟩ : ∃ R, badL s (s.length + 1) 0 = R := ⟨_, rfl⟩
  rw [hR]
  obtain ⟨S, hS⟩ : ∃ S, bstr s = S := ⟨_, rfl⟩
  have hsz : S.size = s.length := by rw [← hS, bstr_size]
  have hat : ∀ k (h : k < S.size), S[k] = s.getD k 0 := by subst hS; exact fun k h => bstr_at s k h
  have HAt := Lib.hid hat
  rw [hS]
  have HS := Lib.hid (And.intro hS (And.intro hsz hs))
  have HP : Hid (RP w w s R 0 ⟨#[]⟩) := Lib.hid ⟨rfl, rfl, Nat.zero_le _, _, by omega, hR⟩
  have hsi : (S.size : Int) ≤ 100000 := by omega
  clear hR hS hsz hat hs
  go_enter Tryd.func9, Tryd.ntmps9
  go_wp2_with fail
  go_loopw [4, 5] (fun ov iv wr => ∃ (ob : ByteArray) (i : Nat), ov = .string ob ∧ iv = .int .i64 i ∧ RP w wr s R i ob) (fun _ iv _ => s.length - (intOf iv).toNat)
  case atStart => exact ⟨_, 0, rfl, rfl, HP.out⟩
  case round =>
    obtain ⟨ob, i, rfl, rfl, hrp⟩ := hrel
    obtain ⟨hwr, hz, hile, k0, hk0, hres⟩ := hrp
    obtain rfl : wr = w := hwr
    have H1 : Hid (RP wr wr s R i ob) := Lib.hid ⟨rfl, hz, hile, k0, hk0, hres⟩
    have hiw : IntKind.i64.wrap ((i : Int) + 1) = ((i + 1 : Nat) : Int) := by rw [i64_of (by have := HS.out; omega)]; omega
    have hiw2 : IntKind.i64.wrap ((i : Int) + 2) = ((i + 2 : Nat) : Int) := by rw [i64_of (by have := HS.out; omega)]; omega
    by_cases hi : i < s.length
    · have hii : (i : Int) < (S.size : Int) := by have := HS.out; omega
      have hi1e : (i : Int) + 1 ≤ (S.size : Int) := by omega
      obtain ⟨XB, hXB⟩ : ∃ XB, S.extract i (i + 1) = XB := ⟨_, rfl⟩
      have hszx : XB.size = 1 := by rw [← hXB, ByteArray.size_extract]; have := HS.out; omega
      have hcat0 : (9223372036854775807 < ob.size + XB.size) = False := eq_false (by have := HS.out; omega)
      have hsl1 : (Instr.slice 9 (Value.string S) (some (Value.int IntKind.i64 i)) (some (Value.int IntKind.i64 ((i : Int) + 1))) none).run Tryd.prog wr = .ok (.string XB) wr := by
        have h := run_slice_string (P := Tryd.prog) (w := wr) 9 S .i64 .i64 i ((i : Int) + 1) Tryd.underlying9 (by omega) (by omega) (by omega)
        rw [h, ← hXB]; congr 3
      have HX := Lib.hid (And.intro hi hszx)
      clear hXB
      obtain ⟨k, rfl⟩ : ∃ k, k0 = k + 1 := ⟨k0 - 1, by omega⟩
      by_cases h2 : i + 1 < s.length
      · have h2i : (i : Int) + 2 ≤ (S.size : Int) := by have := HS.out; omega
        obtain ⟨TW, hTW⟩ : ∃ TW, S.extract i (i + 2) = TW := ⟨_, rfl⟩
        have hsl : (Instr.slice 9 (Value.string S) (some (Value.int IntKind.i64 i)) (some (Value.int IntKind.i64 ((i : Int) + 2))) none).run Tryd.prog wr = .ok (.string TW) wr := by
          have h := run_slice_string (P := Tryd.prog) (w := wr) 9 S .i64 .i64 i ((i : Int) + 2) Tryd.underlying9 (by omega) (by omega) (by omega)
          rw [h, ← hTW]; congr 3
        have htw : TW.toList = [s.getD i 0, s.getD (i + 1) 0] := by
          rw [← hTW, ← HS.out.1, bstr_extract, two_at s i h2, ByteArray.toList_eq]; rfl
        unfold badL at hres
        rw [if_pos h2] at hres
        by_cases hc1 : s.getD i 0 = 47 ∧ s.getD (i + 1) 0 = 47
        · rw [if_pos hc1] at hres
          have q1 : (TW.toList == [47, 47]) = true := by rw [htw, hc1.1, hc1.2]; rfl
          have q2 : (TW.toList == [47, 42]) = false := by rw [htw, hc1.1, hc1.2]; rfl
          have HC := Lib.hid (And.intro hc1 (And.intro hres (And.intro h2 hk0)))
          clear hTW htw hres hk0 hc1 h2 hz hile hi hszx hiw
          go_wp2_with fail
          go_loopw [7] (fun tv wr2 => ∃ t : Nat, tv = .int .i64 t ∧ wr2 = wr ∧ i ≤ t ∧ t ≤ s.length ∧ ∀ j, i ≤ j → j < t → s.getD j 0 ≠ 10) (fun tv _ => s.length - (intOf tv).toNat)
          case atStart => exact ⟨i, rfl, rfl, Nat.le_refl _, H1.out.le, fun j h1 h2 => by omega⟩
          case round =>
            obtain ⟨t, rfl, rfl, hti, htn, htf⟩ := hrel
            have htw : IntKind.i64.wrap ((t : Int) + 1) = ((t + 1 : Nat) : Int) := by rw [i64_of (by have := HS.out; omega)]; omega
            by_cases hlt : t < s.length
            · have hlti : (t : Int) < (S.size : Int) := by have := HS.out; omega
              obtain ⟨cb, hcb⟩ : ∃ cb, s.getD t 0 = cb := ⟨_, rfl⟩
              have hatb : ∀ h : t < S.size, S[t] = cb := by intro h; rw [← hcb]; exact HAt.out t h
              by_cases h10 : cb = 10
              · subst h10
                have htk := takeWhile_of (p := fun b : UInt8 => decide (b ≠ 10)) (s.drop i) (t - i) (by rw [List.length_drop]; omega) (fun j hj => by
                  have := htf (i + j) (by omega) (by omega)
                  simp only [List.getD, List.getElem?_drop] at this ⊢
                  exact decide_eq_true this) (.inr (by
                  simp only [List.getD, List.getElem?_drop]
                  rw [show i + (t - i) = t by omega]
                  rw [List.getD] at hcb
                  rw [hcb]; rfl))
                have hti0 : i ≠ t := fun e => by rw [← e] at hcb; have := HC.out.1.1; rw [hcb] at this; cases this
                have hne : ((t : Int) == (i : Int)) = false := by simp; omega
                have HTo : Hid (i ≤ t ∧ t ≤ s.length ∧ i < t ∧ ∃ k, s.length < t + k ∧ badL s k t = R) := Lib.hid ⟨hti, htn, by omega, k, by have := HC.out.2.2.2; omega, by have := HC.out.2.1; rw [htk, show i + (t - i) = t by omega] at this; exact this⟩
                clear hcb htk hti0 hti htn htf hlt
                go_wp2_with fail
                go_loopw [4, 5] (fun ov iv wr2 => ∃ (i2 : Nat) (o2 : ByteArray), ov = .string o2 ∧ iv = .int .i64 i2 ∧ wr2 = wr ∧ o2.size = i2 ∧ i ≤ i2 ∧ i2 ≤ t) (fun _ iv _ => t - (intOf iv).toNat)
                case atStart => exact ⟨i, ob, rfl, rfl, rfl, H1.out.sz, Nat.le_refl _, HTo.out.1⟩
                case round =>
                  obtain ⟨i2, o2, rfl, rfl, rfl, hz2, hi2, ht2⟩ := hrel
                  have hiw2 : IntKind.i64.wrap ((i2 : Int) + 1) = ((i2 + 1 : Nat) : Int) := by rw [i64_of (by have := HTo.out.2.1; have := HS.out; omega)]; omega
                  have H2 := Lib.hid (And.intro hz2 (And.intro hi2 ht2))
                  by_cases hlt : i2 < t
                  · have hlti : (i2 : Int) < (t : Int) := by omega
                    have hit : (i2 : Int) < (S.size : Int) := by have := HTo.out.2.1; have := HS.out; omega
                    have hcat1 : (9223372036854775807 < o2.size + 1) = False := eq_false (by have := HTo.out.2.1; have := HS.out; omega)
                    have hsz2 : (o2.size : Int) + 1 ≤ 9223372036854775807 := by have := HTo.out.2.1; have := HS.out; omega
                    have Hlt := Lib.hid hlt
                    clear hz2 hi2 ht2 hlt
                    obtain ⟨cb, hcb⟩ : ∃ cb, s.getD i2 0 = cb := ⟨_, rfl⟩
                    have hatb : ∀ h : i2 < S.size, S[i2] = cb := by intro h; rw [← hcb]; exact HAt.out i2 h
                    clear hcb
                    by_cases h10 : cb = 10
                    · subst h10
                      go_wp2_with fail
                      go_round
                      case rel => exact ⟨i2 + 1, o2 ++ ⟨#[10]⟩, rfl, rfl, by first | rfl | trivial, by rw [ByteArray.size_append, H2.out.1]; rfl, by have := H2.out.2.1; omega, Hlt.out⟩
                      case measure =>
                        have := Hlt.out
                        show t - ((i2 : Int) + 1).toNat < t - (i2 : Int).toNat
                        omega
                    · have hcn : (((cb.toNat : Nat) : Int) == 10) = false := by
                        have : cb.toNat ≠ 10 := fun e => h10 (UInt8.toNat_inj.1 e)
                        simp; omega
                      clear h10
                      go_wp2_with fail
                      go_round
                      case rel => exact ⟨i2 + 1, o2 ++ ⟨#[32]⟩, rfl, rfl, by first | rfl | trivial, by rw [ByteArray.size_append, H2.out.1]; rfl, by have := H2.out.2.1; omega, Hlt.out⟩
                      case measure =>
                        have := Hlt.out
                        show t - ((i2 : Int) + 1).toNat < t - (i2 : Int).toNat
                        omega
                  · have hlti : ¬ (i2 : Int) < (t : Int) := by omega
                    obtain rfl : i2 = t := by omega
                    clear hz2 hi2 ht2 hlt
                    go_wp2_with fail
                    refine ⟨⟨o2, i2, rfl, rfl, ⟨rfl, H2.out.1, HTo.out.2.1, HTo.out.2.2.2⟩⟩, ?_⟩
                    have h1 := HTo.out.2.2.1
                    have h2 := HTo.out.2.1
                    show s.length - (i2 : Int).toNat < s.length - (i : Int).toNat
                    omega
              · have hcn : (((cb.toNat : Nat) : Int) == 10) = false := by
                  have : cb.toNat ≠ 10 := fun e => h10 (UInt8.toNat_inj.1 e)
                  simp; omega
                have HT := Lib.hid (And.intro hti (And.intro hlt (And.intro htf (And.intro hcb h10))))
                clear hti htn htf hlt hcb h10
                go_wp2_with fail
                go_round
                case rel =>
                  obtain ⟨a1, a2, a3, a4, a5⟩ := HT.out
                  refine ⟨t + 1, rfl, by first | rfl | trivial, by omega, a2, fun j h1 h2 => ?_⟩
                  by_cases hj : j < t
                  · exact a3 j h1 hj
                  · obtain rfl : j = t := by omega
                    rw [a4]; exact a5
                case measure =>
                  have := HT.out.2.1
                  show s.length - ((t : Int) + 1).toNat < s.length - (t : Int).toNat
                  omega
            · have hlti : ¬ (t : Int) < (S.size : Int) := by have := HS.out; omega
              obtain rfl : t = s.length := by omega
              have htk := takeWhile_of (p := fun b : UInt8 => decide (b ≠ 10)) (s.drop i) (s.length - i) (by rw [List.length_drop]; omega) (fun j hj => by
                have := htf (i + j) (by omega) (by omega)
                simp only [List.getD, List.getElem?_drop] at this ⊢
                exact decide_eq_true this) (.inl (by rw [List.length_drop]))
              obtain ⟨t, ht⟩ : ∃ t, s.length = t := ⟨_, rfl⟩
              have hlen : i < t := by have := HC.out.2.2.1; omega
              have hne : ((t : Int) == (i : Int)) = false := by simp; omega
              have HTo : Hid (i ≤ t ∧ t ≤ s.length ∧ i < t ∧ ∃ k, s.length < t + k ∧ badL s k t = R) := Lib.hid ⟨by omega, by omega, hlen, k, by have := HC.out.2.2.2; omega, by have := HC.out.2.1; rw [htk, show i + (s.length - i) = t by omega] at this; exact this⟩
              rw [ht] at hlti ⊢
              have Hts := Lib.hid ht
              clear htk hti htn htf hlen ht hlt
              go_wp2_with fail
              go_loopw [4, 5] (fun ov iv wr2 => ∃ (i2 : Nat) (o2 : ByteArray), ov = .string o2 ∧ iv = .int .i64 i2 ∧ wr2 = wr ∧ o2.size = i2 ∧ i ≤ i2 ∧ i2 ≤ t) (fun _ iv _ => t - (intOf iv).toNat)
              case atStart => exact ⟨i, ob, rfl, rfl, rfl, H1.out.sz, Nat.le_refl _, HTo.out.1⟩
              case round =>
                obtain ⟨i2, o2, rfl, rfl, rfl, hz2, hi2, ht2⟩ := hrel
                have hiw2 : IntKind.i64.wrap ((i2 : Int) + 1) = ((i2 + 1 : Nat) : Int) := by rw [i64_of (by have := HTo.out.2.1; have := HS.out; omega)]; omega
                have H2 := Lib.hid (And.intro hz2 (And.intro hi2 ht2))
                by_cases hlt : i2 < t
                · have hlti : (i2 : Int) < (t : Int) := by omega
                  have hit : (i2 : Int) < (S.size : Int) := by have := HTo.out.2.1; have := HS.out; omega
                  have hcat1 : (9223372036854775807 < o2.size + 1) = False := eq_false (by have := HTo.out.2.1; have := HS.out; omega)
                  have hsz2 : (o2.size : Int) + 1 ≤ 9223372036854775807 := by have := HTo.out.2.1; have := HS.out; omega
                  have Hlt := Lib.hid hlt
                  clear hz2 hi2 ht2 hlt
                  obtain ⟨cb, hcb⟩ : ∃ cb, s.getD i2 0 = cb := ⟨_, rfl⟩
                  have hatb : ∀ h : i2 < S.size, S[i2] = cb := by intro h; rw [← hcb]; exact HAt.out i2 h
                  clear hcb
                  by_cases h10 : cb = 10
                  · subst h10
                    go_wp2_with fail
                    go_round
                    case rel => exact ⟨i2 + 1, o2 ++ ⟨#[10]⟩, rfl, rfl, by first | rfl | trivial, by rw [ByteArray.size_append, H2.out.1]; rfl, by have := H2.out.2.1; omega, Hlt.out⟩
                    case measure =>
                      have := Hlt.out
                      show t - ((i2 : Int) + 1).toNat < t - (i2 : Int).toNat
                      omega
                  · have hcn : (((cb.toNat : Nat) : Int) == 10) = false := by
                      have : cb.toNat ≠ 10 := fun e => h10 (UInt8.toNat_inj.1 e)
                      simp; omega
                    clear h10
                    go_wp2_with fail
                    go_round
                    case rel => exact ⟨i2 + 1, o2 ++ ⟨#[32]⟩, rfl, rfl, by first | rfl | trivial, by rw [ByteArray.size_append, H2.out.1]; rfl, by have := H2.out.2.1; omega, Hlt.out⟩
                    case measure =>
                      have := Hlt.out
                      show t - ((i2 : Int) + 1).toNat < t - (i2 : Int).toNat
                      omega
                · have hlti : ¬ (i2 : Int) < (t : Int) := by omega
                  obtain rfl : i2 = t := by omega
                  clear hz2 hi2 ht2 hlt
                  go_wp2_with fail
                  refine ⟨⟨o2, i2, rfl, rfl, ⟨rfl, H2.out.1, HTo.out.2.1, HTo.out.2.2.2⟩⟩, ?_⟩
                  have h1 := HTo.out.2.2.1
                  have h2 := HTo.out.2.1
                  show s.length - (i2 : Int).toNat < s.length - (i : Int).toNat
                  omega
        · rw [if_neg hc1] at hres
          have q1 : (TW.toList == [47, 47]) = false := by
            rw [htw]
            simp only [beq_eq_false_iff_ne, ne_eq, List.cons.injEq, and_true]
            exact hc1
          by_cases hc2 : s.getD i 0 = 47 ∧ s.getD (i + 1) 0 = 42
          · rw [if_pos hc2] at hres
            have q2 : (TW.toList == [47, 42]) = true := by rw [htw, hc2.1, hc2.2]; rfl
            have HC := Lib.hid (And.intro hc2 (And.intro hres (And.intro h2 hk0)))
            clear hTW htw hres hk0 hc1 hc2 h2 hz hile hi hszx hiw
            go_wp2_with fail
            go_loopw [7] (fun tv wr2 => ∃ q : Nat, tv = .int .i64 q ∧ wr2 = wr ∧ i + 2 ≤ q ∧ q ≤ s.length ∧ ∀ j, i + 2 ≤ j → j < q → ¬ (s.getD j 0 = 42 ∧ j + 1 < s.length ∧ s.getD (j + 1) 0 = 47)) (fun tv _ => s.length - (intOf tv).toNat)
            case atStart => exact ⟨i + 2, rfl, rfl, Nat.le_refl _, by have := HC.out.2.2.1; omega, fun j h1 h2 => by omega⟩
            case round =>
              obtain ⟨q, rfl, rfl, hq1, hq2, hqf⟩ := hrel
              obtain ⟨t, ht⟩ : ∃ t, q + 2 = t := ⟨_, rfl⟩
              have hqw : IntKind.i64.wrap ((q : Int) + 2) = (t : Int) := by rw [i64_of (by have := HS.out; omega)]; omega
              have hqw1 : IntKind.i64.wrap ((q : Int) + 1) = (q : Int) + 1 := i64_of (by have := HS.out; omega)
              by_cases h3 : q + 2 ≤ s.length
              · have h3i : (t : Int) ≤ (S.size : Int) := by have := HS.out; omega
                have h3j : ¬ (S.size : Int) < (t : Int) := by omega
                obtain ⟨T2, hT2⟩ : ∃ T2, S.extract q (q + 2) = T2 := ⟨_, rfl⟩
                have hsl2 : (Instr.slice 9 (Value.string S) (some (Value.int IntKind.i64 q)) (some (Value.int IntKind.i64 (t : Int))) none).run Tryd.prog wr = .ok (.string T2) wr := by
                  have h := run_slice_string (P := Tryd.prog) (w := wr) 9 S .i64 .i64 q (t : Int) Tryd.underlying9 (by omega) (by omega) (by omega)
                  rw [h, ← hT2, ← ht]; congr 3
                have ht2 : T2.toList = [s.getD q 0, s.getD (q + 1) 0] := by
                  rw [← hT2, ← HS.out.1, bstr_extract, two_at s q (by omega), ByteArray.toList_eq]; rfl
                by_cases hp : s.getD q 0 = 42 ∧ s.getD (q + 1) 0 = 47
                · have q3 : (T2.toList == [42, 47]) = true := by rw [ht2, hp.1, hp.2]; rfl
                  have hcut := cut2_at 42 47 (s.drop (i + 2)) (q - (i + 2)) (fun j hj hh => by
                    have := hqf (i + 2 + j) (by omega) (by omega)
                    simp only [List.getD, List.getElem?_drop, List.length_drop] at hh this
                    exact this ⟨hh.1, by omega, by rw [show i + 2 + j + 1 = i + 2 + (j + 1) by omega]; exact hh.2.2⟩) (by rw [List.length_drop]; omega) (by
                    simp only [List.getD, List.getElem?_drop]
                    rw [show i + 2 + (q - (i + 2)) = q by omega]
                    exact hp.1) (by
                    simp only [List.getD, List.getElem?_drop]
                    rw [show i + 2 + (q - (i + 2) + 1) = q + 1 by omega]
                    exact hp.2)
                  have hne : ((t : Int) == (i : Int)) = false := by simp; omega
                  have HTo : Hid (i ≤ t ∧ t ≤ s.length ∧ i < t ∧ ∃ k, s.length < t + k ∧ badL s k t = R) := Lib.hid ⟨by omega, by omega, by omega, k, by have := HC.out.2.2.2; omega, by
                    have := HC.out.2.1
                    rw [hcut] at this
                    simp only at this
                    rw [show i + 2 + (q - (i + 2)) + 2 = t by omega] at this
                    exact this⟩
                  clear hT2 ht2 hp hcut ht hq1 hq2 hqf h3
                  go_wp2_with fail
                  go_loopw [4, 5] (fun ov iv wr2 => ∃ (i2 : Nat) (o2 : ByteArray), ov = .string o2 ∧ iv = .int .i64 i2 ∧ wr2 = wr ∧ o2.size = i2 ∧ i ≤ i2 ∧ i2 ≤ t) (fun _ iv _ => t - (intOf iv).toNat)
                  case atStart => exact ⟨i, ob, rfl, rfl, rfl, H1.out.sz, Nat.le_refl _, HTo.out.1⟩
                  case round =>
                    obtain ⟨i2, o2, rfl, rfl, rfl, hz2, hi2, ht2⟩ := hrel
                    have hiw2 : IntKind.i64.wrap ((i2 : Int) + 1) = ((i2 + 1 : Nat) : Int) := by rw [i64_of (by have := HTo.out.2.1; have := HS.out; omega)]; omega
                    have H2 := Lib.hid (And.intro hz2 (And.intro hi2 ht2))
                    by_cases hlt : i2 < t
                    · have hlti : (i2 : Int) < (t : Int) := by omega
                      have hit : (i2 : Int) < (S.size : Int) := by have := HTo.out.2.1; have := HS.out; omega
                      have hcat1 : (9223372036854775807 < o2.size + 1) = False := eq_false (by have := HTo.out.2.1; have := HS.out; omega)
                      have hsz2 : (o2.size : Int) + 1 ≤ 9223372036854775807 := by have := HTo.out.2.1; have := HS.out; omega
                      have Hlt := Lib.hid hlt
                      clear hz2 hi2 ht2 hlt
                      obtain ⟨cb, hcb⟩ : ∃ cb, s.getD i2 0 = cb := ⟨_, rfl⟩
                      have hatb : ∀ h : i2 < S.size, S[i2] = cb := by intro h; rw [← hcb]; exact HAt.out i2 h
                      clear hcb
                      by_cases h10 : cb = 10
                      · subst h10
                        go_wp2_with fail
                        go_round
                        case rel => exact ⟨i2 + 1, o2 ++ ⟨#[10]⟩, rfl, rfl, by first | rfl | trivial, by rw [ByteArray.size_append, H2.out.1]; rfl, by have := H2.out.2.1; omega, Hlt.out⟩
                        case measure =>
                          have := Hlt.out
                          show t - ((i2 : Int) + 1).toNat < t - (i2 : Int).toNat
                          omega
                      · have hcn : (((cb.toNat : Nat) : Int) == 10) = false := by
                          have : cb.toNat ≠ 10 := fun e => h10 (UInt8.toNat_inj.1 e)
                          simp; omega
                        clear h10
                        go_wp2_with fail
                        go_round
                        case rel => exact ⟨i2 + 1, o2 ++ ⟨#[32]⟩, rfl, rfl, by first | rfl | trivial, by rw [ByteArray.size_append, H2.out.1]; rfl, by have := H2.out.2.1; omega, Hlt.out⟩
                        case measure =>
                          have := Hlt.out
                          show t - ((i2 : Int) + 1).toNat < t - (i2 : Int).toNat
                          omega
                    · have hlti : ¬ (i2 : Int) < (t : Int) := by omega
                      obtain rfl : i2 = t := by omega
                      clear hz2 hi2 ht2 hlt
                      go_wp2_with fail
                      refine ⟨⟨o2, i2, rfl, rfl, ⟨rfl, H2.out.1, HTo.out.2.1, HTo.out.2.2.2⟩⟩, ?_⟩
                      have h1 := HTo.out.2.2.1
                      have h2 := HTo.out.2.1
                      show s.length - (i2 : Int).toNat < s.length - (i : Int).toNat
                      omega
                · have q3 : (T2.toList == [42, 47]) = false := by
                    rw [ht2]
                    simp only [beq_eq_false_iff_ne, ne_eq, List.cons.injEq, and_true]
                    exact hp
                  have HT := Lib.hid (And.intro hq1 (And.intro h3 (And.intro hqf hp)))
                  clear hT2 ht2 hp ht hq1 hq2 hqf h3
                  go_wp2_with fail
                  go_round
                  case rel =>
                    obtain ⟨a1, a2, a3, a4⟩ := HT.out
                    refine ⟨q + 1, rfl, by first | rfl | trivial, by omega, by omega, fun j h1 h2 hh => ?_⟩
                    by_cases hj : j < q
                    · exact a3 j h1 hj hh
                    · obtain rfl : j = q := by omega
                      exact a4 ⟨hh.1, hh.2.2⟩
                  case measure =>
                    have := HT.out.2.1
                    show s.length - ((q : Int) + 1).toNat < s.length - (q : Int).toNat
                    omega
              · have h3i : ¬ (t : Int) ≤ (S.size : Int) := by have := HS.out; omega
                have h3j : (S.size : Int) < (t : Int) := by omega
                have hRn : R = some i := by
                  have := HC.out.2.1
                  rw [cut2_none' 42 47 (s.drop (i + 2)) (fun j hh => by
                    simp only [List.getD, List.getElem?_drop, List.length_drop] at hh
                    have h5 := hqf (i + 2 + j) (by omega) (by omega)
                    simp only [List.getD] at h5
                    exact h5 ⟨hh.1, by omega, by rw [show i + 2 + j + 1 = i + 2 + (j + 1) by omega]; exact hh.2.2⟩)] at this
                  exact this.symm
                subst hRn
                clear ht hq1 hq2 hqf h3
                go_wp2_with fail
                go_ret2
                exact ⟨⟨_, rfl⟩, rfl⟩
          · rw [if_neg hc2] at hres
            have q2 : (TW.toList == [47, 42]) = false := by
              rw [htw]
              simp only [beq_eq_false_iff_ne, ne_eq, List.cons.injEq, and_true]
              exact hc2
            have HR2 := Lib.hid (And.intro (show s.length < i + 1 + k by omega) hres)
            clear hTW htw hres hk0 hc1 hc2 h2 hz hile hi hszx
            go_wp2_with fail
            go_loopw [4, 5] (fun ov iv wr2 => ov = .string (ob ++ XB) ∧ iv = .int .i64 ((i : Int) + 1) ∧ wr2 = wr) (fun _ _ _ => 0)
            case atStart => exact ⟨rfl, rfl, rfl⟩
            case round =>
              obtain ⟨rfl, rfl, rfl⟩ := hrel
              have hno : ¬ ((i : Int) + 1 < (i : Int)) := by omega
              go_wp2_with fail
              obtain ⟨hk, hr⟩ := HR2.out
              refine ⟨⟨_, i + 1, rfl, rfl, ⟨rfl, by rw [ByteArray.size_append, H1.out.sz, HX.out.2], HX.out.1, ⟨_, hk, hr⟩⟩⟩, ?_⟩
              have := HX.out.1
              show s.length - ((i : Int) + 1).toNat < s.length - (i : Int).toNat
              omega
      · have h2i : ¬ (i : Int) + 2 ≤ (S.size : Int) := by have := HS.out; omega
        have hRn : badL s k (i + 1) = R := by
          rw [← hres]
          have e1 : badL s (k + 1) i = none := by unfold badL; rw [if_neg h2]
          rw [e1]
          cases k with
          | zero => rfl
          | succ k => unfold badL; rw [if_neg (by omega)]
        have HR2 := Lib.hid (And.intro (show s.length < i + 1 + k by omega) hRn)
        clear hRn hres hk0 h2 hz hile hi hszx
        go_wp2_with fail
        go_loopw [4, 5] (fun ov iv wr2 => ov = .string (ob ++ XB) ∧ iv = .int .i64 ((i : Int) + 1) ∧ wr2 = wr) (fun _ _ _ => 0)
        case atStart => exact ⟨rfl, rfl, rfl⟩
        case round =>
          obtain ⟨rfl, rfl, rfl⟩ := hrel
          have hno : ¬ ((i : Int) + 1 < (i : Int)) := by omega
          go_wp2_with fail
          obtain ⟨hk, hr⟩ := HR2.out
          refine ⟨⟨_, i + 1, rfl, rfl, ⟨rfl, by rw [ByteArray.size_append, H1.out.sz, HX.out.2], HX.out.1, ⟨_, hk, hr⟩⟩⟩, ?_⟩
          have := HX.out.1
          show s.length - ((i : Int) + 1).toNat < s.length - (i : Int).toNat
          omega
    · have hii : ¬ (i : Int) < (S.size : Int) := by have := HS.out; omega
      have hRn : R = none := by
        rw [← hres]
        cases k0 with
        | zero => rfl
        | succ k => unfold badL; rw [if_neg (by omega)]
      subst hRn
      clear hres hk0 hz hile hi
      go_wp2_with fail
      go_ret2
      exact ⟨⟨ob, rfl⟩, rfl⟩
end Go.Proofs.YtleipnipohpkoaaDoor
