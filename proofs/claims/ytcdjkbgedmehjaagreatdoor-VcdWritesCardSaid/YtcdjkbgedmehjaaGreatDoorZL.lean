/- Texts of this claim, one behind another: W1, W2, W3, W4. They state lemmas; each names its own conditions. -/
import Derived.Test.YtcdjkbgedmehjaaGreatDoorZC
import Derived.Test.YtcdjkbgedmehjaaGreatDoorZI
namespace Go.Proofs.YtcdjkbgedmehjaaGreatDoor
set_option linter.unusedVariables false
open Go.RowKit Go.Sort

/-! # the document's printed and word -/
theorem printedB_no (s : ByteArray) (h : seens s.data.toList = false) : printedB s = false := by unfold printedB; rw [h, Bool.and_false]
set_option maxHeartbeats 1000000 in
theorem rprinted_any (s : ByteArray) (hs : (s.size : Int) ≤ 9223372036854775807) (w : World) : Calls Tryz.prog 47 #[.string s] w fun e w' => e = .returned (.bool (printedB s)) ∧ w = w' := by
  go_enter Tryz.func47, Tryz.ntmps47
  go_wp2_with fail
  go_loop [3] (fun i => ∃ k : Nat, k ≤ s.size ∧ i = .int .i64 k ∧ seens (s.data.toList.take k) = true) (fun i => s.size - (intOf i).toNat)
  case atStart => exact ⟨0, Nat.zero_le _, rfl, rfl⟩
  case round =>
    obtain ⟨k, hk, rfl, hl⟩ := hrel
    by_cases hlt : k < s.size
    · have hsn := seens_snoc (s.data.toList.take k) s[k]
      rw [← takeS_snoc s k hlt, hl, Bool.true_and] at hsn
      have hwr : IntKind.i64.wrap ((k : Int) + 1) = (k : Int) + 1 := i64_of (by omega)
      clear hl
      by_cases h1 : s[k].toNat < 33
      · have HS := Lib.hid (hsn.trans (show seen s[k] = false by unfold seen; rw [decide_eq_false (show ¬ 33 ≤ s[k].toNat by omega)]; rfl))
        clear hsn
        go_wp2_with fail
        go_ret
        exact ⟨congrArg (fun b => Ending.returned (Value.bool b)) (printedB_no s (seens_take _ _ HS.out)).symm, rfl⟩
      · by_cases h2 : 127 ≤ s[k].toNat
        · have HS := Lib.hid (hsn.trans (show seen s[k] = false by unfold seen; rw [decide_eq_false (show ¬ s[k].toNat < 127 by omega)]; simp))
          have h3 : (126 : Int) < s[k].toNat := by omega
          clear hsn
          go_wp2_with fail
          go_ret
          exact ⟨congrArg (fun b => Ending.returned (Value.bool b)) (printedB_no s (seens_take _ _ HS.out)).symm, rfl⟩
        · have HS := Lib.hid (hsn.trans (show seen s[k] = true by unfold seen; rw [decide_eq_true (show s[k].toNat < 127 by omega), decide_eq_true (show 33 ≤ s[k].toNat by omega)]; rfl))
          have h3 : ¬ (126 : Int) < s[k].toNat := by omega
          clear hsn
          go_wp2_with fail
          go_round
          case rel => exact ⟨k + 1, by omega, by go_num, HS.out⟩
          case measure => simp [intOf]; omega
    · obtain rfl : k = s.size := by omega
      rw [List.take_of_length_le (by simp)] at hl
      have hv : printedB s = (decide (1 ≤ s.size) && decide (s.size ≤ 200)) := by
        unfold printedB; rw [hl, Bool.and_true]
        congr 1
        exact decide_eq_decide.2 (by omega)
      have HV := Lib.hid hv
      clear hl hv
      by_cases ha : 1 ≤ s.size
      · have ha' : (1 : Int) ≤ s.size := by omega
        by_cases hb : s.size ≤ 200
        · have hb' : (s.size : Int) ≤ 200 := by omega
          go_wp2_with fail
          go_ret
          exact ⟨congrArg (fun b => Ending.returned (Value.bool b)) (HV.out.trans (by simp [ha, hb])).symm, rfl⟩
        · have hb' : ¬ (s.size : Int) ≤ 200 := by omega
          go_wp2_with fail
          go_ret
          exact ⟨congrArg (fun b => Ending.returned (Value.bool b)) (HV.out.trans (by simp [ha, hb])).symm, rfl⟩
      · have ha' : ¬ (1 : Int) ≤ s.size := by omega
        go_wp2_with fail
        go_ret
        exact ⟨congrArg (fun b => Ending.returned (Value.bool b)) (HV.out.trans (by simp [ha])).symm, rfl⟩
set_option maxHeartbeats 1000000 in
theorem rword_any (s : ByteArray) (hs : (s.size : Int) ≤ 9223372036854775807) (w : World) : Calls Tryz.prog 16 #[.string s] w fun e w' => e = .returned (.bool (wordB s)) ∧ w = w' := by
  have HP := Lib.hid (rprinted_any s hs)
  by_cases hp : printedB s = true
  · have h0 : 0 < s.size := by
      rcases Nat.eq_zero_or_pos s.size with h | h
      · unfold printedB at hp; rw [decide_eq_false (by omega)] at hp; simp at hp
      · exact h
    have hat : s.data.toList.getD 0 0 = s[0] := by
      rw [List.getD_eq_getElem?_getD, List.getElem?_eq_getElem (show 0 < s.data.toList.length by simpa using h0)]; rfl
    have hv : wordB s = decide (s[0] ≠ 36) := by unfold wordB; rw [hp, hat]; rfl
    rw [hv]
    rw [hp] at HP
    clear hp hat hv
    by_cases h36 : s[0].toNat = 36
    · have hv : decide (s[0] ≠ 36) = false := decide_eq_false (by simp; exact UInt8.toNat_inj.1 h36)
      rw [hv]
      clear hv
      go_enter Tryz.func16, Tryz.ntmps16
      go_wp2_with fail
      refine (HP.out _).mono ?_; rintro e w1 ⟨rfl, rfl⟩
      go_wp2_with fail
      go_ret
      exact ⟨rfl, rfl⟩
    · have hv : decide (s[0] ≠ 36) = true := decide_eq_true (fun h => h36 (by rw [h]; rfl))
      rw [hv]
      clear hv
      go_enter Tryz.func16, Tryz.ntmps16
      go_wp2_with fail
      refine (HP.out _).mono ?_; rintro e w1 ⟨rfl, rfl⟩
      go_wp2_with fail
      go_ret
      exact ⟨congrArg (fun b => Ending.returned (Value.bool b)) (by simp; omega), rfl⟩
  · have hp' : printedB s = false := by simpa using hp
    have hv : wordB s = false := by unfold wordB; rw [hp']; rfl
    rw [hv]
    rw [hp'] at HP
    clear hp hp' hv
    go_enter Tryz.func16, Tryz.ntmps16
    go_wp2_with fail
    refine (HP.out _).mono ?_; rintro e w1 ⟨rfl, rfl⟩
    go_wp2_with fail
    go_ret
    exact ⟨rfl, rfl⟩
end Go.Proofs.YtcdjkbgedmehjaaGreatDoor
namespace Go.Proofs.YtcdjkbgedmehjaaGreatDoor
set_option linter.unusedVariables false
open Go.RowKit Go.Sort

/-! # the document's Dec -/
theorem tmod10 (n : Nat) : (n : Int).tmod 10 = ((n % 10 : Nat) : Int) := by
  rw [Int.tmod_eq_emod_of_nonneg (by omega)]; omega
theorem tdiv10 (n : Nat) : (n : Int).tdiv 10 = ((n / 10 : Nat) : Int) := by
  rw [Int.tdiv_eq_ediv_of_nonneg (by omega)]; omega
theorem dec_lo (n : Nat) (h : n < 10) : Lib.decDigits n = [UInt8.ofNat (48 + n)] := by rw [Lib.decDigits, dif_pos h]
theorem dec_hi (n : Nat) (h : ¬ n < 10) : Lib.decDigits n = Lib.decDigits (n / 10) ++ [UInt8.ofNat (48 + n % 10)] := by rw [Lib.decDigits, dif_neg h]
set_option maxRecDepth 100000 in
set_option maxHeartbeats 4000000 in
theorem dec_any (n : Nat) (hn : n ≤ 1000000) (w : World) : Calls Tryz.prog 38 #[.int .i64 n] w fun e w' => e = .returned (.string (bstr (Lib.itoa (n : Int)))) ∧ Below w.heap.size w w' := by
  have hit : Lib.itoa (n : Int) = Lib.decDigits n := Lib.itoa_nonneg n
  have HIT := Lib.hid hit
  have HW := Lib.hid (Below.refl w.heap.size w)
  generalize hB : w.heap.size = B at *
  clear hit
  go_enter Tryz.func38, Tryz.ntmps38
  go_wp2_with fail
  go_loopw [0, 3] (fun x s wr => ∃ (m : Nat) (l : List UInt8), x = .int .i64 m ∧ s = .string (bstr l) ∧ Lib.decDigits n = Lib.decDigits m ++ l ∧ m + l.length ≤ n ∧ Below B w wr ∧ B ≤ wr.heap.size) (fun x s _ => (intOf x).toNat)
  case atStart => exact ⟨n, [], rfl, rfl, by simp, by simp, HW.out, by omega⟩
  case round =>
    obtain ⟨m, l, rfl, rfl, hd, hml, hb, hB2⟩ := hrel
    have hbig : ¬ 9223372036854775807 < 1 + (bstr l).size := by rw [bstr_size]; omega
    have hbig2 : ¬ (9223372036854775807 : Int) < 1 + ((bstr l).size : Int) := by rw [bstr_size]; omega
    by_cases h9 : (9 : Int) < m
    · have hm9 : ¬ m < 10 := by omega
      have hr94 : m % 10 < 10 := by omega
      have h1 := tmod10 m
      have h2 := tdiv10 m
      have hd' := Lib.hid hd
      clear hd
      obtain ⟨r, hr⟩ : ∃ r, m % 10 = r := ⟨_, rfl⟩
      rw [hr] at h1 hr94
      have hw2 : IntKind.i64.wrap (r : Int) = (r : Int) := i64_of (by omega)
      have hw3 : IntKind.i64.wrap (48 + (r : Int)) = 48 + (r : Int) := i64_of (by omega)
      have hw4 : IntKind.u8.wrap (48 + (r : Int)) = 48 + (r : Int) := IntWalk.u8_in _ (by omega)
      have hw5 : IntKind.i64.wrap ((m / 10 : Nat) : Int) = ((m / 10 : Nat) : Int) := i64_of (by omega)
      have hrun := fun w => run_one (w := w) (48 + (r : Int)) (UInt8.ofNat (48 + r)) (by simp only [UInt8.toNat_ofNat']; omega)
      have hs1 : (bstr [UInt8.ofNat (48 + r)]).size = 1 := by rw [bstr_size]; rfl
      have happ := Lib.hid (bstr_app [UInt8.ofNat (48 + r)] l)
      have HR := Lib.hid hr
      clear hr
      generalize hA : bstr [UInt8.ofNat (48 + r)] = A at *
      generalize hX : bstr l = X at *
      generalize hq : m / 10 = q at *
      have HQ := Lib.hid (show q + (l.length + 1) ≤ n by omega)
      have HM := Lib.hid (show q < m by omega)
      have hs3 : ¬ (9223372036854775807 : Int) < (A.size : Int) + (X.size : Int) := by omega
      have hs4 : ¬ 9223372036854775807 < A.size + X.size := by omega
      have HB' := Lib.hid (hb.trans (Below.new wr (.cells #[.int .u8 (48 + (r : Int))] 5) |>.mono hB2))
      have HM9 := Lib.hid hm9
      clear hm9 hs1 hr94 hb
      go_wp2_with fail
      all_goals try (exfalso; omega)
      go_round
      case rel => exact ⟨q, UInt8.ofNat (48 + r) :: l, rfl, congrArg _ happ.out, by rw [hd'.out, dec_hi m HM9.out, HR.out, hq]; simp, HQ.out, HB'.out, by simp; omega⟩
      case measure => have := HM.out; simp [intOf]; omega
    · have hm9 : m < 10 := by omega
      have hw3 : IntKind.i64.wrap (48 + (m : Int)) = 48 + (m : Int) := i64_of (by omega)
      have hw4 : IntKind.u8.wrap (48 + (m : Int)) = 48 + (m : Int) := IntWalk.u8_in _ (by omega)
      have hrun := fun w => run_one (w := w) (48 + (m : Int)) (UInt8.ofNat (48 + m)) (by simp only [UInt8.toNat_ofNat']; omega)
      have hs1 : (bstr [UInt8.ofNat (48 + m)]).size = 1 := by rw [bstr_size]; rfl
      have happ := Lib.hid ((bstr_app [UInt8.ofNat (48 + m)] l).trans (congrArg bstr (show [UInt8.ofNat (48 + m)] ++ l = Lib.itoa (n : Int) by rw [HIT.out, hd, dec_lo m hm9])))
      generalize bstr [UInt8.ofNat (48 + m)] = A at *
      generalize bstr l = X at *
      have hs3 : ¬ (9223372036854775807 : Int) < (A.size : Int) + (X.size : Int) := by omega
      have hs4 : ¬ 9223372036854775807 < A.size + X.size := by omega
      have HB' := Lib.hid (hb.trans (Below.new wr (.cells #[.int .u8 (48 + (m : Int))] 5) |>.mono hB2))
      clear hd hml hs1 hb hm9
      go_wp2_with fail
      all_goals try (exfalso; omega)
      go_ret
      exact ⟨congrArg (fun b => Ending.returned (Value.string b)) happ.out, HB'.out⟩
end Go.Proofs.YtcdjkbgedmehjaaGreatDoor
namespace Go.Proofs.YtcdjkbgedmehjaaGreatDoor
set_option linter.unusedVariables false
open Go.RowKit Go.Sort

/-! # a trace that is built: its box, its rows, and what its rows hold -/
inductive GK where | vars | vals | row (i : Nat)
deriving DecidableEq
/-- what a row's element says of the world, and the blocks that it reads -/
structure EL where
  F : World → Prop
  bl : List Nat
  keep : ∀ w w' : World, F w → (∀ g ∈ bl, w'.heap[g]? = w.heap[g]?) → F w'
def nilR : RowV := (.slice none 0 0, 0, [])
def GR (vr : RowV) (tv : Value) (rows : List RowV) (cur : RowV) : GK → RowV
  | .vars => vr
  | .vals => (tv, rows.length, rows.map (·.1))
  | .row i => if i = rows.length then cur else rows.getD i nilR
structure MG (kt ks : GK → Nat) (base b : Nat) (w : World) (R : GK → RowV) (els : List EL) : Prop where
  mem : Mem kt ks base b w R
  el : ∀ e ∈ els, e.F w ∧ ∀ g ∈ e.bl, (base ≤ g ∧ g < w.heap.size) ∧ g ≠ b ∧ ∀ q, (R q).1.ownBlock ≠ some g
section
variable {kt ks : GK → Nat} {base b : Nat} {w w1 w' : World} {R R' : GK → RowV} {els : List EL}
theorem MG.below (h : MG kt ks base b w R els) (hb : Below w.heap.size w w') : MG kt ks base b w' R els :=
  ⟨h.mem.below hb, fun e he => by
    obtain ⟨a, c⟩ := h.el e he
    exact ⟨e.keep _ _ a fun g hg => hb.block g (c g hg).1.2, fun g hg => ⟨⟨(c g hg).1.1, Nat.lt_of_lt_of_le (c g hg).1.2 hb.size⟩, (c g hg).2⟩⟩⟩
theorem MG.app (h : MG kt ks base b w R els) (q : GK) {v' : Value} {n : Nat} {xs : List Value} (ha : AppR base (kt q) (ks q) w (R q).1 n xs v' w1) : MG kt ks base b w1 (upd R q (v', n, xs)) els := by
  refine ⟨h.mem.app q ha, fun e he => ?_⟩
  obtain ⟨a, c⟩ := h.el e he
  refine ⟨e.keep _ _ a fun g hg => ha.grown.block g (c g hg).1.2 (Ne.symm ((c g hg).2.2 q)), fun g hg => ⟨⟨(c g hg).1.1, Nat.lt_of_lt_of_le (c g hg).1.2 ha.grown.size⟩, (c g hg).2.1, fun k e' => ?_⟩⟩
  by_cases hk : k = q
  · subst hk
    rw [upd_same] at e'
    rcases ha.at_ with e2 | e2
    · rw [e2] at e'; exact (c g hg).2.2 k e'
    · rw [e2] at e'; cases e'; exact absurd (c _ hg).1.2 (Nat.lt_irrefl _)
  · rw [upd_other _ _ hk] at e'; exact (c g hg).2.2 k e'
theorem MG.box (h : MG kt ks base b w R els) (i : Nat) (u : Value) : MG kt ks base b (w.setCell ⟨b, i, none⟩ u) R els := by
  refine ⟨h.mem.keep (by simp) fun q g hg => Below.heap_setCell _ _ _ _ (fun e => h.mem.nb q (by rw [hg, e])), fun e he => ?_⟩
  obtain ⟨a, c⟩ := h.el e he
  exact ⟨e.keep _ _ a fun g hg => Below.heap_setCell _ _ _ _ (c g hg).2.1, fun g hg => ⟨⟨(c g hg).1.1, by simpa using (c g hg).1.2⟩, (c g hg).2⟩⟩
theorem MG.more (h : MG kt ks base b w R els) (e : EL) (hb : Below w.heap.size w w') (hF : e.F w') (hbl : ∀ g ∈ e.bl, g < w'.heap.size ∧ w.heap.size ≤ g) : MG kt ks base b w' R (els ++ [e]) := by
  have h' := h.below hb
  refine ⟨h'.mem, fun x hx => ?_⟩
  rcases List.mem_append.1 hx with hx | hx
  · exact h'.el x hx
  · simp only [List.mem_cons, List.not_mem_nil, or_false] at hx
    subst hx
    refine ⟨hF, fun g hg => ⟨⟨?_, (hbl g hg).1⟩, ?_⟩⟩
    · have := h.mem.hb; have := h.mem.lt; have := (hbl g hg).2; omega
    · have hge := (hbl g hg).2
      exact ⟨by have := h.mem.lt; omega, fun q e' => by have := (h.mem.lts q g e').2; omega⟩
end
theorem GR_vars (vr vr' : RowV) (tv : Value) (rows : List RowV) (cur : RowV) : upd (GR vr tv rows cur) .vars vr' = GR vr' tv rows cur := by funext q; cases q <;> simp [upd, GR]
theorem GR_cur (vr : RowV) (tv : Value) (rows : List RowV) (cur cur' : RowV) : upd (GR vr tv rows cur) (.row rows.length) cur' = GR vr tv rows cur' := by
  funext q
  cases q with
  | vars => simp [upd, GR]
  | vals => simp [upd, GR]
  | row i => by_cases h : i = rows.length <;> simp [upd, GR, h]
theorem GR_push (vr : RowV) (tv tv' : Value) (rows : List RowV) (cur : RowV) : upd (GR vr tv rows cur) .vals (tv', rows.length + 1, rows.map (·.1) ++ [cur.1]) = GR vr tv' (rows ++ [cur]) nilR := by
  funext q
  cases q with
  | vars => simp [upd, GR]
  | vals => simp [upd, GR]
  | row i =>
    simp only [upd, GR, List.length_append, List.length_cons, List.length_nil]
    rw [if_neg (by simp)]
    by_cases h : i = rows.length
    · rw [if_pos h, if_neg (by omega), List.getD_eq_getElem?_getD, List.getElem?_append_right (by omega), show i - rows.length = 0 by omega]; rfl
    · rw [if_neg h]
      by_cases h2 : i = rows.length + 1
      · rw [if_pos (by omega), List.getD_eq_getElem?_getD, List.getElem?_eq_none (by omega)]; rfl
      · rw [if_neg (by omega), List.getD_eq_getElem?_getD, List.getD_eq_getElem?_getD]
        by_cases h3 : i < rows.length
        · rw [List.getElem?_append_left h3]
        · rw [List.getElem?_eq_none (by omega), List.getElem?_eq_none (by simp; omega)]
/-- what the loops keep -/
structure LG (kt ks : GK → Nat) (TT : Nat) (top : Value) (BT : Nat) (W1 w : World) (vr : RowV) (tv : Value) (rows : List RowV) (cur : RowV) (els : List EL) : Prop where
  m : MG kt ks BT BT w (GR vr tv rows cur) els
  blk : Blk w BT TT [top, vr.1, tv]
  bel : Below BT W1 w
section
variable {kt ks : GK → Nat} {TT BT : Nat} {top : Value} {W1 w w1 w' : World} {vr cur : RowV} {tv : Value} {rows : List RowV} {els : List EL}
theorem LG.ge (h : LG kt ks TT top BT W1 w vr tv rows cur els) : BT ≤ w.heap.size := Nat.le_of_lt h.blk.lt
theorem LG.below (h : LG kt ks TT top BT W1 w vr tv rows cur els) (hb : Below w.heap.size w w') : LG kt ks TT top BT W1 w' vr tv rows cur els :=
  ⟨h.m.below hb, h.blk.next hb, h.bel.trans (hb.mono h.ge)⟩
theorem LG.keepB (h : LG kt ks TT top BT W1 w vr tv rows cur els) (q : GK) {v' : Value} {n : Nat} {xs : List Value} {e size : Nat} (ha : AppR BT e size w (GR vr tv rows cur q).1 n xs v' w1) : w1.heap[BT]? = w.heap[BT]? := ha.grown.block BT h.blk.lt (Ne.symm (h.m.mem.nb q))
theorem LG.fld (h : LG kt ks TT top BT W1 w vr tv rows cur els) (q : GK) {v' : Value} {n : Nat} {xs : List Value} (ha : AppR BT (kt q) (ks q) w (GR vr tv rows cur q).1 n xs v' w1) (i : Nat) :
    MG kt ks BT BT (w1.setCell ⟨BT, i, none⟩ v') (upd (GR vr tv rows cur) q (v', n, xs)) els ∧ Blk (w1.setCell ⟨BT, i, none⟩ v') BT TT ([top, vr.1, tv].set i v') ∧ Below BT W1 (w1.setCell ⟨BT, i, none⟩ v') := by
  have hm := (h.m.app q ha).box i v'
  have hbb := h.keepB q ha
  have hB : Blk w1 BT TT [top, vr.1, tv] := by have := h.blk; unfold Blk at this ⊢; rw [hbb]; exact this
  exact ⟨hm, hB.set i v', (ha.below h.bel h.ge (fun g hg => (h.m.mem.lts q g hg).1)).setCell (show BT ≤ (⟨BT, i, none⟩ : Addr).block from Nat.le_refl _) v'⟩
theorem LG.appV (h : LG kt ks TT top BT W1 w vr tv rows cur els) {v' : Value} {n : Nat} {xs : List Value} (ha : AppR BT (kt .vars) (ks .vars) w vr.1 n xs v' w1) : LG kt ks TT top BT W1 (w1.setCell ⟨BT, 1, none⟩ v') (v', n, xs) tv rows cur els := by
  obtain ⟨a, b, c⟩ := h.fld .vars ha 1
  rw [GR_vars] at a
  exact ⟨a, b, c⟩
theorem LG.push (h : LG kt ks TT top BT W1 w vr tv rows cur els) {v' : Value} (ha : AppR BT (kt .vals) (ks .vals) w tv (rows.length + 1) (rows.map (·.1) ++ [cur.1]) v' w1) : LG kt ks TT top BT W1 (w1.setCell ⟨BT, 2, none⟩ v') vr v' (rows ++ [cur]) nilR els := by
  obtain ⟨a, b, c⟩ := h.fld .vals ha 2
  rw [GR_push] at a
  exact ⟨a, b, c⟩
theorem LG.appC (h : LG kt ks TT top BT W1 w vr tv rows cur els) {v' : Value} {n : Nat} {xs : List Value} (ha : AppR BT (kt (.row rows.length)) (ks (.row rows.length)) w cur.1 n xs v' w1) : LG kt ks TT top BT W1 w1 vr tv rows (v', n, xs) els := by
  have e : (GR vr tv rows cur (.row rows.length)).1 = cur.1 := by simp [GR]
  rw [← e] at ha
  have hm := h.m.app (.row rows.length) ha
  rw [GR_cur] at hm
  have hbb := h.keepB _ ha
  exact ⟨hm, by have := h.blk; unfold Blk at this ⊢; rw [hbb]; exact this, ha.below h.bel h.ge (fun g hg => (h.m.mem.lts _ g hg).1)⟩
theorem LG.more (h : LG kt ks TT top BT W1 w vr tv rows cur els) (e : EL) (hb : Below w.heap.size w w') (hF : e.F w') (hbl : ∀ g ∈ e.bl, w.heap.size ≤ g ∧ g < w'.heap.size) : LG kt ks TT top BT W1 w' vr tv rows cur (els ++ [e]) :=
  ⟨h.m.more e hb hF fun g hg => ⟨(hbl g hg).2, (hbl g hg).1⟩, h.blk.next hb, h.bel.trans (hb.mono h.ge)⟩
theorem LG.zero (hk : Blk w BT TT [top, .slice none 0 0, .slice none 0 0]) (hb : Below BT W1 w) : LG kt ks TT top BT W1 w nilR (.slice none 0 0) [] nilR [] := by
  have hnil : ∀ q, GR nilR (.slice none 0 0) [] nilR q = nilR := fun q => by
    cases q with
    | vars => rfl
    | vals => rfl
    | row i => simp [GR]
  exact ⟨⟨⟨fun q => (by rw [hnil q]; exact World.ownsRow_nil _ _ _ _), fun q q' _ g hg => (by rw [hnil q] at hg; cases hg), fun q => (by rw [hnil q]; intro e; cases e), Nat.le_refl _, hk.lt⟩, fun e he => (by simp at he)⟩, hk, hb⟩
theorem LG.varsO (h : LG kt ks TT top BT W1 w vr tv rows cur els) : w.ownsRow BT (kt .vars) (ks .vars) vr.1 vr.2.1 vr.2.2 := h.m.mem.own .vars
theorem LG.valsO (h : LG kt ks TT top BT W1 w vr tv rows cur els) : w.ownsRow BT (kt .vals) (ks .vals) tv rows.length (rows.map (·.1)) := h.m.mem.own .vals
theorem LG.curO (h : LG kt ks TT top BT W1 w vr tv rows cur els) : w.ownsRow BT (kt (.row rows.length)) (ks (.row rows.length)) cur.1 cur.2.1 cur.2.2 := by
  have := h.m.mem.own (.row rows.length)
  simpa [GR] using this
theorem LG.rowO (h : LG kt ks TT top BT W1 w vr tv rows cur els) {i : Nat} {r : RowV} (hr : rows[i]? = some r) : w.ownsRow BT (kt (.row i)) (ks (.row i)) r.1 r.2.1 r.2.2 := by
  have := h.m.mem.own (.row i)
  have hi : i < rows.length := (List.getElem?_eq_some_iff.1 hr).1
  have e : GR vr tv rows cur (.row i) = r := by
    show (if i = rows.length then cur else rows.getD i nilR) = r
    rw [if_neg (by omega), List.getD_eq_getElem?_getD, hr]; rfl
  rw [e] at this
  exact this
end
end Go.Proofs.YtcdjkbgedmehjaaGreatDoor
namespace Go.Proofs.YtcdjkbgedmehjaaGreatDoor
set_option linter.unusedVariables false
open Go.RowKit Go.Sort

/-! # the document's traces: plain, and in memory -/
structure Trf where
  top : Bs
  vars : List (Bs × Int)
  rows : List (List (List Bool))
def icells (l : List (Bs × Int)) : List Value := (l.map fun t => [Value.string (bstr t.1), .int .i64 t.2]).flatten
theorem icells_len (l : List (Bs × Int)) : (icells l).length = l.length * 2 := by
  induction l with
  | nil => rfl
  | cons a l ih => show (_ :: _ :: icells l).length = _; simp only [List.length_cons, ih]; omega
theorem icells_snoc (l : List (Bs × Int)) (x : Bs × Int) : icells l ++ [.string (bstr x.1), .int .i64 x.2] = icells (l ++ [x]) := by simp [icells]
theorem icells_at : ∀ (l : List (Bs × Int)) (i : Nat) (t : Bs × Int), l[i]? = some t → (icells l)[i * 2]? = some (.string (bstr t.1)) ∧ (icells l)[i * 2 + 1]? = some (.int .i64 t.2)
  | [], i, t, h => by simp at h
  | x :: l, 0, t, h => by simp only [List.getElem?_cons_zero, Option.some.injEq] at h; subst h; exact ⟨rfl, rfl⟩
  | x :: l, i + 1, t, h => by
    have ih := icells_at l i t (by simpa using h)
    have e : icells (x :: l) = [.string (bstr x.1), .int .i64 x.2] ++ icells l := by simp [icells]
    rw [e]
    refine ⟨?_, ?_⟩
    · rw [List.getElem?_append_right (by simp; omega)]; rw [← ih.1]; congr 1; simp; omega
    · rw [List.getElem?_append_right (by simp; omega)]; rw [← ih.2]; congr 1; simp; omega
/-- a slice of bits that is read -/
structure RB (w : World) (v : Value) (l : List Bool) : Prop where
  ro : RO w v 1 l.length (bools l)
  cap : ∃ p c, v = .slice p l.length c ∧ l.length ≤ c
theorem RB.below {w w' : World} {v : Value} {l : List Bool} (h : RB w v l) (hb : Below w.heap.size w w') : RB w' v l := ⟨h.ro.below hb, h.cap⟩
theorem RB.cut {w : World} {p : Option Addr} {n c k : Nat} {l : List Bool} (h : RB w (.slice p n c) l) (hk : k ≤ n) : RB w (.slice p k c) (l.take k) := by
  obtain ⟨⟨h1, p', c', e, h3⟩, p2, c2, e2, h4⟩ := h
  cases e
  cases e2
  have hl : (l.take k).length = k := by rw [List.length_take]; omega
  refine ⟨⟨by simp [bools], p, c, by rw [hl], fun j u hj => h3 j u ?_⟩, p, c, by rw [hl], by rw [hl]; omega⟩
  have e : bools l = bools (l.take k) ++ bools (l.drop k) := by
    unfold bools
    rw [← List.map_append, List.take_append_drop]
  rw [e, List.getElem?_append_left (List.getElem?_eq_some_iff.1 hj).1]
  exact hj
/-- a row of slices of bits -/
structure RowR (w : World) (r : RowV) (row : List (List Bool)) : Prop where
  n : r.2.1 = row.length
  len : r.2.2.length = row.length
  at_ : ∀ (j : Nat) b l, r.2.2[j]? = some b → row[j]? = some l → RB w b l
theorem RowR.below {w w' : World} {r : RowV} {row : List (List Bool)} (h : RowR w r row) (hb : Below w.heap.size w w') : RowR w' r row := ⟨h.n, h.len, fun j b l h1 h2 => (h.at_ j b l h1 h2).below hb⟩
theorem RowR.nil (w : World) : RowR w nilR [] := ⟨rfl, rfl, fun j b l h => by simp [nilR] at h⟩
theorem RowR.snoc {w : World} {r : RowV} {row : List (List Bool)} (h : RowR w r row) {v b : Value} {l : List Bool} (hb : RB w b l) : RowR w (v, r.2.1 + 1, r.2.2 ++ [b]) (row ++ [l]) := by
  refine ⟨by simp [h.n], by simp [h.len], fun j b' l' h1 h2 => ?_⟩
  have hlen := h.len
  by_cases hj : j < row.length
  · exact h.at_ j b' l' (by rw [List.getElem?_append_left (by omega)] at h1; exact h1) (by rw [List.getElem?_append_left hj] at h2; exact h2)
  · rw [List.getElem?_append_right (by omega)] at h1 h2
    rw [hlen] at h1
    by_cases h0 : j - row.length = 0
    · rw [h0] at h1 h2; cases h1; cases h2; exact hb
    · obtain ⟨k, hk⟩ : ∃ k, j - row.length = k + 1 := ⟨j - row.length - 1, by omega⟩
      rw [hk] at h1; simp at h1
/-- a trace of the document's, in memory, read -/
structure RefR (w : World) (tv : Value) (T : Trf) : Prop where
  ex : ∃ (vv rv : Value) (rs : List RowV), tv = .agg #[.string (bstr T.top), vv, rv] ∧ RO w vv 2 T.vars.length (icells T.vars) ∧ RO w rv 1 rs.length (rs.map (·.1)) ∧ rs.length = T.rows.length ∧
    ∀ (i : Nat) (r : RowV) (row : List (List Bool)), rs[i]? = some r → T.rows[i]? = some row → RO w r.1 1 r.2.1 r.2.2 ∧ RowR w r row
theorem RefR.below {w w' : World} {tv : Value} {T : Trf} (h : RefR w tv T) (hb : Below w.heap.size w w') : RefR w' tv T := by
  obtain ⟨vv, rv, rs, h1, h2, h3, h4, h5⟩ := h.ex
  exact ⟨⟨vv, rv, rs, h1, h2.below hb, h3.below hb, h4, fun i r row a c => ⟨(h5 i r row a c).1.below hb, (h5 i r row a c).2.below hb⟩⟩⟩
/-- at most 12 signals and times, 14 values a time, 128 bits a value -/
def fewRow (row : List (List Bool)) : List (List Bool) := (row.take 14).map fun l => l.take 128
def fewT (T : Trf) : Trf := ⟨T.top, T.vars.take 12, (T.rows.take 12).map fewRow⟩
/-- rows that are built, of rows -/
structure RowsR (w : World) (rs : List RowV) (rows : List (List (List Bool))) : Prop where
  len : rs.length = rows.length
  at_ : ∀ (i : Nat) (r : RowV) (row : List (List Bool)), rs[i]? = some r → rows[i]? = some row → RowR w r row
theorem RowsR.nil (w : World) : RowsR w [] [] := ⟨rfl, fun i r row h => by simp at h⟩
theorem RowsR.below {w w' : World} {rs : List RowV} {rows : List (List (List Bool))} (h : RowsR w rs rows) (hb : Below w.heap.size w w') : RowsR w' rs rows := ⟨h.len, fun i r row a c => (h.at_ i r row a c).below hb⟩
theorem RowsR.snoc {w : World} {rs : List RowV} {rows : List (List (List Bool))} (h : RowsR w rs rows) {r : RowV} {row : List (List Bool)} (hr : RowR w r row) : RowsR w (rs ++ [r]) (rows ++ [row]) := by
  refine ⟨by simp [h.len], fun j r' row' h1 h2 => ?_⟩
  have hlen := h.len
  by_cases hj : j < rows.length
  · exact h.at_ j r' row' (by rw [List.getElem?_append_left (by omega)] at h1; exact h1) (by rw [List.getElem?_append_left hj] at h2; exact h2)
  · rw [List.getElem?_append_right (by omega)] at h1 h2
    rw [hlen] at h1
    by_cases h0 : j - rows.length = 0
    · rw [h0] at h1 h2; cases h1; cases h2; exact hr
    · obtain ⟨k, hk⟩ : ∃ k, j - rows.length = k + 1 := ⟨j - rows.length - 1, by omega⟩
      rw [hk] at h1; simp at h1
/-- the cells of a document's trace -/
def fkt : GK → Nat
  | .vars => 53
  | .vals => 54
  | .row _ => 55
def fks : GK → Nat
  | .vars => 2
  | .vals => 1
  | .row _ => 1
theorem LG.ref {BT : Nat} {W1 w : World} {top vv tv : Value} {tp : Bs} {vs : List (Bs × Int)} {rs : List RowV} {cur : RowV} {els : List EL} {rows : List (List (List Bool))} (h : LG fkt fks 25 top BT W1 w (vv, vs.length, icells vs) tv rs cur els) (ht : top = .string (bstr tp)) (hr : RowsR w rs rows) : RefR w (.agg #[top, vv, tv]) ⟨tp, vs, rows⟩ := by
  subst ht
  exact ⟨⟨vv, tv, rs, rfl, RO.own h.varsO, RO.own h.valsO, hr.len, fun i r row a c => ⟨RO.own (h.rowO a), hr.at_ i r row a c⟩⟩⟩
theorem FVars : SlTy Tryz.prog 22 53 2 24 (.agg #[.string ⟨#[]⟩, .int .i64 0]) := SlTy.of Tryz.underlying22 (by kernel_rfl) rfl (by decide)
theorem FRows : SlTy Tryz.prog 23 54 1 24 (.slice none 0 0) := SlTy.of Tryz.underlying23 (by kernel_rfl) rfl (by decide)
theorem FRow : SlTy Tryz.prog 54 55 1 24 (.slice none 0 0) := SlTy.of Tryz.underlying54 (by kernel_rfl) rfl (by decide)
end Go.Proofs.YtcdjkbgedmehjaaGreatDoor
