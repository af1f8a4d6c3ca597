/- Texts of this claim, one behind another: E29. They state lemmas; each names its own conditions. -/
import Derived.Test.YtleipnipohpkoaaDoorZG
namespace Go.Proofs.YtleipnipohpkoaaDoor
set_option linter.unusedVariables false
open Go.RowKit Go.Maps

/-! # PrePlain, the walk -/
def cutTo (n : Nat) (b : ByteArray) : ByteArray := if n < b.size then b.extract 0 n else b
theorem cutTo_size (n : Nat) (b : ByteArray) : (cutTo n b).size ≤ n := by
  unfold cutTo
  split
  · rw [ByteArray.size_extract]; omega
  · omega
theorem bstr_data (b : ByteArray) : bstr b.data.toList = b := by apply ByteArray.ext; simp [bstr]
def freeB (b : UInt8) : Bool := b != 96 && b != 47
def freeTo (T : Bs) (i : Nat) : Bool := (T.take i).all freeB
theorem freeTo_succ (T : Bs) (i : Nat) (h : i < T.length) : freeTo T (i + 1) = (freeTo T i && freeB (T.getD i 0)) := by
  unfold freeTo
  rw [List.take_succ_eq_append_getElem h, List.all_append]
  simp [List.getD, List.getElem?_eq_getElem h]
theorem free_all {T : Bs} (h : freeTo T T.length = true) : ∀ b ∈ T, b ≠ 47 ∧ b ≠ 96 := by
  unfold freeTo at h
  rw [List.take_length, List.all_eq_true] at h
  intro b hb
  have := h b hb
  unfold freeB at this
  simp at this
  exact ⟨this.2, this.1⟩
theorem ro_two {w : World} {b : Nat} {t : TypeId} (n1 t1 n2 t2 : ByteArray) (h : Blk w b t [.string n1, .string t1, .string n2, .string t2]) : RO w (.slice (some ⟨b, 0, none⟩) 2 2) 2 [(⟨n1, t1⟩ : Fil), ⟨n2, t2⟩].length (filCells [⟨n1, t1⟩, ⟨n2, t2⟩]) := by
  refine ⟨rfl, _, _, rfl, fun j u hj => ⟨b, 0, rfl, ?_⟩⟩
  rw [Nat.zero_add]
  match j, hj with
  | 0, hj => exact (h.cell (i := 0) rfl).trans hj
  | 1, hj => exact (h.cell (i := 1) rfl).trans hj
  | 2, hj => exact (h.cell (i := 2) rfl).trans hj
  | 3, hj => exact (h.cell (i := 3) rfl).trans hj
theorem err_two (n1 n2 : Bs) (t1 t2 : ByteArray) (h1 : isName (bstr n1) = true) (h2 : isName (bstr n2) = true) (hne : n1 ≠ n2) (ht : t1.size + t2.size ≤ 32768) : NewErr [⟨bstr n1, t1⟩, ⟨bstr n2, t2⟩] 0 := by
  refine .inr (.inr (.inr (.inr ⟨by simp, ?_, ?_, by simpa [total] using ht, rfl⟩)))
  · rintro ⟨i, hi, h⟩
    match i, hi with
    | 0, _ => exact absurd h (by show isName (bstr n1) ≠ false; rw [h1]; simp)
    | 1, _ => exact absurd h (by show isName (bstr n2) ≠ false; rw [h2]; simp)
  · rintro ⟨i, j, hj, hi, h⟩
    obtain ⟨rfl, rfl⟩ : i = 1 ∧ j = 0 := by simp at hi; omega
    have h' : sameS (bstr n1) (bstr n2) = true := h
    rw [sameS_bstr] at h'
    exact hne (of_decide_eq_true h').symm
def deepTx : ByteArray := ⟨#[96, 100, 101, 102, 105, 110, 101, 32, 88, 32, 96, 88, 10, 96, 88, 10]⟩
set_option maxRecDepth 100000 in
theorem deepOut : (expandP (textsOf [⟨bstr [109], deepTx⟩]) (fun b => if b = [109] then 1 else 0) [109]).2.2 = 8 := by kernel_rfl
set_option maxRecDepth 100000 in
set_option maxHeartbeats 8000000 in
theorem plain_law {w : World} (hMax : Max w) (tx ag : ByteArray) : Calls Tryd.prog 3 #[.string tx, .string ag] w fun e w' => e = .returned (.bool true) ∧ Below w.heap.size w w' := by
  have HA := Lib.hid (awake_pre hMax)
  have HMax := Lib.hid hMax
  clear hMax
  go_enter Tryd.func3, Tryd.ntmps3
  go_wp2_with fail
  refine HA.out.mono ?_; rintro e w1 ⟨rfl, hb1⟩
  have H1 := Lib.hid hb1
  clear hb1 HA
  go_upto_if 17 with fail
  go_cut [0] from 13 (fun v0 wx => v0 = .string (cutTo 600 tx) ∧ wx = w1)
  case first =>
    by_cases h6 : 600 < tx.size
    · have h6i : (600 : Int) < (tx.size : Int) := by omega
      have h6j : (600 : Int) ≤ (tx.size : Int) := by omega
      have hc : cutTo 600 tx = tx.extract 0 600 := by unfold cutTo; rw [if_pos h6]
      clear h6
      go_wp2_with fail
      go_meet
      exact ⟨by rw [hc], rfl⟩
    · have h6i : ¬ (600 : Int) < (tx.size : Int) := by omega
      have hc : cutTo 600 tx = tx := by unfold cutTo; rw [if_neg h6]
      clear h6
      go_wp2_with fail
      go_meet
      exact ⟨by rw [hc], rfl⟩
  case rest =>
    obtain ⟨rfl, rfl⟩ := hcut
    have hsz := cutTo_size 600 tx
    generalize cutTo 600 tx = TX at *
    have HSz := Lib.hid hsz
    obtain ⟨T, hT⟩ : ∃ T, TX.data.toList = T := ⟨_, rfl⟩
    have hTl : T.length = TX.size := by rw [← hT]; simp
    have hat : ∀ k (h : k < TX.size), TX[k] = T.getD k 0 := by
      intro k h
      have e := bstr_data TX
      rw [hT] at e
      subst e
      exact bstr_at T k h
    have HT := Lib.hid (And.intro hT (And.intro hTl hat))
    clear hsz hT hTl hat
    go_wp2_with fail
    go_loopw [5, 22] (fun fv iv wr => ∃ i : Nat, fv = .bool (freeTo T i) ∧ iv = .int .i64 i ∧ wr = wc ∧ i ≤ T.length) (fun _ iv _ => T.length - (intOf iv).toNat)
    case atStart => exact ⟨0, rfl, rfl, rfl, Nat.zero_le _⟩
    case round =>
      obtain ⟨i, rfl, rfl, hwr, hil⟩ := hrel
      obtain rfl : wr = wc := hwr
      have hiw : IntKind.i64.wrap ((i : Int) + 1) = (i : Int) + 1 := i64_of (by have := HT.out.2.1; have := HSz.out; omega)
      obtain ⟨fr, hfr⟩ : ∃ fr, freeTo T i = fr := ⟨_, rfl⟩
      rw [hfr]
      by_cases hi : i < T.length
      · have hii : (i : Int) < (TX.size : Int) := by have := HT.out.2.1; omega
        obtain ⟨cb, hcb⟩ : ∃ cb, T.getD i 0 = cb := ⟨_, rfl⟩
        have hatb : ∀ h : i < TX.size, TX[i] = cb := by intro h; rw [← hcb]; exact HT.out.2.2 i h
        have hsucc := freeTo_succ T i hi
        rw [hfr, hcb] at hsucc
        have HI := Lib.hid (And.intro hi hsucc)
        clear hi hsucc hcb hfr hil
        by_cases h96 : cb = 96
        · subst h96
          go_wp2_with fail
          go_round
          case rel => exact ⟨i + 1, by rw [HI.out.2]; cases fr <;> rfl, rfl, by first | rfl | trivial, HI.out.1⟩
          case measure =>
            have := HI.out.1
            show T.length - ((i : Int) + 1).toNat < T.length - (i : Int).toNat
            omega
        · have hc96 : (((cb.toNat : Nat) : Int) == 96) = false := by
            have : cb.toNat ≠ 96 := fun e => h96 (UInt8.toNat_inj.1 e)
            simp; omega
          by_cases h47 : cb = 47
          · subst h47
            go_wp2_with fail
            go_round
            case rel => exact ⟨i + 1, by rw [HI.out.2]; cases fr <;> rfl, rfl, by first | rfl | trivial, HI.out.1⟩
            case measure =>
              have := HI.out.1
              show T.length - ((i : Int) + 1).toNat < T.length - (i : Int).toNat
              omega
          · have hc47 : (((cb.toNat : Nat) : Int) == 47) = false := by
              have : cb.toNat ≠ 47 := fun e => h47 (UInt8.toNat_inj.1 e)
              simp; omega
            have hfb : freeB cb = true := by unfold freeB; simp [h96, h47]
            have HFb := Lib.hid hfb
            clear h96 h47 hfb
            go_wp2_with fail
            go_round
            case rel => exact ⟨i + 1, by rw [HI.out.2, HFb.out, Bool.and_true], rfl, by first | rfl | trivial, HI.out.1⟩
            case measure =>
              have := HI.out.1
              show T.length - ((i : Int) + 1).toNat < T.length - (i : Int).toNat
              omega
      · have hii : ¬ (i : Int) < (TX.size : Int) := by have := HT.out.2.1; omega
        obtain rfl : i = T.length := by omega
        have HFr := Lib.hid hfr
        clear hi hil hiw hfr
        have hbA := Below.new wr (.cells #[.string (bstr [109]), .string TX] 28)
        have HE1 := Lib.hid (lexp_one (w := wr.alloc (.cells #[.string (bstr [109]), .string TX] 28)) (v := .slice (some ⟨wr.heap.size, 0, none⟩) 1 1) [109] TX (ro_one _ _ (Blk.new 28 _)) (by decide) (by decide) HSz.out (HMax.out.below (Below.next H1.out hbA)) (by decide))
        have HBA := Lib.hid (Below.next H1.out hbA)
        rw [show bstr [109] = ⟨#[109]⟩ from rfl] at HE1 HBA
        clear hbA
        obtain ⟨R1, hR1⟩ : ∃ R1, expandP (textsOf [⟨⟨#[109]⟩, TX⟩]) (fun b => if b = [109] then 1 else 0) [109] = R1 := ⟨_, rfl⟩
        rw [hR1] at HE1
        go_wp2_with fail
        refine HE1.out.mono ?_; rintro e w2 ⟨v1, rfl, ho1, hb2⟩
        obtain ⟨out1, pos1, err1⟩ := R1
        have H2 := Lib.hid (Below.next HBA.out hb2)
        have HO1 := Lib.hid (And.intro hR1 ho1)
        obtain ⟨p1, c1, rfl⟩ := ownsRow_form ho1
        clear hR1 hb2 ho1 HE1 HBA
        go_upto_region 13 with fail
        go_cut [73] from 44 (fun v73 wx => v73 = .bool false ∧ wx = w2)
        case first =>
          cases fr with
          | false =>
            go_wp2_with fail
            go_meet
            exact ⟨rfl, rfl⟩
          | true =>
            have hall := free_all HFr.out
            obtain ⟨out, hE, h0, h1⟩ := expand_free (texts := textsOf [⟨⟨#[109]⟩, TX⟩]) (find := fun b => if b = [109] then 1 else 0) (top := [109]) (text := T) (by simp) HT.out.1 hall (by have := HT.out.2.1; have := HSz.out; omega)
            have hEE := HO1.out.1
            rw [hE] at hEE
            injection hEE with e1 e2
            injection e2 with e2 e3
            subst e1; subst e2; subst e3
            have ho := HO1.out.2
            by_cases hT0 : T = []
            · have ho0 : out = [] := h0 hT0
              subst ho0
              have htl : TX.toList = [] := by rw [ByteArray.toList_eq, HT.out.1]; exact hT0
              have htl2 : TX.toList.isEmpty = true := by rw [htl]; rfl
              clear hall hE h0 h1 ho hT0
              go_wp2_with fail
              go_meet
              exact ⟨rfl, rfl⟩
            · obtain ⟨q, rfl, hq⟩ := h1 hT0
              have htl : ¬ TX.toList = [] := by rw [ByteArray.toList_eq, HT.out.1]; exact hT0
              have htl2 : TX.toList.isEmpty = false := by rw [ByteArray.toList_eq, HT.out.1]; cases hq2 : T with
                | nil => exact absurd hq2 hT0
                | cons _ _ => rfl
              obtain ⟨g, cap, e, _⟩ := ho.form (by simp)
              cases e
              have c0 := ho.cellAt 0 (by simp)
              have hv0 : (outCells [q])[0]? = some (.string TX) := by
                show some (Value.string (bstr q.text)) = _
                rw [hq, ← HT.out.1, bstr_data]
              rw [hv0] at c0
              have heq : (TX.toList == TX.toList) = true := by simp
              clear hall hE h0 h1 ho hT0 hq hv0
              go_wp2_with fail
              go_meet
              exact ⟨rfl, rfl⟩
        case rest =>
          obtain ⟨rfl, rfl⟩ := hcut
          go_upto_if 76 with fail
          go_cut [1] from 77 (fun v1 wx => v1 = .string (cutTo 200 ag) ∧ wx = wc)
          case first =>
            by_cases h6 : 200 < ag.size
            · have h6i : (200 : Int) < (ag.size : Int) := by omega
              have h6j : (200 : Int) ≤ (ag.size : Int) := by omega
              have hc : cutTo 200 ag = ag.extract 0 200 := by unfold cutTo; rw [if_pos h6]
              clear h6
              go_wp2_with fail
              go_meet
              exact ⟨by rw [hc], rfl⟩
            · have h6i : ¬ (200 : Int) < (ag.size : Int) := by omega
              have hc : cutTo 200 ag = ag := by unfold cutTo; rw [if_neg h6]
              clear h6
              go_wp2_with fail
              go_meet
              exact ⟨by rw [hc], rfl⟩
          case rest =>
            obtain ⟨rfl, rfl⟩ := hcut
            have hsz := cutTo_size 200 ag
            generalize cutTo 200 ag = AG at *
            obtain ⟨A, hA⟩ : ∃ A, AG.data.toList = A := ⟨_, rfl⟩
            have hAl : A.length = AG.size := by rw [← hA]; simp
            have hcat : (9223372036854775807 < 13 + AG.size) = False := eq_false (by omega)
            have hbA : bstr A = AG := by rw [← hA]; exact bstr_data AG
            obtain ⟨HD, hHD⟩ : ∃ HD, HD = (⟨#[96, 105, 110, 99, 108, 117, 100, 101, 32, 34, 110, 34, 10]⟩ : ByteArray) := ⟨_, rfl⟩
            obtain ⟨NT, hNT⟩ : ∃ NT, NT = (⟨#[120, 10, 96, 105, 110, 99, 108, 117, 100, 101, 32, 34, 109, 34, 10]⟩ : ByteArray) := ⟨_, rfl⟩
            have hHz : (HD ++ AG).size = 13 + AG.size := by rw [ByteArray.size_append, hHD]; rfl
            have hNz : NT.size = 15 := by rw [hNT]; rfl
            have ht1 : textsOf [⟨bstr [109], HD ++ AG⟩, ⟨bstr [110], NT⟩] 1 = headM ++ A := by
              show (HD ++ AG).data.toList = _
              rw [ByteArray.data_append, Array.toList_append, hA, hHD]; rfl
            have ht2 : textsOf [⟨bstr [109], HD ++ AG⟩, ⟨bstr [110], NT⟩] 2 = textN := by
              show NT.data.toList = _
              rw [hNT]; rfl
            have hbB := Below.new wc (.cells #[.string (bstr [109]), .string (HD ++ AG), .string (bstr [110]), .string NT] 28)
            have hle := lexp_any (w := wc.alloc (.cells #[.string (bstr [109]), .string (HD ++ AG), .string (bstr [110]), .string NT] 28)) (fs := [⟨bstr [109], HD ++ AG⟩, ⟨bstr [110], NT⟩]) (ro_two _ _ _ _ (Blk.new 28 _)) (err_two _ _ _ _ (by decide) (by decide) (by decide) (by rw [hHz, hNz]; omega)) (by simp) (HMax.out.below (Below.next H2.out hbB))
              (fun n => fil_all (p := fun f => f.name.size ≤ 32768) (fun f hf => by
                simp only [List.mem_cons, List.not_mem_nil, or_false] at hf
                rcases hf with rfl | rfl
                · show (bstr [109]).size ≤ _; decide
                · show (bstr [110]).size ≤ _; decide) (by decide) n)
              (fun n => fil_all (p := fun f => f.text.size ≤ 32768) (fun f hf => by
                simp only [List.mem_cons, List.not_mem_nil, or_false] at hf
                rcases hf with rfl | rfl
                · show (HD ++ AG).size ≤ _; rw [hHz]; omega
                · show NT.size ≤ _; rw [hNz]; decide) (by decide) n) [109]
              (Nat.le_trans (cFile_room (q := 21) (by rw [findN_two]; decide) (by decide) (fun n => by
                have := fil_all (fs := [⟨bstr [109], HD ++ AG⟩, ⟨bstr [110], NT⟩]) (p := fun f => f.text.size ≤ 213) (fun f hf => by
                  simp only [List.mem_cons, List.not_mem_nil, or_false] at hf
                  rcases hf with rfl | rfl
                  · show (HD ++ AG).size ≤ _; rw [hHz]; omega
                  · show NT.size ≤ _; rw [hNz]; decide) (by decide) (n - 1)
                unfold textsOf
                simp only [Array.length_toList] at this ⊢
                show Array.size _ + 1 < _
                have h2 : ∀ b : ByteArray, b.data.size = b.size := fun b => rfl
                rw [h2]; omega) 8 _) (by decide))
            rw [findN_two] at hle
            obtain ⟨R2, hR2⟩ : ∃ R2, expandP (textsOf [⟨bstr [109], HD ++ AG⟩, ⟨bstr [110], NT⟩]) (fun b => if b = [109] then 1 else if b = [110] then 2 else 0) [109] = R2 := ⟨_, rfl⟩
            rw [hR2] at hle
            have HE2 := Lib.hid hle
            have HRes : Hid ((∀ b, (plainP A).2 = some b → R2.2.2 = 6) ∧ ((plainP A).2 = none → R2.2.2 = 8)) := Lib.hid ⟨fun b hb => by rw [← hR2]; exact expand_open ht1 rfl hb, fun hb => by rw [← hR2]; exact expand_deep ht1 ht2 rfl rfl hb⟩
            have HBB := Lib.hid (Below.next H2.out hbB)
            have HPl := Lib.hid (fun W' => rplain_any (w := W') A (by omega))
            rw [hbA] at HPl
            rw [hHD, hNT, show bstr [109] = ⟨#[109]⟩ from rfl, show bstr [110] = ⟨#[110]⟩ from rfl] at HE2 HBB
            obtain ⟨out2, pos2, err2⟩ := R2
            clear hsz hA hAl hbA hHD hNT hHz hNz ht1 ht2 hbB hle hR2
            go_wp2_with fail
            refine HE2.out.mono ?_; rintro e w3 ⟨v3, rfl, ho3, hb3⟩
            have H3 := Lib.hid (Below.next HBB.out hb3)
            clear ho3 hb3 HE2 HBB
            go_wp2_with fail
            refine (HPl.out _).mono ?_; rintro e w4 ⟨⟨xp, rfl⟩, rfl⟩
            have hbC := Below.new w3 (.cells #[.string (bstr [109]), .string deepTx] 28)
            have hl3 := lexp_one (w := w3.alloc (.cells #[.string (bstr [109]), .string deepTx] 28)) (v := .slice (some ⟨w3.heap.size, 0, none⟩) 1 1) [109] deepTx (ro_one _ _ (Blk.new 28 _)) (by decide) (by decide) (by decide) (HMax.out.below (Below.next H3.out hbC)) (by decide)
            have hd8 := deepOut
            obtain ⟨R4, hR4⟩ : ∃ R4, expandP (textsOf [⟨bstr [109], deepTx⟩]) (fun b => if b = [109] then 1 else 0) [109] = R4 := ⟨_, rfl⟩
            rw [hR4] at hl3 hd8
            have HE4 := Lib.hid hl3
            have HBC := Lib.hid (Below.next H3.out hbC)
            obtain ⟨out4, pos4, err4⟩ := R4
            obtain rfl : err4 = 8 := hd8
            rw [show bstr [109] = ⟨#[109]⟩ from rfl] at HE4 HBC
            unfold deepTx at HE4 HBC
            clear hbC hl3 hR4
            cases hpl : (plainP A).2 with
            | none =>
              obtain rfl : err2 = 8 := HRes.out.2 hpl
              clear hpl
              unfold badV
              simp only
              go_wp2_with fail
              refine HE4.out.mono ?_; rintro e w5 ⟨v5, rfl, ho5, hb5⟩
              have H5 := Lib.hid (Below.next HBC.out hb5)
              clear ho5 hb5
              go_wp2_with fail
              go_ret
              exact ⟨rfl, H5.out⟩
            | some b =>
              obtain rfl : err2 = 6 := HRes.out.1 b hpl
              have hb0 : (0 : Int) ≤ (b : Int) := by omega
              clear hpl
              unfold badV
              simp only
              go_wp2_with fail
              refine HE4.out.mono ?_; rintro e w5 ⟨v5, rfl, ho5, hb5⟩
              have H5 := Lib.hid (Below.next HBC.out hb5)
              clear ho5 hb5
              go_wp2_with fail
              go_ret
              exact ⟨rfl, H5.out⟩
end Go.Proofs.YtleipnipohpkoaaDoor
