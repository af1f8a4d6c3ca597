/- Texts of this claim, one behind another: W11. They state lemmas; each names its own conditions. -/
import Derived.Test.YtcdjkbgedmehjaaGreatDoorZP
import Derived.Test.YtcdjkbgedmehjaaGreatDoorVR1
import Derived.Test.YtcdjkbgedmehjaaGreatDoorZK
import Derived.Test.YtcdjkbgedmehjaaGreatDoorZJ
namespace Go.Proofs.YtcdjkbgedmehjaaGreatDoor
set_option linter.unusedVariables false
open Go.RowKit Go.Sort

/-! # the document's Write -/
def natT (T : Trf) : Trc := (ownT T).nat
theorem natT_row {T : Trf} {k : Nat} {row : List (List Bool)} (h : T.rows[k]? = some row) : (natT T).rows[k]? = some (row.map fun l => (l.length, valB l)) := by
  show (T.rows.map _)[k]? = _
  rw [List.getElem?_map, h]; rfl
theorem natT_var {T : Trf} {k : Nat} {x : Bs × Int} (h : T.vars[k]? = some x) : (natT T).vars[k]? = some (x.1, x.2.toNat) := by
  show (T.vars.map _)[k]? = _
  rw [List.getElem?_map, h]; rfl
theorem natT_len (T : Trf) : (natT T).vars.length = T.vars.length := by show (T.vars.map _).length = _; simp
theorem natT_rlen (T : Trf) : (natT T).rows.length = T.rows.length := by show (T.rows.map _).length = _; simp
theorem linesW_app (a b : List (List Bs)) : linesW (a ++ b) = linesW a ++ linesW b := by simp [linesW]
theorem txt_0 (top : Bs) : ((⟨#[36, 116, 105, 109, 101, 115, 99, 97, 108, 101, 32, 49, 32, 110, 115, 32, 36, 101, 110, 100, 10, 36, 115, 99, 111, 112, 101, 32, 109, 111, 100, 117, 108, 101, 32]⟩ ++ ⟨top.toArray⟩) ++ ⟨#[32, 36, 101, 110, 100, 10]⟩ : ByteArray) = ⟨(linesW [l1, [kScope, kModule, top, kEnd]]).toArray⟩ := by
  apply bytes_ext
  simp [linesW, lineW, l1, kTs, kOne, kNs, kEnd, kScope, kModule]
theorem txt_v (s : Bs) (i : Nat) (v : Bs × Nat) : (((((((⟨s.toArray⟩ ++ ⟨#[36, 118, 97, 114, 32, 119, 105, 114, 101, 32]⟩) ++ ⟨(Lib.itoa (v.2 : Int)).toArray⟩) ++ ⟨#[32]⟩) ++ ⟨(idL i).toArray⟩) ++ ⟨#[32]⟩) ++ ⟨v.1.toArray⟩) ++ ⟨#[32, 36, 101, 110, 100, 10]⟩ : ByteArray) = ⟨(s ++ lineW (varLine i v)).toArray⟩ := by
  apply bytes_ext
  simp [lineW, varLine, kVar, kWire, kEnd]
theorem txt_e (s : Bs) : (⟨s.toArray⟩ ++ ⟨#[36, 117, 112, 115, 99, 111, 112, 101, 32, 36, 101, 110, 100, 10, 36, 101, 110, 100, 100, 101, 102, 105, 110, 105, 116, 105, 111, 110, 115, 32, 36, 101, 110, 100, 10]⟩ : ByteArray) = ⟨(s ++ linesW [l3, l4]).toArray⟩ := by
  apply bytes_ext
  simp [linesW, lineW, l3, l4, kUp, kEd, kEnd]
theorem txt_n (s : Bs) (n : Nat) : (((⟨s.toArray⟩ ++ ⟨#[35]⟩) ++ ⟨(Lib.itoa (n : Int)).toArray⟩) ++ ⟨#[10]⟩ : ByteArray) = ⟨(s ++ lineW [35 :: Lib.itoa (n : Int)]).toArray⟩ := by
  apply bytes_ext
  simp [lineW]
theorem txt_c (s : Bs) (i : Nat) (v : Nat × Nat) : (((((⟨s.toArray⟩ ++ ⟨#[98]⟩) ++ ⟨(bitL v.1 v.2).toArray⟩) ++ ⟨#[32]⟩) ++ ⟨(idL i).toArray⟩) ++ ⟨#[10]⟩ : ByteArray) = ⟨(s ++ lineW (chOne i v)).toArray⟩ := by
  apply bytes_ext
  simp [lineW, chOne]
theorem textF_bits (l : List Bool) : textF l.length (fun j => l.getD j false) = ⟨(bitL l.length (valB l)).toArray⟩ := by
  unfold textF bitL
  simp only [valB_bit]
theorem rl_all (l : List Bool) : rl l.length (fun j => l.getD j false) = l := by
  refine List.ext_getElem? fun k => ?_
  unfold rl
  rw [List.getElem?_map]
  by_cases hk : k < l.length
  · rw [List.getElem?_range hk, Option.map_some, List.getD_eq_getElem?_getD, List.getElem?_eq_getElem hk]; rfl
  · rw [List.getElem?_eq_none (by simpa using hk), List.getElem?_eq_none (by omega)]; rfl
theorem rb_rl {w : World} {v : Value} {l : List Bool} (h : RB w v l) : RO w v 1 l.length (bools (rl l.length fun j => l.getD j false)) := by
  rw [rl_all]; exact h.ro
def lsV (T : Trf) (i : Nat) : Bs := linesW ([l1, l2 (natT T)] ++ varLines 0 ((natT T).vars.take i))
theorem lsV_len (T : Trf) (i : Nat) (h : (trcText (natT T)).length ≤ 1000000) : ((lsV T i).length : Int) ≤ 1000000 := by
  have := (pre_v (natT T) i).len
  unfold lsV; omega
theorem lsV_succ (T : Trf) (i : Nat) (x : Bs × Int) (h : T.vars[i]? = some x) : lsV T (i + 1) = lsV T i ++ lineW (varLine i (x.1, x.2.toNat)) := by
  unfold lsV
  have hl : ((natT T).vars.take i).length = i := by rw [List.length_take, natT_len]; have := (List.getElem?_eq_some_iff.1 h).1; omega
  have := varLines_snoc ((natT T).vars.take i) 0 (x.1, x.2.toNat)
  rw [hl, Nat.zero_add] at this
  rw [take_snoc' _ i _ (natT_var h), this, ← List.append_assoc, linesW_snoc]
def lsH (T : Trf) (k : Nat) : Bs := linesW (headLines (natT T) ++ rowsTo (natT T).rows k)
theorem lsH_0 (T : Trf) (n : Nat) (h : T.vars.length = n) : lsV T n ++ linesW [l3, l4] = lsH T 0 := by
  unfold lsV lsH
  rw [List.take_of_length_le (by rw [natT_len, h]; exact Nat.le_refl _), ← linesW_app, head_eq]
  simp [rowsTo]
theorem lsH_len (T : Trf) (k : Nat) (hk : k ≤ T.rows.length) (h : (trcText (natT T)).length ≤ 1000000) : ((lsH T k).length : Int) ≤ 1000000 := by
  have := (pre_r (natT T) k (by rw [natT_rlen]; exact hk)).len
  unfold lsH; omega
theorem lsH_all (T : Trf) (m : Nat) (h : T.rows.length = m) : lsH T m = trcText (natT T) := by
  unfold lsH trcText trcLines
  rw [natT_rlen, h]
def lsC (T : Trf) (k j : Nat) : Bs := linesW (headLines (natT T) ++ rowsTo (natT T).rows k ++ [35 :: Lib.itoa (k : Int)] :: chLines 0 (prev (natT T).rows k) (((natT T).rows.getD k []).take j))
theorem lsC_0 (T : Trf) (k : Nat) : lsH T k ++ lineW [35 :: Lib.itoa (k : Int)] = lsC T k 0 := by
  unfold lsH lsC
  rw [← linesW_snoc]
  simp [chLines]
theorem lsC_len (T : Trf) (k j : Nat) (hk : k < T.rows.length) (h : (trcText (natT T)).length ≤ 1000000) : ((lsC T k j).length : Int) ≤ 1000000 := by
  have := (pre_c (natT T) k j (by rw [natT_rlen]; exact hk)).len
  unfold lsC; omega
theorem natT_getD {T : Trf} {k : Nat} {row : List (List Bool)} (h : T.rows[k]? = some row) : (natT T).rows.getD k [] = row.map fun l => (l.length, valB l) := by
  rw [List.getD_eq_getElem?_getD, natT_row h]; rfl
theorem lsC_all (T : Trf) (k n : Nat) (row : List (List Bool)) (h : T.rows[k]? = some row) (hn : row.length = n) : lsC T k n = lsH T (k + 1) := by
  unfold lsC lsH
  rw [natT_getD h, List.take_of_length_le (by simp; omega), rowsTo, rowLines, natT_getD h]
  simp
theorem lsC_succ (T : Trf) (k j : Nat) (row : List (List Bool)) (l : List Bool) (h : T.rows[k]? = some row) (hl : row[j]? = some l) : lsC T k (j + 1) = lsC T k j ++ linesW (chStep (prev (natT T).rows k) j j (l.length, valB l)) := by
  unfold lsC
  rw [natT_getD h]
  have hj : j < row.length := (List.getElem?_eq_some_iff.1 hl).1
  have hlen : ((row.map fun l => (l.length, valB l)).take j).length = j := by rw [List.length_take, List.length_map]; omega
  have := chLines_snoc ((row.map fun l => (l.length, valB l)).take j) 0 (prev (natT T).rows k) (l.length, valB l)
  rw [hlen, Nat.zero_add] at this
  rw [take_snoc' (row.map fun l => (l.length, valB l)) j (l.length, valB l) (by rw [List.getElem?_map, hl]; rfl), this, ← linesW_app]
  simp
theorem step_new {T : Trf} {j : Nat} {v : Nat × Nat} : linesW (chStep (prev (natT T).rows 0) j j v) = lineW (chOne j v) := by simp [prev, chStep, linesW]
theorem step_old {T : Trf} {k j : Nat} {v : Nat × Nat} {row : List (List Bool)} {l : List Bool} (h : T.rows[k]? = some row) (hl : row[j]? = some l) (he : l.length = v.1) : linesW (chStep (prev (natT T).rows (k + 1)) j j v) = if v.2 = valB l then [] else lineW (chOne j v) := by
  show linesW (chStep (some ((natT T).rows.getD k [])) j j v) = _
  rw [natT_getD h]
  unfold chStep
  simp only [List.getElem?_map, hl, Option.map_some, Option.some.injEq]
  obtain ⟨a, b⟩ := v
  simp only at he
  subst he
  by_cases e : b = valB l
  · subst e; simp [linesW]
  · rw [if_neg (by intro e2; exact e (congrArg Prod.snd e2).symm), if_neg e]; simp [linesW]
set_option maxRecDepth 100000 in
set_option maxHeartbeats 16000000 in
theorem rwrite_any {w : World} {tv : Value} {T : Trf} (h : RefR w tv T) (hf : FewT T) (hwd : ∀ x ∈ T.vars, 1 ≤ x.2 ∧ x.2 ≤ 128) (hT : TOk (natT T)) (ht : (trcText (natT T)).length ≤ 1000000) : Calls Tryz.prog 11 #[tv] w fun e w' => e = .returned (.string (bstr (trcText (natT T)))) ∧ Below w.heap.size w w' := by
  obtain ⟨vv, rv, rs, rfl, hvv, hrv, hrl, hrow⟩ := h.ex
  obtain ⟨pv, cv, rfl⟩ := hvv.form
  obtain ⟨pr, cr, rfl⟩ := hrv.form
  have hb := Below.new w (.cells #[.string (bstr T.top), .slice pv T.vars.length cv, .slice pr rs.length cr] 25)
  have hk := Blk.new (w := w) 25 [.string (bstr T.top), .slice pv T.vars.length cv, .slice pr rs.length cr]
  have HH := Lib.hid (And.intro hvv (And.intro hrv (And.intro hrl hrow)))
  have H0 := Lib.hid (And.intro hb hk)
  have hn : (T.vars.length : Int) ≤ 12 := by have := hf.vars; omega
  have hm : (rs.length : Int) ≤ 12 := by have := hf.rows; omega
  have HF := Lib.hid (And.intro hf (And.intro hwd (And.intro hT ht)))
  have htop : ((T.top.length : Nat) : Int) ≤ 1000000 := by
    have := hT.top
    unfold wordB printedB at this
    rw [bstr_size] at this
    simp only [Bool.and_eq_true, decide_eq_true_eq] at this
    have := this.1.1.2
    have e : (natT T).top = T.top := rfl
    rw [e] at this
    omega
  generalize hnv : T.vars.length = n at *
  generalize hnr : rs.length = m at *
  clear h hvv hrv hrl hrow hb hk hf hwd hT ht
  have HT0 := Lib.hid (txt_0 T.top)
  go_enter Tryz.func11, Tryz.ntmps11
  unfold bstr at *
  go_upto_region 1 with fail
  generalize hTop : T.top = X at *
  generalize w.alloc (.cells #[.string ⟨X.toArray⟩, .slice pv n cv, .slice pr m cr] 25) = W at *
  have HTop := Lib.hid hTop
  clear hTop
  have HBl : Hid (∀ w', Below W.heap.size W w' → w'.cell? ⟨w.heap.size, 0, none⟩ = some (.string ⟨X.toArray⟩) ∧ w'.cell? ⟨w.heap.size, 1, none⟩ = some (.slice pv n cv) ∧ w'.cell? ⟨w.heap.size, 2, none⟩ = some (.slice pr m cr)) := Lib.hid fun w' hb' => by
    have hk' := H0.out.2.next hb'
    exact ⟨hk'.cell (i := 0) rfl, hk'.cell (i := 1) rfl, hk'.cell (i := 2) rfl⟩
  obtain ⟨c0, c1, c2⟩ := HBl.out W (Below.refl _ _)
  have hvars : ∀ w', Below W.heap.size W w' → RO w' (.slice pv n cv) 2 T.vars.length (icells T.vars) := fun w' hb' => by
    have := (HH.out.1.below H0.out.1).below hb'
    rw [hnv]; exact this
  have HV := Lib.hid (And.intro hvars hnv)
  have hrows : ∀ w', Below W.heap.size W w' → RO w' (.slice pr m cr) 1 m (rs.map (·.1)) := fun w' hb' => by
    have := (HH.out.2.1.below H0.out.1).below hb'
    exact this
  have HRw := Lib.hid (And.intro hrows hnr)
  clear hvars hnv hrows hnr
  go_wp2_with fail
  rw [HT0.out]
  clear c0 c1 c2 htop
  have hz : linesW [l1, [kScope, kModule, X, kEnd]] = lsV T 0 := by rw [← HTop.out]; rfl
  rw [hz]
  clear hz
  go_loopw [3, 4] (fun sv iv wr => ∃ i : Nat, i ≤ n ∧ iv = .int .i64 i ∧ sv = .string ⟨(lsV T i).toArray⟩ ∧ Below W.heap.size W wr) (fun _ iv _ => n - (intOf iv).toNat)
  case atStart => exact ⟨0, Nat.zero_le _, rfl, rfl, Below.refl _ _⟩
  case round =>
    obtain ⟨i, hi, rfl, rfl, hbr⟩ := hrel
    have HL := Lib.hid hbr
    clear hbr
    obtain ⟨c0, c1, c2⟩ := HBl.out wr HL.out
    by_cases hlt : i < n
    · obtain ⟨x, hx⟩ : ∃ x, T.vars[i]? = some x := ⟨_, List.getElem?_eq_getElem (by rw [HV.out.2]; exact hlt)⟩
      have hro := HV.out.1 wr HL.out
      obtain ⟨vb, vo, rfl⟩ := hro.sl (icells_at _ _ _ hx).1
      have k0 := hro.cell (icells_at _ _ _ hx).1
      have k1 := hro.cell (icells_at _ _ _ hx).2
      rw [← Nat.add_assoc] at k1
      have hwx := HF.out.2.1 x (List.mem_of_getElem? hx)
      obtain ⟨d, hd⟩ : ∃ d : Nat, x.2 = (d : Int) := ⟨x.2.toNat, by omega⟩
      have htx := txt_v (lsV T i) i (x.1, x.2.toNat)
      rw [← lsV_succ T i x hx] at htx
      have hdd : x.2.toNat = d := by omega
      rw [hdd] at htx
      rw [hd] at k1 hwx
      have hnm := (HF.out.2.2.1.nms i _ (natT_var hx)).1
      have hnl : ((x.1.length : Nat) : Int) ≤ 200 := by
        unfold wordB printedB at hnm
        rw [bstr_size] at hnm
        simp only [Bool.and_eq_true, decide_eq_true_eq] at hnm
        have := hnm.1.1.2
        (try simp only at this)
        omega
      have hsl := lsV_len T i HF.out.2.2.2
      have hD1 : ((Lib.itoa (d : Int)).length : Int) ≤ 3 := by have := itoa_len3 (n := d) (by omega); omega
      have hD2 : ((idL i).length : Int) ≤ 2 := by have := (idL_len i (by omega)).2; omega
      have HJ1 : Hid (∀ s : After wr, Calls Tryz.prog 38 #[.int .i64 d] s.val fun e w' => e = .returned (.string ⟨(Lib.itoa (d : Int)).toArray⟩) ∧ Below s.val.heap.size s.val w') := Lib.hid fun s => dec_any d (by omega) s.val
      have HJ2 : Hid (∀ s : After wr, Calls Tryz.prog 39 #[.int .i64 i] s.val fun e w' => e = .returned (.string ⟨(idL i).toArray⟩) ∧ Below s.val.heap.size s.val w') := Lib.hid fun s => refid_any i (by omega) s.val
      have HX := Lib.hid (And.intro hlt htx)
      have hii : (i : Int) < n := by omega
      have hi0 : (0 : Int) ≤ i := by omega
      have hiw : IntKind.i64.wrap ((i : Int) + 1) = (i : Int) + 1 := i64_of (by omega)
      unfold bstr at k0
      obtain ⟨NM, hNM⟩ : ∃ N, x.1 = N := ⟨_, rfl⟩
      rw [hNM] at k0 hnl HX
      clear hro hx hwx htx hdd hd hnm hNM hlt hi
      generalize hSS : lsV T i = S at *
      generalize hS1 : lsV T (i + 1) = S1 at *
      generalize Lib.itoa (d : Int) = D1 at *
      have HSS := Lib.hid hS1
      generalize hI : idL i = D2 at *
      clear hSS hS1 hI
      go_upto_region 5 with fail
      have a0 := After.cell c0
      have a1 := After.cell c1
      have b0 := After.cell k0
      have b1 := After.cell k1
      clear c0 c1 c2 k0 k1
      refine wp_region_after (by kernel_rfl) (by kernel_rfl) ?_
      repeat (go_big_quiet_step ((first | (with_reducible exact Calls.after_of (HJ1.out _)) | (with_reducible exact Calls.after_of (HJ2.out _)))))
      refine wpQuiet_nil ?_
      rintro _ ⟨s, rfl⟩
      have hs := Lib.hid (HL.out.trans (s.below.mono HL.out.size))
      generalize s.val = W1 at *
      clear a0 a1 b0 b1 HJ1 HJ2
      go_wp2_with fail
      rw [HX.out.2]
      go_roundw
      case rel => exact ⟨i + 1, HX.out.1, by go_num, by rw [HSS.out], hs.out⟩
      case measure => have := HX.out.1; simp [intOf]; omega
    · obtain rfl : i = n := by omega
      have hsl := lsV_len T i HF.out.2.2.2
      have hte := txt_e (lsV T i)
      rw [lsH_0 T i HV.out.2] at hte
      have HTe := Lib.hid hte
      generalize lsV T i = S at *
      clear hte hlt hi
      go_wp2_with fail
      rw [HTe.out]
      clear c0 c1 c2 hsl
      go_loopw [3, 5] (fun sv kv wr => ∃ k : Nat, k ≤ m ∧ kv = .int .i64 k ∧ sv = .string ⟨(lsH T k).toArray⟩ ∧ Below W.heap.size W wr) (fun _ kv _ => m - (intOf kv).toNat)
      case atStart => exact ⟨0, Nat.zero_le _, rfl, rfl, HL.out⟩
      case round =>
        obtain ⟨k, hk, rfl, rfl, hbr⟩ := hrel
        have HL5 := Lib.hid hbr
        clear hbr
        obtain ⟨c0, c1, c2⟩ := HBl.out wr HL5.out
        by_cases hlt : k < m
        · have hmT : m = T.rows.length := by have := HH.out.2.2.1; omega
          have hsl := lsH_len T k (by omega) HF.out.2.2.2
          have htn := txt_n (lsH T k) k
          rw [lsC_0] at htn
          have hDl : ((Lib.itoa (k : Int)).length : Int) ≤ 3 := by have := itoa_len3 (n := k) (by omega); omega
          have HJ := Lib.hid (fun w => dec_any k (by omega) w)
          obtain ⟨row, hrow⟩ : ∃ row, T.rows[k]? = some row := ⟨_, List.getElem?_eq_getElem (by omega)⟩
          have hrl : row.length = i := by
            have := (HF.out.2.2.1.row k _ (natT_row hrow)).1
            rw [List.length_map, natT_len, HV.out.2] at this
            exact this
          have HX := Lib.hid (And.intro hlt (And.intro htn (And.intro hrow (And.intro hrl hmT))))
          have hkk : (k : Int) < m := by omega
          have hk0 : (0 : Int) ≤ k := by omega
          have hkw : IntKind.i64.wrap ((k : Int) + 1) = (k : Int) + 1 := i64_of (by omega)
          unfold bstr at HJ
          generalize lsH T k = S5 at *
          generalize hDk : Lib.itoa (k : Int) = D at *
          clear hlt htn hrow hrl hmT hDk
          go_wp2_with fail
          refine (HJ.out _).mono ?_; rintro e w1 ⟨rfl, hb1⟩
          have H1 := Lib.hid (HL5.out.trans (hb1.mono HL5.out.size))
          clear hb1
          go_wp2_with fail
          rw [HX.out.2.1]
          clear c0 c1 c2 hsl hDl HJ
          go_loopw [3, 6] (fun sv jv wr => ∃ j : Nat, j ≤ i ∧ jv = .int .i64 j ∧ sv = .string ⟨(lsC T k j).toArray⟩ ∧ Below W.heap.size W wr) (fun _ jv _ => i - (intOf jv).toNat)
          case atStart => exact ⟨0, Nat.zero_le _, rfl, rfl, H1.out⟩
          case round =>
            obtain ⟨j, hj, rfl, rfl, hbr⟩ := hrel
            have HL6 := Lib.hid hbr
            clear hbr
            obtain ⟨c0, c1, c2⟩ := HBl.out wr HL6.out
            by_cases hlt : j < i
            · obtain ⟨l, hl⟩ : ∃ l, row[j]? = some l := ⟨_, List.getElem?_eq_getElem (by rw [HX.out.2.2.2.1]; exact hlt)⟩
              obtain ⟨r, hr⟩ : ∃ r, rs[k]? = some r := ⟨_, List.getElem?_eq_getElem (by rw [HRw.out.2]; exact HX.out.1)⟩
              obtain ⟨hr1, hr2⟩ := HH.out.2.2.2 k r row hr HX.out.2.2.1
              have hrv := HRw.out.1 wr HL6.out
              obtain ⟨rb, ro, rfl⟩ := hrv.sl (show (rs.map (·.1))[k]? = some r.1 by rw [List.getElem?_map, hr]; rfl)
              have q2 := hrv.cell (show (rs.map (·.1))[k]? = some r.1 by rw [List.getElem?_map, hr]; rfl)
              obtain ⟨r1, rn, rc⟩ := r
              have hrn : rn = row.length := hr2.n
              subst hrn
              obtain ⟨p1, c1', e⟩ := hr1.form
              (try simp only at e)
              subst e
              have hlen := hr2.len
              (try simp only at hlen)
              obtain ⟨u, hu⟩ : ∃ u, rc[j]? = some u := ⟨_, List.getElem?_eq_getElem (by rw [hlen, HX.out.2.2.2.1]; exact hlt)⟩
              have hrb := hr2.at_ j u l hu hl
              obtain ⟨pb, cb, rfl, hcb⟩ := hrb.cap
              have hr1' := (hr1.below H0.out.1).below HL6.out
              (try simp only at hr1')
              obtain ⟨r1b, r1o, rfl⟩ := hr1'.sl hu
              have q3 := hr1'.cell hu
              (try simp only at q2)
              rw [HX.out.2.2.2.1] at q2
              have hTrow := HF.out.2.2.1.row k _ (natT_row HX.out.2.2.1)
              obtain ⟨x, hx⟩ : ∃ x, T.vars[j]? = some x := ⟨_, List.getElem?_eq_getElem (by rw [HV.out.2]; exact hlt)⟩
              have hll := (hTrow.2 j (l.length, valB l) _ (by rw [List.getElem?_map, hl]; rfl) (natT_var hx)).1
              have hxw := HF.out.2.1 x (List.mem_of_getElem? hx)
              have hl128 : l.length ≤ 128 := by (try simp only at hll); omega
              have hrbW := (hrb.below H0.out.1).below HL6.out
              have hsl := lsC_len T k j (by have := HX.out.2.2.2.2; have := HX.out.1; omega) HF.out.2.2.2
              have hsu := lsC_succ T k j row l HX.out.2.2.1 hl
              have htc := txt_c (lsC T k j) j (l.length, valB l)
              (try simp only at htc)
              have hD2 : ((idL j).length : Int) ≤ 2 := by have := (idL_len j (by omega)).2; omega
              have hD1 : ((bitL l.length (valB l)).length : Int) ≤ 128 := by rw [bitL_len]; omega
              have HJ1 : Hid (∀ w', Below wr.heap.size wr w' → Calls Tryz.prog 41 #[.slice pb l.length cb] w' fun e w'' => e = .returned (.string ⟨(bitL l.length (valB l)).toArray⟩) ∧ w' = w'') := Lib.hid fun w' hb' => by
                have := rtext_any (rb_rl (hrbW.below hb')) hl128
                rw [textF_bits] at this
                exact this
              have HJ2 := Lib.hid (fun w => refid_any j (by omega) w)
              have hji : (j : Int) < i := by omega
              have hj0 : (0 : Int) ≤ j := by omega
              have hjw : IntKind.i64.wrap ((j : Int) + 1) = (j : Int) + 1 := i64_of (by omega)
              have HY := Lib.hid (And.intro hlt (And.intro hsu (And.intro htc (And.intro hrbW (And.intro hll hl128)))))
              have HYl := Lib.hid (And.intro hl hx)
              unfold bstr at HJ2
              clear hl hr hr1 hr2 hrv hlen hu hrb hcb hr1' hTrow hx hll hxw hrbW hsu htc hlt hl128 hj
              rcases Nat.eq_zero_or_pos k with hkz | hkp
              · have hkb : ((k : Int) == 0) = true := by simp [hkz]
                have HN := Lib.hid (show lsC T k (j + 1) = lsC T k j ++ lineW (chOne j (l.length, valB l)) by rw [HY.out.2.1, hkz, step_new])
                clear hkz
                generalize lsC T k j = S6 at *
                generalize hD1e : bitL l.length (valB l) = D1 at *
                generalize hD2e : idL j = D2 at *
                generalize hLe : l.length = L at *
                clear hD1e hD2e hLe
                go_upto_region 14 with fail
                go_quiet (fail)
                go_wp2_with fail
                refine (HJ1.out _ (below_drewN _)).mono ?_; rintro e w1 ⟨rfl, rfl⟩
                go_wp2_with fail
                refine (HJ2.out _).mono ?_; rintro e w2 ⟨rfl, hb2⟩
                have H2 := Lib.hid (HL6.out.trans (((below_drewN _).trans hb2).mono HL6.out.size))
                clear hb2 c0 c1 c2 q2 q3
                go_wp2_with fail
                rw [HY.out.2.2.1]
                go_roundw
                case rel => exact ⟨j + 1, HY.out.1, by go_num, by rw [HN.out], H2.out⟩
                case measure => have := HY.out.1; simp [intOf]; omega
              · obtain ⟨k', hk'⟩ : ∃ k', k = k' + 1 := ⟨k - 1, by omega⟩
                obtain ⟨row', hrow'⟩ : ∃ row, T.rows[k']? = some row := ⟨_, List.getElem?_eq_getElem (by have := HX.out.2.2.2.2; have := HX.out.1; omega)⟩
                have hrl' : row'.length = i := by
                  have := (HF.out.2.2.1.row k' _ (natT_row hrow')).1
                  rw [List.length_map, natT_len, HV.out.2] at this
                  exact this
                obtain ⟨l', hl'⟩ : ∃ l, row'[j]? = some l := ⟨_, List.getElem?_eq_getElem (by rw [hrl']; exact HY.out.1)⟩
                obtain ⟨r', hr'⟩ : ∃ r, rs[k']? = some r := ⟨_, List.getElem?_eq_getElem (by rw [HRw.out.2]; have := HX.out.1; omega)⟩
                obtain ⟨hr1, hr2⟩ := HH.out.2.2.2 k' r' row' hr' hrow'
                have hrv := HRw.out.1 wr HL6.out
                have p2 := hrv.cell (show (rs.map (·.1))[k']? = some r'.1 by rw [List.getElem?_map, hr']; rfl)
                obtain ⟨r1', rn', rc'⟩ := r'
                have hrn : rn' = row'.length := hr2.n
                subst hrn
                obtain ⟨p1', c1'', e⟩ := hr1.form
                (try simp only at e)
                subst e
                have hlen := hr2.len
                (try simp only at hlen)
                obtain ⟨u', hu'⟩ : ∃ u, rc'[j]? = some u := ⟨_, List.getElem?_eq_getElem (by rw [hlen, hrl']; exact HY.out.1)⟩
                have hrb := hr2.at_ j u' l' hu' hl'
                obtain ⟨pb', cb', rfl, hcb⟩ := hrb.cap
                have hr1' := (hr1.below H0.out.1).below HL6.out
                (try simp only at hr1')
                obtain ⟨r1b', r1o', rfl⟩ := hr1'.sl hu'
                have p3 := hr1'.cell hu'
                (try simp only at p2)
                rw [hrl'] at p2
                have hTrow := HF.out.2.2.1.row k' _ (natT_row hrow')
                have hll' := (hTrow.2 j (l'.length, valB l') _ (by rw [List.getElem?_map, hl']; rfl) (natT_var HYl.out.2)).1
                have hle : l'.length = l.length := by have := HY.out.2.2.2.2.1; (try simp only at hll' this); omega
                have hrbW := (hrb.below H0.out.1).below HL6.out
                have HJE : Hid (∀ s : After wr, Calls Tryz.prog 40 #[.slice pb l.length cb, .slice pb' l'.length cb'] s.val fun e w' => e = .returned (.bool (decide (valB l = valB l'))) ∧ Below s.val.heap.size s.val w') := Lib.hid fun s => by
                  have h1 := rb_rl (HY.out.2.2.2.1.below s.below)
                  have h2 := rb_rl (hrbW.below s.below)
                  rw [hle] at h2
                  have := requal_any h1 h2 (by have := HY.out.2.2.2.2.2; omega)
                  have e : ofB (fun j => l'.getD j false) l.length = valB l' := by unfold valB; rw [hle]
                  rw [e] at this
                  rw [hle]
                  exact this
                have hst : linesW (chStep (prev (natT T).rows k) j j (l.length, valB l)) = if valB l = valB l' then [] else lineW (chOne j (l.length, valB l)) := by
                  rw [hk']; exact step_old hrow' hl' hle
                have hkb : ((k : Int) == 0) = false := by simp; omega
                have hkw1 : IntKind.i64.wrap ((k : Int) - 1) = (k' : Int) := by rw [hk']; exact (i64_of (by omega)).trans (by omega)
                have hkm' : (k' : Int) < m := by have := HX.out.1; omega
                have hk0' : (0 : Int) ≤ k' := by omega
                rw [hle] at HJE p3
                obtain ⟨q, hq⟩ : ∃ q, decide (valB l = valB l') = q := ⟨_, rfl⟩
                rw [hq] at HJE
                have HZ := Lib.hid (And.intro hq hst)
                clear hk' hrow' hrl' hl' hr' hr1 hr2 hrv hlen hu' hrb hcb hr1' hTrow hll' hle hrbW hq hst hkp
                generalize lsC T k j = S6 at *
                generalize hD1e : bitL l.length (valB l) = D1 at *
                generalize hD2e : idL j = D2 at *
                generalize hLe : l.length = L at *
                clear hD1e hD2e hLe
                go_upto_region 14 with fail
                have a2 := After.cell c2
                have b2 := After.cell q2
                have b3 := After.cell q3
                have d2 := After.cell p2
                have d3 := After.cell p3
                refine wp_region_after (by kernel_rfl) (by kernel_rfl) ?_
                repeat (go_big_quiet_step ((first | (with_reducible exact Calls.after_of (HJE.out _)))))
                refine wpQuiet_nil ?_
                rintro _ ⟨s, rfl⟩
                have hs0 := Lib.hid s.below
                have e1 := Lib.hid (After.cell c1 s)
                have e2 := Lib.hid (After.cell c2 s)
                have e3 := Lib.hid (After.cell q2 s)
                have e4 := Lib.hid (After.cell q3 s)
                generalize s.val = W1 at *
                clear a2 b2 b3 d2 d3 HJE c0 c1 c2 q2 q3 p2 p3
                have c1 := e1.out
                have c2 := e2.out
                have q2 := e3.out
                have q3 := e4.out
                clear e1 e2 e3 e4
                cases q
                · have HN := Lib.hid (show lsC T k (j + 1) = S6 ++ lineW (chOne j (L, valB l)) by rw [HY.out.2.1, HZ.out.2, if_neg (of_decide_eq_false HZ.out.1)])
                  go_wp2_with fail
                  refine (HJ1.out _ hs0.out).mono ?_; rintro e w1 ⟨rfl, rfl⟩
                  go_wp2_with fail
                  refine (HJ2.out _).mono ?_; rintro e w2 ⟨rfl, hb2⟩
                  have H2 := Lib.hid (HL6.out.trans ((hs0.out.trans (hb2.mono hs0.out.size)).mono HL6.out.size))
                  clear hb2 c1 c2 q2 q3
                  go_wp2_with fail
                  rw [HY.out.2.2.1]
                  go_roundw
                  case rel => exact ⟨j + 1, HY.out.1, by go_num, by rw [HN.out], H2.out⟩
                  case measure => have := HY.out.1; simp [intOf]; omega
                · have HN := Lib.hid (show lsC T k (j + 1) = S6 by rw [HY.out.2.1, HZ.out.2, if_pos (of_decide_eq_true HZ.out.1), List.append_nil])
                  clear c1 c2 q2 q3
                  go_wp2_with fail
                  go_roundw
                  case rel => exact ⟨j + 1, HY.out.1, by go_num, by rw [HN.out], HL6.out.trans (hs0.out.mono HL6.out.size)⟩
                  case measure => have := HY.out.1; simp [intOf]; omega
            · obtain rfl : j = i := by omega
              have hall := lsC_all T k j row HX.out.2.2.1 HX.out.2.2.2.1
              rw [hall]
              have hlt' : ¬ (j : Int) < j := by omega
              clear hlt hall hj
              go_wp2_with fail
              go_roundw
              case rel => exact ⟨k + 1, HX.out.1, by go_num, rfl, HL6.out⟩
              case measure => have := HX.out.1; simp [intOf]; omega
        · obtain rfl : k = m := by omega
          have hall := lsH_all T k (by have := HH.out.2.2.1; have := HRw.out.2; omega)
          rw [hall]
          generalize hTX : trcText (natT T) = TX at *
          have HTX := Lib.hid hTX
          clear hlt hk hall hTX
          go_wp2_with fail
          go_ret
          exact ⟨by rw [HTX.out]; rfl, H0.out.1.trans (HL5.out.mono H0.out.1.size)⟩
end Go.Proofs.YtcdjkbgedmehjaaGreatDoor
