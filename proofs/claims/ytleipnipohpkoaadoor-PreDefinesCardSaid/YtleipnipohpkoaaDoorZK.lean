/- Texts of this claim, one behind another: E32, E33. They state lemmas; each names its own conditions. -/
import Derived.Test.YtleipnipohpkoaaDoorZH
namespace Go.Proofs.YtleipnipohpkoaaDoor
set_option linter.unusedVariables false
open Go.RowKit Go.Maps

/-! # what the pieces say -/
theorem outB_succ (out : List Pc) (i : Nat) (h : i < out.length) : outB (out.take (i + 1)) = outB (out.take i) ++ (out.getD i default).text := by
  unfold outB
  rw [List.take_succ_eq_append_getElem h, List.flatMap_append]
  simp [List.getD, List.getElem?_eq_getElem h]
theorem outB_take_le (out : List Pc) (i : Nat) : (outB (out.take i)).length ≤ (outB out).length := by
  conv => rhs; rw [← List.take_append_drop i out]
  unfold outB
  rw [List.flatMap_append, List.length_append]; omega
set_option maxRecDepth 100000 in
set_option maxHeartbeats 8000000 in
theorem bytes_any {w : World} {v : Value} {R : List Pc × (Int × Int × Int) × Int} (hE : Calls Tryd.prog 8 #[v, .string ⟨#[97]⟩] w (LeR w R)) (hl : (outB R.1).length ≤ 100000) (hol : R.1.length ≤ 100000) :
    Calls Tryd.prog 11 #[v] w fun e w' => e = .returned (.tuple #[.string (bstr (outB R.1)), .int .i64 R.2.2]) ∧ Below w.heap.size w w' := by
  have HE := Lib.hid hE
  have HL := Lib.hid (And.intro hl hol)
  clear hE hl hol
  go_enter Tryd.func11, Tryd.ntmps11
  go_wp2_with fail
  refine HE.out.mono ?_; rintro e w1 ⟨v1, rfl, ho1, hb1⟩
  obtain ⟨p1, c1, rfl⟩ := ownsRow_form ho1
  have H1 := Lib.hid (And.intro ho1 hb1)
  obtain ⟨out, pos, err⟩ := R
  simp only at *
  clear ho1 hb1
  obtain ⟨n, hn⟩ : ∃ n, out.length = n := ⟨_, rfl⟩
  rw [hn]
  have HN := Lib.hid hn
  clear hn
  go_wp2_with fail
  go_loopw [6, 16] (fun sv iv wr => ∃ (i : Nat) (sb : ByteArray), sv = .string sb ∧ iv = .int .i64 i ∧ sb = bstr (outB (out.take i)) ∧ i ≤ n ∧ Below w1.heap.size w1 wr) (fun _ iv _ => n - (intOf iv).toNat)
  case atStart => exact ⟨0, _, rfl, rfl, rfl, Nat.zero_le _, Below.refl _ _⟩
  case round =>
    obtain ⟨i, sb, rfl, rfl, hsb, hin, hbw⟩ := hrel
    have hiw : IntKind.i64.wrap ((i : Int) + 1) = (i : Int) + 1 := i64_of (by have := HN.out; have := HL.out.2; omega)
    by_cases hi : i < n
    · have hii : (i : Int) < (n : Int) := by omega
      have ho := H1.out.1
      have hop : 0 < out.length := by have := HN.out; omega
      obtain ⟨g, cap, e, hgb, hgs⟩ := ho.form hop
      cases e
      have hil : i < out.length := by have := HN.out; omega
      obtain ⟨TB, hTB⟩ : ∃ TB, bstr (out.getD i default).text = TB := ⟨_, rfl⟩
      have key : ∀ r (u : Value), r < 5 → (pcCells (out.getD i default))[r]? = some u → wr.cell? ⟨g, i * 5 + r, none⟩ = some u := by
        intro r u hr hu
        have h1 := ho.cellAt (i * 5 + r) (by omega)
        rw [outCells_at _ _ _ hil hr, hu] at h1
        exact (hbw.cell (World.block_lt_of_cell? _ _ h1)).trans h1
      have k0 := key 0 _ (by decide) rfl
      rw [hTB, Nat.add_zero] at k0
      have k1 := key 1 _ (by decide) rfl
      have k2 := key 2 _ (by decide) rfl
      have k3 := key 3 _ (by decide) rfl
      have k4 := key 4 _ (by decide) rfl
      have hcat : (9223372036854775807 < sb.size + TB.size) = False := eq_false (by
        have h1 := outB_take_le out (i + 1)
        rw [outB_succ out i hil, List.length_append] at h1
        have h2 := HL.out.1
        rw [hsb, ← hTB, bstr_size, bstr_size]; omega)
      have hnew : sb ++ TB = bstr (outB (out.take (i + 1))) := by rw [hsb, ← hTB, bstr_app, outB_succ out i hil]
      have H2 := Lib.hid (And.intro hi (And.intro hnew hbw))
      clear ho hop hgb hgs key hil hTB hsb hi hin hnew hbw
      go_wp2_with fail
      go_round
      case rel => exact ⟨i + 1, _, rfl, rfl, H2.out.2.1, H2.out.1, Below.next H2.out.2.2 (Below.new wr _)⟩
      case measure =>
        have := H2.out.1
        show n - ((i : Int) + 1).toNat < n - (i : Int).toNat
        omega
    · have hii : ¬ (i : Int) < (n : Int) := by omega
      obtain rfl : i = n := by omega
      have hs2 : sb = bstr (outB out) := by rw [hsb, ← HN.out, List.take_length]
      have H2 := Lib.hid (And.intro hs2 (Below.next H1.out.2 hbw))
      clear hs2 hsb hi hin hbw
      go_wp2_with fail
      go_ret2
      exact ⟨by rw [H2.out.1]; rfl, H2.out.2⟩
end Go.Proofs.YtleipnipohpkoaaDoor
namespace Go.Proofs.YtleipnipohpkoaaDoor
set_option linter.unusedVariables false
open Go.RowKit Go.Maps

/-! # PreFiles, the walk -/
def ok3 (b : UInt8) : Bool := b != 96 && b != 47 && b != 42
def filtTo (s : Bs) (k : Nat) : Bs := (s.take k).filter ok3
theorem filtTo_succ (s : Bs) (k : Nat) (h : k < s.length) : filtTo s (k + 1) = filtTo s k ++ (if ok3 (s.getD k 0) = true then [s.getD k 0] else []) := by
  unfold filtTo
  rw [List.take_succ_eq_append_getElem h, List.filter_append]
  congr 1
  have : s[k] = s.getD k 0 := by simp [List.getD, List.getElem?_eq_getElem h]
  rw [this]
  by_cases ho : ok3 (s.getD k 0) = true
  · rw [if_pos ho, List.filter_cons_of_pos ho]; rfl
  · rw [if_neg ho, List.filter_cons_of_neg ho]; rfl
theorem filtTo_le (s : Bs) (k : Nat) : (filtTo s k).length ≤ k := by
  unfold filtTo
  have := List.length_filter_le ok3 (s.take k)
  rw [List.length_take] at this; omega
theorem filtTo_free (s : Bs) (k : Nat) : ∀ b ∈ filtTo s k, b ≠ 47 ∧ b ≠ 96 := by
  intro b hb
  have := (List.mem_filter.1 hb).2
  unfold ok3 at this
  simp at this
  exact ⟨this.1.2, this.1.1⟩
def finT (s : Bs) : Bs := filtTo s 200 ++ [10]
theorem filtTo_all (s : Bs) {k : Nat} (h : s.length ≤ k) : filtTo s k = filtTo s s.length := by
  unfold filtTo
  rw [List.take_of_length_le h, List.take_length]
theorem finT_free (s : Bs) : ∀ b ∈ finT s, b ≠ 47 ∧ b ≠ 96 := by
  intro b hb
  rcases List.mem_append.1 hb with h | h
  · exact filtTo_free s 200 b h
  · rw [List.mem_singleton] at h; subst h; decide
theorem finT_le (s : Bs) : (finT s).length ≤ 201 := by
  unfold finT
  rw [List.length_append, List.length_singleton]
  have := filtTo_le s 200
  omega
theorem cFile_nil {texts : Nat → Bs} {find : Bs → Nat} (h : ∀ n, ∀ b ∈ texts n, b ≠ 47 ∧ b ≠ 96) : ∀ d n, cFile texts find d n = 0
  | 0, n => rfl
  | d + 1, n => by
    unfold cFile
    rw [plainP_free fun b hb => (h n b hb).1]
    exact cLines_free (fun b hb => (h n b hb).2) _ _
theorem exp_len {texts : Nat → Bs} {find : Bs → Nat} {top : Bs} (ht : ∀ n, (texts n).length ≤ 32768) (hb : cFile texts find 8 (find top) ≤ bigN) : (expandP texts find top).1.length ≤ 65536 := by
  unfold expandP
  split
  · exact Nat.zero_le _
  · have g := fileP_gx (find := find) ht 8 x0 (find top) 0 0 0 wx0 (by show 0 + _ ≤ _; omega)
    simp only
    split
    · exact Nat.zero_le _
    · rename_i he
      have hf := g.wx.fx (by by_cases h : (fileP texts find 8 x0 (find top) 0 0 0).err = 0; exact h; exact absurd h he)
      exact Nat.le_trans hf.out hf.size
theorem texts_len {fs : List Fil} (h : ∀ n, (fs.getD n default).text.size ≤ 32768) (n : Nat) : (textsOf fs n).length ≤ 32768 := by
  have := h (n - 1)
  unfold textsOf
  simpa using this
theorem bytes_two {w : World} (hMax : Max w) (XB B1 : ByteArray) (t0 t1 t2 : Bs) (hx : XB = bstr (t0 ++ (inclLine 98 ++ 10 :: t2))) (h1 : B1 = bstr t1) (l0 : t0.length ≤ 201) (l1 : t1.length ≤ 201) (l2 : t2.length ≤ 201)
    (f0 : ∀ b ∈ t0, b ≠ 47 ∧ b ≠ 96) (f1 : ∀ b ∈ t1, b ≠ 47 ∧ b ≠ 96) (f2 : ∀ b ∈ t2, b ≠ 47 ∧ b ≠ 96) (e0 : ∃ u, t0 = u ++ [10]) (e2 : ∃ u, t2 = u ++ [10]) :
    Calls Tryd.prog 11 #[.slice (some ⟨w.heap.size, 0, none⟩) 2 2] (w.alloc (.cells #[.string ⟨#[97]⟩, .string XB, .string ⟨#[98]⟩, .string B1] 28)) fun e w' => e = .returned (.tuple #[.string (bstr (t0 ++ (t1 ++ 10 :: t2))), .int .i64 0]) ∧ Below w.heap.size w w' := by
  have hbA := Below.new w (.cells #[.string (bstr [97]), .string XB, .string (bstr [98]), .string B1] 28)
  have hXz : XB.size ≤ 415 := by
    rw [hx, bstr_size]
    simp only [List.length_append, List.length_cons]
    show t0.length + (12 + (t2.length + 1)) ≤ _
    omega
  have hBz : B1.size ≤ 201 := by rw [h1, bstr_size]; exact l1
  have hsz : ∀ n, (([⟨bstr [97], XB⟩, ⟨bstr [98], B1⟩] : List Fil).getD n default).text.size ≤ 415 := fun n => fil_all (fs := [⟨bstr [97], XB⟩, ⟨bstr [98], B1⟩]) (p := fun f => f.text.size ≤ 415) (fun f hf => by
      simp only [List.mem_cons, List.not_mem_nil, or_false] at hf
      rcases hf with rfl | rfl
      · exact hXz
      · exact Nat.le_trans hBz (by decide)) (by decide) n
  have hbud : cFile (textsOf [⟨bstr [97], XB⟩, ⟨bstr [98], B1⟩]) (findN [⟨bstr [97], XB⟩, ⟨bstr [98], B1⟩]) 8 (findN [⟨bstr [97], XB⟩, ⟨bstr [98], B1⟩] [97]) ≤ bigN :=
    Nat.le_trans (cFile_room (q := 41) (by rw [findN_two]; decide) (by decide) (fun n => by
      have := hsz (n - 1)
      have h2 : (textsOf [⟨bstr [97], XB⟩, ⟨bstr [98], B1⟩] n).length = (([⟨bstr [97], XB⟩, ⟨bstr [98], B1⟩] : List Fil).getD (n - 1) default).text.size := by unfold textsOf; simp
      rw [h2]; omega) 8 _) (by decide)
  have hle := lexp_any (w := w.alloc (.cells #[.string (bstr [97]), .string XB, .string (bstr [98]), .string B1] 28)) (fs := [⟨bstr [97], XB⟩, ⟨bstr [98], B1⟩]) (ro_two _ _ _ _ (Blk.new 28 _)) (err_two _ _ _ _ (by decide) (by decide) (by decide) (by omega)) (by simp) (hMax.below hbA)
    (fun n => fil_all (p := fun f => f.name.size ≤ 32768) (fun f hf => by
      simp only [List.mem_cons, List.not_mem_nil, or_false] at hf
      rcases hf with rfl | rfl
      · show (bstr [97]).size ≤ _; decide
      · show (bstr [98]).size ≤ _; decide) (by decide) n) (fun n => Nat.le_trans (hsz n) (by decide)) [97] hbud
  have hlen := exp_len (texts_len fun n => Nat.le_trans (hsz n) (by decide)) hbud
  rw [findN_two] at hle hlen
  obtain ⟨out, hE, hB⟩ := files_got (texts := textsOf [⟨bstr [97], XB⟩, ⟨bstr [98], B1⟩]) (find := fun b => if b = [97] then 1 else if b = [98] then 2 else 0) (top := [97]) (t0 := t0) (t1 := t1) (t2 := t2) rfl rfl
    (by show XB.data.toList = _; rw [hx]; simp [bstr]) (by show B1.data.toList = _; rw [h1]; simp [bstr]) f0 f1 f2 e0 e2 (by omega)
  rw [hE] at hle hlen
  have hfin := bytes_any hle (by rw [hB]; simp only [List.length_append, List.length_cons]; omega) (Nat.le_trans hlen (by decide))
  rw [hB] at hfin
  refine hfin.mono ?_
  rintro e w' ⟨he, hb⟩
  exact ⟨he, Below.next hbA hb⟩
theorem bytes_one {w : World} (hMax : Max w) (XB : ByteArray) (t : Bs) (hx : XB = bstr t) (l : t.length ≤ 1300) (f : ∀ b ∈ t, b ≠ 47 ∧ b ≠ 96) :
    Calls Tryd.prog 11 #[.slice (some ⟨w.heap.size, 0, none⟩) 1 1] (w.alloc (.cells #[.string ⟨#[97]⟩, .string XB] 28)) fun e w' => e = .returned (.tuple #[.string (bstr t), .int .i64 0]) ∧ Below w.heap.size w w' := by
  have hbA := Below.new w (.cells #[.string (bstr [97]), .string XB] 28)
  have hXz : XB.size ≤ 1300 := by rw [hx, bstr_size]; exact l
  have hXd : XB.data.toList = t := by rw [hx]; simp [bstr]
  have hsz : ∀ n, (([⟨bstr [97], XB⟩] : List Fil).getD n default).text.size ≤ 1300 := fun n => fil_all (fs := [⟨bstr [97], XB⟩]) (p := fun f => f.text.size ≤ 1300) (fun f hf => by
      rw [List.mem_singleton] at hf
      subst hf
      exact hXz) (by decide) n
  have hbud : cFile (textsOf [⟨bstr [97], XB⟩]) (findN [⟨bstr [97], XB⟩]) 8 (findN [⟨bstr [97], XB⟩] [97]) ≤ bigN := by
    rw [cFile_nil (fun n b hb => by
      rcases textsOf_one (bstr [97]) XB n with h | h
      · rw [h, hXd] at hb; exact f b hb
      · rw [h] at hb; cases hb)]
    exact Nat.zero_le _
  have hle := lexp_any (w := w.alloc (.cells #[.string (bstr [97]), .string XB] 28)) (fs := [⟨bstr [97], XB⟩]) (ro_one _ _ (Blk.new 28 _)) (err_one _ _ (by decide) (by omega)) (by simp) (hMax.below hbA)
    (fun n => fil_all (p := fun f => f.name.size ≤ 32768) (fun f hf => by
      rw [List.mem_singleton] at hf
      subst hf
      show (bstr [97]).size ≤ _; decide) (by decide) n) (fun n => Nat.le_trans (hsz n) (by decide)) [97] hbud
  have hlen := exp_len (texts_len fun n => Nat.le_trans (hsz n) (by decide)) hbud
  rw [findN_one] at hle hlen
  obtain ⟨out, hE, hB⟩ := files_want (texts := textsOf [⟨bstr [97], XB⟩]) (find := fun b => if b = [97] then 1 else 0) (top := [97]) (t := t) rfl hXd f (by omega)
  rw [hE] at hle hlen
  have hfin := bytes_any hle (by rw [hB]; omega) (Nat.le_trans hlen (by decide))
  rw [hB] at hfin
  refine hfin.mono ?_
  rintro e w' ⟨he, hb⟩
  exact ⟨he, Below.next hbA hb⟩
/-- a letter more -/
theorem bstr_push (x s : Bs) (k : Nat) (h : k < s.length) : bstr x ++ (bstr s).extract k (k + 1) = bstr (x ++ [s.getD k 0]) := by
  rw [bstr_extract, bstr_app]
  congr 2
  rw [List.take_succ_eq_append_getElem h]
  rw [List.drop_append_of_le_length (by rw [List.length_take]; omega), List.drop_of_length_le (by rw [List.length_take]; omega)]
  simp [List.getD, List.getElem?_eq_getElem h]
theorem ix3_0 (x y z : ByteArray) (w : World) : (Instr.index 42 (.agg #[.string x, .string y, .string z]) (.int .i64 0)).run Tryd.prog w = .ok (.string x) w := by kernel_rfl
theorem ix3_1 (x y z : ByteArray) (w : World) : (Instr.index 42 (.agg #[.string x, .string y, .string z]) (.int .i64 1)).run Tryd.prog w = .ok (.string y) w := by kernel_rfl
theorem ix3_2 (x y z : ByteArray) (w : World) : (Instr.index 42 (.agg #[.string x, .string y, .string z]) (.int .i64 2)).run Tryd.prog w = .ok (.string z) w := by kernel_rfl
set_option maxRecDepth 100000 in
set_option maxHeartbeats 8000000 in
theorem files_law {w : World} (hMax : Max w) (a0 a1 a2 : ByteArray) (h0 : a0.size ≤ 9223372036854775807) (h1 : a1.size ≤ 9223372036854775807) (h2 : a2.size ≤ 9223372036854775807) :
    Calls Tryd.prog 5 #[.agg #[.string a0, .string a1, .string a2]] w fun e w' => e = .returned (.bool true) ∧ Below w.heap.size w w' := by
  have hb0 := Below.new w (.cells #[.string a0, .string a1, .string a2] 42)
  have k0 : Blk (w.alloc (.cells #[.string a0, .string a1, .string a2] 42)) w.heap.size 42 [.string a0, .string a1, .string a2] := Blk.new _ _
  have HA := Lib.hid (awake_pre (hMax.below hb0))
  have HMax := Lib.hid hMax
  have H0 := Lib.hid (And.intro hb0 k0)
  have HSz := Lib.hid (And.intro h0 (And.intro h1 h2))
  clear hMax hb0 k0 h0 h1 h2
  go_enter Tryd.func5, Tryd.ntmps5
  go_wp2_with fail
  refine HA.out.mono ?_; rintro e w1 ⟨rfl, hb1⟩
  have H1 := Lib.hid (And.intro (Below.next H0.out.1 hb1) (H0.out.2.next hb1))
  clear hb1 HA H0
  go_upto_region 4 with fail
  have hbA := Below.next H1.out.1 (Below.new w1 (.cells #[.string ⟨#[]⟩, .string ⟨#[]⟩, .string ⟨#[]⟩] 42))
  have k1 := H1.out.2.next (Below.new w1 (.cells #[.string ⟨#[]⟩, .string ⟨#[]⟩, .string ⟨#[]⟩] 42))
  have k3 : Blk (w1.alloc (.cells #[.string ⟨#[]⟩, .string ⟨#[]⟩, .string ⟨#[]⟩] 42)) w1.heap.size 42 [.string (bstr []), .string (bstr []), .string (bstr [])] := Blk.new _ _
  have c0 := k1.cell (i := 0) rfl
  have c1 := k1.cell (i := 1) rfl
  have c2 := k1.cell (i := 2) rfl
  have HB3 := Lib.hid H1.out.1.size
  have HO0 := Lib.hid (And.intro k3 hbA)
  clear k1 k3 hbA H1
  generalize w1.alloc (.cells #[.string ⟨#[]⟩, .string ⟨#[]⟩, .string ⟨#[]⟩] 42) = W at *
  generalize w1.heap.size = b3 at *
  obtain ⟨be, hbe⟩ : ∃ be, w.heap.size = be := ⟨_, rfl⟩
  rw [hbe] at c0 c1 c2
  simp only [hbe]
  clear hbe
  obtain ⟨s0, hs0⟩ : ∃ s, a0.data.toList = s := ⟨_, rfl⟩
  obtain ⟨s1, hs1⟩ : ∃ s, a1.data.toList = s := ⟨_, rfl⟩
  obtain ⟨s2, hs2⟩ : ∃ s, a2.data.toList = s := ⟨_, rfl⟩
  have HS0 : Hid (bstr s0 = a0 ∧ a0.size = s0.length) := Lib.hid ⟨by rw [← hs0]; exact bstr_data _, by rw [← hs0]; simp⟩
  have HS1 : Hid (bstr s1 = a1 ∧ a1.size = s1.length) := Lib.hid ⟨by rw [← hs1]; exact bstr_data _, by rw [← hs1]; simp⟩
  have HS2 : Hid (bstr s2 = a2 ∧ a2.size = s2.length) := Lib.hid ⟨by rw [← hs2]; exact bstr_data _, by rw [← hs2]; simp⟩
  clear hs0 hs1 hs2
  go_wp2_with fail
  go_loopw [15] (fun iv wr => ∃ (i : Nat) (x0 x1 x2 : Bs), iv = .int .i64 i ∧ i ≤ 3 ∧ (x0 = if 0 < i then finT s0 else []) ∧ (x1 = if 1 < i then finT s1 else []) ∧ (x2 = if 2 < i then finT s2 else []) ∧ Blk wr b3 42 [.string (bstr x0), .string (bstr x1), .string (bstr x2)] ∧ Below w.heap.size w wr) (fun iv _ => 3 - (intOf iv).toNat)
  case atStart => exact ⟨0, [], [], [], rfl, by decide, rfl, rfl, rfl, HO0.out.1, HO0.out.2⟩
  case round =>
    obtain ⟨i, x0, x1, x2, rfl, hi3, hx0, hx1, hx2, hkb, hbw⟩ := hrel
    match i, hi3 with
    | 0, _ =>
      simp only [Nat.lt_irrefl, Nat.not_lt_zero, if_false] at hx0 hx1 hx2
      subst hx0
      subst hx1
      subst hx2
      have HO := Lib.hid (And.intro hkb hbw)
      obtain ⟨SB, hSB⟩ : ∃ SB, a0 = SB := ⟨_, rfl⟩
      have HSb := HS0
      rw [hSB] at HSb ⊢
      have hix := ix3_0 SB a1 a2
      clear hkb hbw c0 c1 c2
      go_wp2_with fail
      go_loopw [6] (fun iv wr2 => ∃ k : Nat, iv = .int .i64 k ∧ k ≤ (s0).length ∧ k ≤ 200 ∧ Blk wr2 b3 42 (((fun v => [v, Value.string (bstr []), Value.string (bstr [])])) (Value.string (bstr (filtTo s0 k)))) ∧ Below w.heap.size w wr2) (fun iv _ => 200 - (intOf iv).toNat)
      case atStart => exact ⟨0, rfl, Nat.zero_le _, Nat.zero_le _, HO.out.1, HO.out.2⟩
      case round =>
        obtain ⟨k, rfl, hk1, hk2, hkb, hbw⟩ := hrel
        have hkw : IntKind.i64.wrap ((k : Int) + 1) = (k : Int) + 1 := i64_of (by omega)
        by_cases hlt : k < (s0).length ∧ k < 200
        · have hli : (k : Int) < (SB.size : Int) := by have := HSb.out.2; omega
          have hl2 : (k : Int) < 200 := by omega
          obtain ⟨cb, hcb⟩ : ∃ cb, (s0).getD k 0 = cb := ⟨_, rfl⟩
          have hatb : ∀ h : k < SB.size, SB[k] = cb := by
            intro h
            rw [← hcb]
            have e := HSb.out.1
            subst e
            exact bstr_at _ _ h
          have hsucc := filtTo_succ s0 k hlt.1
          rw [hcb] at hsucc
          by_cases hok : ok3 cb = true
          · have h3 : cb ≠ 96 ∧ cb ≠ 47 ∧ cb ≠ 42 := by
              unfold ok3 at hok
              simp at hok
              exact ⟨hok.1.1, hok.1.2, hok.2⟩
            have q1 : (((cb.toNat : Nat) : Int) == 96) = false := by
              have : cb.toNat ≠ 96 := fun e => h3.1 (UInt8.toNat_inj.1 e)
              simp; omega
            have q2 : (((cb.toNat : Nat) : Int) == 47) = false := by
              have : cb.toNat ≠ 47 := fun e => h3.2.1 (UInt8.toNat_inj.1 e)
              simp; omega
            have q3 : (((cb.toNat : Nat) : Int) == 42) = false := by
              have : cb.toNat ≠ 42 := fun e => h3.2.2 (UInt8.toNat_inj.1 e)
              simp; omega
            have q1b : (((cb.toNat : Nat) : Int) != 96) = true := by unfold bne; rw [q1]; rfl
            have q2b : (((cb.toNat : Nat) : Int) != 47) = true := by unfold bne; rw [q2]; rfl
            have q3b : (((cb.toNat : Nat) : Int) != 42) = true := by unfold bne; rw [q3]; rfl
            have q1i : ¬ ((cb.toNat : Nat) : Int) = 96 := by simpa using q1
            have q2i : ¬ ((cb.toNat : Nat) : Int) = 47 := by simpa using q2
            have q3i : ¬ ((cb.toNat : Nat) : Int) = 42 := by simpa using q3
            rw [if_pos hok] at hsucc
            obtain ⟨XB, hXB⟩ : ∃ XB, SB.extract k (k + 1) = XB := ⟨_, rfl⟩
            have hXz : XB.size = 1 := by rw [← hXB, ByteArray.size_extract]; omega
            have hsl1 : ∀ w', (Instr.slice 9 (Value.string SB) (some (Value.int IntKind.i64 k)) (some (Value.int IntKind.i64 ((k : Int) + 1))) none).run Tryd.prog w' = .ok (.string XB) w' := by
              intro w'
              have h := run_slice_string (P := Tryd.prog) (w := w') 9 SB .i64 .i64 k ((k : Int) + 1) Tryd.underlying9 (by omega) (by omega) (by omega)
              rw [h, ← hXB]; congr 3
            obtain ⟨FB, hFB⟩ : ∃ FB, bstr (filtTo s0 k) = FB := ⟨_, rfl⟩
            have hpush : FB ++ XB = bstr (filtTo s0 (k + 1)) := by
              rw [← hFB, ← hXB, ← HSb.out.1, bstr_push _ _ _ hlt.1, hsucc, hcb]
            have hfz : FB.size ≤ 200 := by rw [← hFB, bstr_size]; have := filtTo_le s0 k; omega
            have hcat : (9223372036854775807 < FB.size + XB.size) = False := eq_false (by omega)
            rw [hFB] at hkb
            have cc := hkb.cell (i := 0) rfl
            have ff := hkb.frz 0
            have hset := hkb.set 0 (.string (bstr (filtTo s0 (k + 1))))
            have hbs := hbw.setCell (show w.heap.size ≤ (⟨b3, 0, none⟩ : Addr).block from HB3.out) (.string (bstr (filtTo s0 (k + 1))))
            have HS2 := Lib.hid (And.intro hlt (And.intro hpush (And.intro hset hbs)))
            clear hpush hset hbs hlt hsucc hok h3 hXB hXz hFB hfz hkb hbw hk1 hk2 hcb
            go_upto_region 11 with fail
            refine wp_region_still_tail 10 (by kernel_rfl) (by kernel_rfl) ?_
            simp only [List.take_succ_cons, List.take_zero, List.drop_succ_cons, List.drop_zero]
            change wpStill _ _ wr.drew (fun a' => wpList _ _ _ _ a' wr.drew) _ _
            have cc' : wr.drew.cell? ⟨b3, 0, none⟩ = _ := cc
            have ff' : wr.drew.frozen? ⟨b3, 0, none⟩ = false := ff
            repeat still_step
            try refine wpStill_nil ?_
            go_wp2_with fail
            have hpu := HS2.out.2.1
            rw [hpu]
            refine ⟨⟨k + 1, rfl, HS2.out.1.1, HS2.out.1.2, HS2.out.2.2.1.next (Below.refl _ _).drew, HS2.out.2.2.2.drew⟩, ?_⟩
            have := HS2.out.1.2
            show 200 - ((k : Int) + 1).toNat < 200 - (k : Int).toNat
            omega
          · have hok' : ok3 cb = false := by simpa using hok
            rw [hok', if_neg (by simp), List.append_nil] at hsucc
            have HS2 := Lib.hid (And.intro hlt (And.intro hsucc (And.intro hkb hbw)))
            have h3 : cb = 96 ∨ cb = 47 ∨ cb = 42 := by
              unfold ok3 at hok'
              simp at hok'
              by_cases e1 : cb = 96
              · exact .inl e1
              · by_cases e2 : cb = 47
                · exact .inr (.inl e2)
                · exact .inr (.inr (hok' e1 e2))
            clear hlt hsucc hok hok' hkb hbw hk1 hk2 hcb
            rcases h3 with rfl | rfl | rfl
            all_goals
              go_wp2_with fail
              refine ⟨⟨k + 1, rfl, HS2.out.1.1, HS2.out.1.2, by rw [HS2.out.2.1]; exact HS2.out.2.2.1, HS2.out.2.2.2⟩, ?_⟩
              have := HS2.out.1.2
              show 200 - ((k : Int) + 1).toNat < 200 - (k : Int).toNat
              omega
        · have hfin : filtTo s0 k = filtTo s0 200 := by
            by_cases h2 : k = 200
            · rw [h2]
            · obtain rfl : k = (s0).length := by omega
              exact (filtTo_all s0 (by omega)).symm
          obtain ⟨FB, hFB⟩ : ∃ FB, bstr (filtTo s0 k) = FB := ⟨_, rfl⟩
          have hpush : FB ++ ⟨#[10]⟩ = bstr (finT s0) := by
            rw [← hFB, show (⟨#[10]⟩ : ByteArray) = bstr [10] from rfl, bstr_app, hfin]; rfl
          have hfz : FB.size ≤ 200 := by rw [← hFB, bstr_size]; have := filtTo_le s0 k; omega
          have hcat : (9223372036854775807 < FB.size + 1) = False := eq_false (by omega)
          rw [hFB] at hkb
          have cc := hkb.cell (i := 0) rfl
          have ff := hkb.frz 0
          have hset := hkb.set 0 (.string (bstr (finT s0)))
          have hbs := hbw.setCell (show w.heap.size ≤ (⟨b3, 0, none⟩ : Addr).block from HB3.out) (.string (bstr (finT s0)))
          have HS2 := Lib.hid (And.intro hpush (And.intro hset hbs))
          by_cases hks : k < (s0).length
          · have hli : (k : Int) < (SB.size : Int) := by have := HSb.out.2; omega
            have hl2 : ¬ (k : Int) < 200 := by omega
            clear hpush hset hbs hlt hFB hfz hkb hbw hk1 hk2 hfin hks
            go_wp2_with fail
            rw [HS2.out.1]
            refine ⟨⟨0 + 1, _, _, _, rfl, by decide, ?_, ?_, ?_, HS2.out.2.1, HS2.out.2.2⟩, by decide⟩
            all_goals rfl
          · have hli : ¬ (k : Int) < (SB.size : Int) := by have := HSb.out.2; omega
            clear hpush hset hbs hlt hFB hfz hkb hbw hk1 hk2 hfin hks
            go_wp2_with fail
            rw [HS2.out.1]
            refine ⟨⟨0 + 1, _, _, _, rfl, by decide, ?_, ?_, ?_, HS2.out.2.1, HS2.out.2.2⟩, by decide⟩
            all_goals rfl
    | 1, _ =>
      have hx0' : x0 = finT s0 := by rw [hx0]; rfl
      have hx1' : x1 = [] := by rw [hx1]; rfl
      have hx2' : x2 = [] := by rw [hx2]; rfl
      clear hx0 hx1 hx2
      subst hx0'
      subst hx1'
      subst hx2'
      have HO := Lib.hid (And.intro hkb hbw)
      obtain ⟨SB, hSB⟩ : ∃ SB, a1 = SB := ⟨_, rfl⟩
      have HSb := HS1
      rw [hSB] at HSb ⊢
      have hix := ix3_1 a0 SB a2
      clear hkb hbw c0 c1 c2
      go_wp2_with fail
      go_loopw [6] (fun iv wr2 => ∃ k : Nat, iv = .int .i64 k ∧ k ≤ (s1).length ∧ k ≤ 200 ∧ Blk wr2 b3 42 (((fun v => [Value.string (bstr (finT s0)), v, Value.string (bstr [])])) (Value.string (bstr (filtTo s1 k)))) ∧ Below w.heap.size w wr2) (fun iv _ => 200 - (intOf iv).toNat)
      case atStart => exact ⟨0, rfl, Nat.zero_le _, Nat.zero_le _, HO.out.1, HO.out.2⟩
      case round =>
        obtain ⟨k, rfl, hk1, hk2, hkb, hbw⟩ := hrel
        have hkw : IntKind.i64.wrap ((k : Int) + 1) = (k : Int) + 1 := i64_of (by omega)
        by_cases hlt : k < (s1).length ∧ k < 200
        · have hli : (k : Int) < (SB.size : Int) := by have := HSb.out.2; omega
          have hl2 : (k : Int) < 200 := by omega
          obtain ⟨cb, hcb⟩ : ∃ cb, (s1).getD k 0 = cb := ⟨_, rfl⟩
          have hatb : ∀ h : k < SB.size, SB[k] = cb := by
            intro h
            rw [← hcb]
            have e := HSb.out.1
            subst e
            exact bstr_at _ _ h
          have hsucc := filtTo_succ s1 k hlt.1
          rw [hcb] at hsucc
          by_cases hok : ok3 cb = true
          · have h3 : cb ≠ 96 ∧ cb ≠ 47 ∧ cb ≠ 42 := by
              unfold ok3 at hok
              simp at hok
              exact ⟨hok.1.1, hok.1.2, hok.2⟩
            have q1 : (((cb.toNat : Nat) : Int) == 96) = false := by
              have : cb.toNat ≠ 96 := fun e => h3.1 (UInt8.toNat_inj.1 e)
              simp; omega
            have q2 : (((cb.toNat : Nat) : Int) == 47) = false := by
              have : cb.toNat ≠ 47 := fun e => h3.2.1 (UInt8.toNat_inj.1 e)
              simp; omega
            have q3 : (((cb.toNat : Nat) : Int) == 42) = false := by
              have : cb.toNat ≠ 42 := fun e => h3.2.2 (UInt8.toNat_inj.1 e)
              simp; omega
            have q1b : (((cb.toNat : Nat) : Int) != 96) = true := by unfold bne; rw [q1]; rfl
            have q2b : (((cb.toNat : Nat) : Int) != 47) = true := by unfold bne; rw [q2]; rfl
            have q3b : (((cb.toNat : Nat) : Int) != 42) = true := by unfold bne; rw [q3]; rfl
            have q1i : ¬ ((cb.toNat : Nat) : Int) = 96 := by simpa using q1
            have q2i : ¬ ((cb.toNat : Nat) : Int) = 47 := by simpa using q2
            have q3i : ¬ ((cb.toNat : Nat) : Int) = 42 := by simpa using q3
            rw [if_pos hok] at hsucc
            obtain ⟨XB, hXB⟩ : ∃ XB, SB.extract k (k + 1) = XB := ⟨_, rfl⟩
            have hXz : XB.size = 1 := by rw [← hXB, ByteArray.size_extract]; omega
            have hsl1 : ∀ w', (Instr.slice 9 (Value.string SB) (some (Value.int IntKind.i64 k)) (some (Value.int IntKind.i64 ((k : Int) + 1))) none).run Tryd.prog w' = .ok (.string XB) w' := by
              intro w'
              have h := run_slice_string (P := Tryd.prog) (w := w') 9 SB .i64 .i64 k ((k : Int) + 1) Tryd.underlying9 (by omega) (by omega) (by omega)
              rw [h, ← hXB]; congr 3
            obtain ⟨FB, hFB⟩ : ∃ FB, bstr (filtTo s1 k) = FB := ⟨_, rfl⟩
            have hpush : FB ++ XB = bstr (filtTo s1 (k + 1)) := by
              rw [← hFB, ← hXB, ← HSb.out.1, bstr_push _ _ _ hlt.1, hsucc, hcb]
            have hfz : FB.size ≤ 200 := by rw [← hFB, bstr_size]; have := filtTo_le s1 k; omega
            have hcat : (9223372036854775807 < FB.size + XB.size) = False := eq_false (by omega)
            rw [hFB] at hkb
            have cc := hkb.cell (i := 1) rfl
            have ff := hkb.frz 1
            have hset := hkb.set 1 (.string (bstr (filtTo s1 (k + 1))))
            have hbs := hbw.setCell (show w.heap.size ≤ (⟨b3, 1, none⟩ : Addr).block from HB3.out) (.string (bstr (filtTo s1 (k + 1))))
            have HS2 := Lib.hid (And.intro hlt (And.intro hpush (And.intro hset hbs)))
            clear hpush hset hbs hlt hsucc hok h3 hXB hXz hFB hfz hkb hbw hk1 hk2 hcb
            go_upto_region 11 with fail
            refine wp_region_still_tail 10 (by kernel_rfl) (by kernel_rfl) ?_
            simp only [List.take_succ_cons, List.take_zero, List.drop_succ_cons, List.drop_zero]
            change wpStill _ _ wr.drew (fun a' => wpList _ _ _ _ a' wr.drew) _ _
            have cc' : wr.drew.cell? ⟨b3, 1, none⟩ = _ := cc
            have ff' : wr.drew.frozen? ⟨b3, 1, none⟩ = false := ff
            repeat still_step
            try refine wpStill_nil ?_
            go_wp2_with fail
            have hpu := HS2.out.2.1
            rw [hpu]
            refine ⟨⟨k + 1, rfl, HS2.out.1.1, HS2.out.1.2, HS2.out.2.2.1.next (Below.refl _ _).drew, HS2.out.2.2.2.drew⟩, ?_⟩
            have := HS2.out.1.2
            show 200 - ((k : Int) + 1).toNat < 200 - (k : Int).toNat
            omega
          · have hok' : ok3 cb = false := by simpa using hok
            rw [hok', if_neg (by simp), List.append_nil] at hsucc
            have HS2 := Lib.hid (And.intro hlt (And.intro hsucc (And.intro hkb hbw)))
            have h3 : cb = 96 ∨ cb = 47 ∨ cb = 42 := by
              unfold ok3 at hok'
              simp at hok'
              by_cases e1 : cb = 96
              · exact .inl e1
              · by_cases e2 : cb = 47
                · exact .inr (.inl e2)
                · exact .inr (.inr (hok' e1 e2))
            clear hlt hsucc hok hok' hkb hbw hk1 hk2 hcb
            rcases h3 with rfl | rfl | rfl
            all_goals
              go_wp2_with fail
              refine ⟨⟨k + 1, rfl, HS2.out.1.1, HS2.out.1.2, by rw [HS2.out.2.1]; exact HS2.out.2.2.1, HS2.out.2.2.2⟩, ?_⟩
              have := HS2.out.1.2
              show 200 - ((k : Int) + 1).toNat < 200 - (k : Int).toNat
              omega
        · have hfin : filtTo s1 k = filtTo s1 200 := by
            by_cases h2 : k = 200
            · rw [h2]
            · obtain rfl : k = (s1).length := by omega
              exact (filtTo_all s1 (by omega)).symm
          obtain ⟨FB, hFB⟩ : ∃ FB, bstr (filtTo s1 k) = FB := ⟨_, rfl⟩
          have hpush : FB ++ ⟨#[10]⟩ = bstr (finT s1) := by
            rw [← hFB, show (⟨#[10]⟩ : ByteArray) = bstr [10] from rfl, bstr_app, hfin]; rfl
          have hfz : FB.size ≤ 200 := by rw [← hFB, bstr_size]; have := filtTo_le s1 k; omega
          have hcat : (9223372036854775807 < FB.size + 1) = False := eq_false (by omega)
          rw [hFB] at hkb
          have cc := hkb.cell (i := 1) rfl
          have ff := hkb.frz 1
          have hset := hkb.set 1 (.string (bstr (finT s1)))
          have hbs := hbw.setCell (show w.heap.size ≤ (⟨b3, 1, none⟩ : Addr).block from HB3.out) (.string (bstr (finT s1)))
          have HS2 := Lib.hid (And.intro hpush (And.intro hset hbs))
          by_cases hks : k < (s1).length
          · have hli : (k : Int) < (SB.size : Int) := by have := HSb.out.2; omega
            have hl2 : ¬ (k : Int) < 200 := by omega
            clear hpush hset hbs hlt hFB hfz hkb hbw hk1 hk2 hfin hks
            go_wp2_with fail
            rw [HS2.out.1]
            refine ⟨⟨1 + 1, _, _, _, rfl, by decide, ?_, ?_, ?_, HS2.out.2.1, HS2.out.2.2⟩, by decide⟩
            all_goals rfl
          · have hli : ¬ (k : Int) < (SB.size : Int) := by have := HSb.out.2; omega
            clear hpush hset hbs hlt hFB hfz hkb hbw hk1 hk2 hfin hks
            go_wp2_with fail
            rw [HS2.out.1]
            refine ⟨⟨1 + 1, _, _, _, rfl, by decide, ?_, ?_, ?_, HS2.out.2.1, HS2.out.2.2⟩, by decide⟩
            all_goals rfl
    | 2, _ =>
      have hx0' : x0 = finT s0 := by rw [hx0]; rfl
      have hx1' : x1 = finT s1 := by rw [hx1]; rfl
      have hx2' : x2 = [] := by rw [hx2]; rfl
      clear hx0 hx1 hx2
      subst hx0'
      subst hx1'
      subst hx2'
      have HO := Lib.hid (And.intro hkb hbw)
      obtain ⟨SB, hSB⟩ : ∃ SB, a2 = SB := ⟨_, rfl⟩
      have HSb := HS2
      rw [hSB] at HSb ⊢
      have hix := ix3_2 a0 a1 SB
      clear hkb hbw c0 c1 c2
      go_wp2_with fail
      go_loopw [6] (fun iv wr2 => ∃ k : Nat, iv = .int .i64 k ∧ k ≤ (s2).length ∧ k ≤ 200 ∧ Blk wr2 b3 42 (((fun v => [Value.string (bstr (finT s0)), Value.string (bstr (finT s1)), v])) (Value.string (bstr (filtTo s2 k)))) ∧ Below w.heap.size w wr2) (fun iv _ => 200 - (intOf iv).toNat)
      case atStart => exact ⟨0, rfl, Nat.zero_le _, Nat.zero_le _, HO.out.1, HO.out.2⟩
      case round =>
        obtain ⟨k, rfl, hk1, hk2, hkb, hbw⟩ := hrel
        have hkw : IntKind.i64.wrap ((k : Int) + 1) = (k : Int) + 1 := i64_of (by omega)
        by_cases hlt : k < (s2).length ∧ k < 200
        · have hli : (k : Int) < (SB.size : Int) := by have := HSb.out.2; omega
          have hl2 : (k : Int) < 200 := by omega
          obtain ⟨cb, hcb⟩ : ∃ cb, (s2).getD k 0 = cb := ⟨_, rfl⟩
          have hatb : ∀ h : k < SB.size, SB[k] = cb := by
            intro h
            rw [← hcb]
            have e := HSb.out.1
            subst e
            exact bstr_at _ _ h
          have hsucc := filtTo_succ s2 k hlt.1
          rw [hcb] at hsucc
          by_cases hok : ok3 cb = true
          · have h3 : cb ≠ 96 ∧ cb ≠ 47 ∧ cb ≠ 42 := by
              unfold ok3 at hok
              simp at hok
              exact ⟨hok.1.1, hok.1.2, hok.2⟩
            have q1 : (((cb.toNat : Nat) : Int) == 96) = false := by
              have : cb.toNat ≠ 96 := fun e => h3.1 (UInt8.toNat_inj.1 e)
              simp; omega
            have q2 : (((cb.toNat : Nat) : Int) == 47) = false := by
              have : cb.toNat ≠ 47 := fun e => h3.2.1 (UInt8.toNat_inj.1 e)
              simp; omega
            have q3 : (((cb.toNat : Nat) : Int) == 42) = false := by
              have : cb.toNat ≠ 42 := fun e => h3.2.2 (UInt8.toNat_inj.1 e)
              simp; omega
            have q1b : (((cb.toNat : Nat) : Int) != 96) = true := by unfold bne; rw [q1]; rfl
            have q2b : (((cb.toNat : Nat) : Int) != 47) = true := by unfold bne; rw [q2]; rfl
            have q3b : (((cb.toNat : Nat) : Int) != 42) = true := by unfold bne; rw [q3]; rfl
            have q1i : ¬ ((cb.toNat : Nat) : Int) = 96 := by simpa using q1
            have q2i : ¬ ((cb.toNat : Nat) : Int) = 47 := by simpa using q2
            have q3i : ¬ ((cb.toNat : Nat) : Int) = 42 := by simpa using q3
            rw [if_pos hok] at hsucc
            obtain ⟨XB, hXB⟩ : ∃ XB, SB.extract k (k + 1) = XB := ⟨_, rfl⟩
            have hXz : XB.size = 1 := by rw [← hXB, ByteArray.size_extract]; omega
            have hsl1 : ∀ w', (Instr.slice 9 (Value.string SB) (some (Value.int IntKind.i64 k)) (some (Value.int IntKind.i64 ((k : Int) + 1))) none).run Tryd.prog w' = .ok (.string XB) w' := by
              intro w'
              have h := run_slice_string (P := Tryd.prog) (w := w') 9 SB .i64 .i64 k ((k : Int) + 1) Tryd.underlying9 (by omega) (by omega) (by omega)
              rw [h, ← hXB]; congr 3
            obtain ⟨FB, hFB⟩ : ∃ FB, bstr (filtTo s2 k) = FB := ⟨_, rfl⟩
            have hpush : FB ++ XB = bstr (filtTo s2 (k + 1)) := by
              rw [← hFB, ← hXB, ← HSb.out.1, bstr_push _ _ _ hlt.1, hsucc, hcb]
            have hfz : FB.size ≤ 200 := by rw [← hFB, bstr_size]; have := filtTo_le s2 k; omega
            have hcat : (9223372036854775807 < FB.size + XB.size) = False := eq_false (by omega)
            rw [hFB] at hkb
            have cc := hkb.cell (i := 2) rfl
            have ff := hkb.frz 2
            have hset := hkb.set 2 (.string (bstr (filtTo s2 (k + 1))))
            have hbs := hbw.setCell (show w.heap.size ≤ (⟨b3, 2, none⟩ : Addr).block from HB3.out) (.string (bstr (filtTo s2 (k + 1))))
            have HS2 := Lib.hid (And.intro hlt (And.intro hpush (And.intro hset hbs)))
            clear hpush hset hbs hlt hsucc hok h3 hXB hXz hFB hfz hkb hbw hk1 hk2 hcb
            go_upto_region 11 with fail
            refine wp_region_still_tail 10 (by kernel_rfl) (by kernel_rfl) ?_
            simp only [List.take_succ_cons, List.take_zero, List.drop_succ_cons, List.drop_zero]
            change wpStill _ _ wr.drew (fun a' => wpList _ _ _ _ a' wr.drew) _ _
            have cc' : wr.drew.cell? ⟨b3, 2, none⟩ = _ := cc
            have ff' : wr.drew.frozen? ⟨b3, 2, none⟩ = false := ff
            repeat still_step
            try refine wpStill_nil ?_
            go_wp2_with fail
            have hpu := HS2.out.2.1
            rw [hpu]
            refine ⟨⟨k + 1, rfl, HS2.out.1.1, HS2.out.1.2, HS2.out.2.2.1.next (Below.refl _ _).drew, HS2.out.2.2.2.drew⟩, ?_⟩
            have := HS2.out.1.2
            show 200 - ((k : Int) + 1).toNat < 200 - (k : Int).toNat
            omega
          · have hok' : ok3 cb = false := by simpa using hok
            rw [hok', if_neg (by simp), List.append_nil] at hsucc
            have HS2 := Lib.hid (And.intro hlt (And.intro hsucc (And.intro hkb hbw)))
            have h3 : cb = 96 ∨ cb = 47 ∨ cb = 42 := by
              unfold ok3 at hok'
              simp at hok'
              by_cases e1 : cb = 96
              · exact .inl e1
              · by_cases e2 : cb = 47
                · exact .inr (.inl e2)
                · exact .inr (.inr (hok' e1 e2))
            clear hlt hsucc hok hok' hkb hbw hk1 hk2 hcb
            rcases h3 with rfl | rfl | rfl
            all_goals
              go_wp2_with fail
              refine ⟨⟨k + 1, rfl, HS2.out.1.1, HS2.out.1.2, by rw [HS2.out.2.1]; exact HS2.out.2.2.1, HS2.out.2.2.2⟩, ?_⟩
              have := HS2.out.1.2
              show 200 - ((k : Int) + 1).toNat < 200 - (k : Int).toNat
              omega
        · have hfin : filtTo s2 k = filtTo s2 200 := by
            by_cases h2 : k = 200
            · rw [h2]
            · obtain rfl : k = (s2).length := by omega
              exact (filtTo_all s2 (by omega)).symm
          obtain ⟨FB, hFB⟩ : ∃ FB, bstr (filtTo s2 k) = FB := ⟨_, rfl⟩
          have hpush : FB ++ ⟨#[10]⟩ = bstr (finT s2) := by
            rw [← hFB, show (⟨#[10]⟩ : ByteArray) = bstr [10] from rfl, bstr_app, hfin]; rfl
          have hfz : FB.size ≤ 200 := by rw [← hFB, bstr_size]; have := filtTo_le s2 k; omega
          have hcat : (9223372036854775807 < FB.size + 1) = False := eq_false (by omega)
          rw [hFB] at hkb
          have cc := hkb.cell (i := 2) rfl
          have ff := hkb.frz 2
          have hset := hkb.set 2 (.string (bstr (finT s2)))
          have hbs := hbw.setCell (show w.heap.size ≤ (⟨b3, 2, none⟩ : Addr).block from HB3.out) (.string (bstr (finT s2)))
          have HS2 := Lib.hid (And.intro hpush (And.intro hset hbs))
          by_cases hks : k < (s2).length
          · have hli : (k : Int) < (SB.size : Int) := by have := HSb.out.2; omega
            have hl2 : ¬ (k : Int) < 200 := by omega
            clear hpush hset hbs hlt hFB hfz hkb hbw hk1 hk2 hfin hks
            go_wp2_with fail
            rw [HS2.out.1]
            refine ⟨⟨2 + 1, _, _, _, rfl, by decide, ?_, ?_, ?_, HS2.out.2.1, HS2.out.2.2⟩, by decide⟩
            all_goals rfl
          · have hli : ¬ (k : Int) < (SB.size : Int) := by have := HSb.out.2; omega
            clear hpush hset hbs hlt hFB hfz hkb hbw hk1 hk2 hfin hks
            go_wp2_with fail
            rw [HS2.out.1]
            refine ⟨⟨2 + 1, _, _, _, rfl, by decide, ?_, ?_, ?_, HS2.out.2.1, HS2.out.2.2⟩, by decide⟩
            all_goals rfl
    | 3, _ =>
      have hx0' : x0 = finT s0 := by rw [hx0]; rfl
      have hx1' : x1 = finT s1 := by rw [hx1]; rfl
      have hx2' : x2 = finT s2 := by rw [hx2]; rfl
      clear hx0 hx1 hx2
      subst hx0'
      subst hx1'
      subst hx2'
      have HO := Lib.hid (And.intro hkb hbw)
      have d0 := hkb.cell (i := 0) rfl
      have d1 := hkb.cell (i := 1) rfl
      have d2 := hkb.cell (i := 2) rfl
      obtain ⟨T0, hT0⟩ : ∃ T0, finT s0 = T0 := ⟨_, rfl⟩
      obtain ⟨T1, hT1⟩ : ∃ T1, finT s1 = T1 := ⟨_, rfl⟩
      obtain ⟨T2, hT2⟩ : ∃ T2, finT s2 = T2 := ⟨_, rfl⟩
      have l0 : T0.length ≤ 201 := by rw [← hT0]; exact finT_le s0
      have l1 : T1.length ≤ 201 := by rw [← hT1]; exact finT_le s1
      have l2 : T2.length ≤ 201 := by rw [← hT2]; exact finT_le s2
      have f0 : ∀ b ∈ T0, b ≠ 47 ∧ b ≠ 96 := by rw [← hT0]; exact finT_free s0
      have f1 : ∀ b ∈ T1, b ≠ 47 ∧ b ≠ 96 := by rw [← hT1]; exact finT_free s1
      have f2 : ∀ b ∈ T2, b ≠ 47 ∧ b ≠ 96 := by rw [← hT2]; exact finT_free s2
      have e0 : ∃ u, T0 = u ++ [10] := ⟨_, hT0.symm⟩
      have e2 : ∃ u, T2 = u ++ [10] := ⟨_, hT2.symm⟩
      rw [hT0] at d0
      rw [hT1] at d1
      rw [hT2] at d2
      obtain ⟨B0, hB0⟩ : ∃ B0, bstr T0 = B0 := ⟨_, rfl⟩
      obtain ⟨B1, hB1⟩ : ∃ B1, bstr T1 = B1 := ⟨_, rfl⟩
      obtain ⟨B2, hB2⟩ : ∃ B2, bstr T2 = B2 := ⟨_, rfl⟩
      rw [hB0] at d0
      rw [hB1] at d1
      rw [hB2] at d2
      have z0 : B0.size ≤ 201 := by rw [← hB0, bstr_size]; exact l0
      have z1 : B1.size ≤ 201 := by rw [← hB1, bstr_size]; exact l1
      have z2 : B2.size ≤ 201 := by rw [← hB2, bstr_size]; exact l2
      obtain ⟨IN, hIN⟩ : ∃ IN, IN = (⟨#[96, 105, 110, 99, 108, 117, 100, 101, 32, 34, 98, 34, 10]⟩ : ByteArray) := ⟨_, rfl⟩
      have hINb : IN = bstr (inclLine 98 ++ [10]) := hIN
      have ha1 : (9223372036854775807 < B0.size + 13) = False := eq_false (by omega)
      have ha2 : (9223372036854775807 < B0.size + 13 + B2.size) = False := eq_false (by omega)
      have ha3 : (9223372036854775807 < B0.size + B1.size) = False := eq_false (by omega)
      have ha4 : (9223372036854775807 < B0.size + B1.size + 1) = False := eq_false (by omega)
      have ha5 : (9223372036854775807 < B0.size + B1.size + 1 + B2.size) = False := eq_false (by omega)
      have hcat1 : B0 ++ IN ++ B2 = bstr (T0 ++ (inclLine 98 ++ 10 :: T2)) := by
        rw [← hB0, ← hB2, hINb, bstr_app, bstr_app]; simp
      have hcat2 : B0 ++ B1 ++ ⟨#[10]⟩ ++ B2 = bstr (T0 ++ (T1 ++ 10 :: T2)) := by
        rw [← hB0, ← hB1, ← hB2, show (⟨#[10]⟩ : ByteArray) = bstr [10] from rfl, bstr_app, bstr_app, bstr_app]; simp
      have HC := Lib.hid (And.intro hcat1 hcat2)
      clear hkb hbw hcat1 hcat2
      have HE1 := Lib.hid (bytes_two (w := wr) (HMax.out.below HO.out.2) (B0 ++ IN ++ B2) B1 T0 T1 T2 HC.out.1 hB1.symm l0 l1 l2 f0 f1 f2 e0 e2)
      have hfall : ∀ b ∈ T0 ++ (T1 ++ 10 :: T2), b ≠ 47 ∧ b ≠ 96 := by
        intro b hb
        rcases List.mem_append.1 hb with h | h
        · exact f0 b h
        · rcases List.mem_append.1 h with h | h
          · exact f1 b h
          · rcases List.mem_cons.1 h with rfl | h
            · decide
            · exact f2 b h
      have hlall : (T0 ++ (T1 ++ 10 :: T2)).length ≤ 1300 := by simp only [List.length_append, List.length_cons]; omega
      have HE2 := Lib.hid (fun (W' : World) (hm : Max W') => bytes_one (w := W') hm (B0 ++ B1 ++ ⟨#[10]⟩ ++ B2) (T0 ++ (T1 ++ 10 :: T2)) HC.out.2 hlall hfall)
      rw [hIN] at HE1
      obtain ⟨Z, hZ⟩ : ∃ Z, bstr (T0 ++ (T1 ++ 10 :: T2)) = Z := ⟨_, rfl⟩
      rw [hZ] at HE1 HE2
      have hzz : (Z.toList == Z.toList) = true := by simp
      clear l0 l1 l2 f0 f1 f2 e0 e2 hB0 hB1 hB2 hT0 hT1 hT2 hIN hINb HC hfall hlall hZ z0 z1 z2
      go_wp2_with fail
      refine HE1.out.mono ?_; rintro e w2 ⟨rfl, hb2⟩
      have H2 := Lib.hid (And.intro (HO.out.1.next hb2) (Below.next HO.out.2 hb2))
      have d0' := (hb2.cell (p := ⟨b3, 0, none⟩) HO.out.1.lt).trans d0
      have d1' := (hb2.cell (p := ⟨b3, 1, none⟩) HO.out.1.lt).trans d1
      have d2' := (hb2.cell (p := ⟨b3, 2, none⟩) HO.out.1.lt).trans d2
      clear d0 d1 d2 hb2
      go_wp2_with fail
      refine (HE2.out w2 (HMax.out.below H2.out.2)).mono ?_; rintro e w3 ⟨rfl, hb3⟩
      have H3 := Lib.hid (Below.next H2.out.2 hb3)
      clear hb3
      go_wp2_with fail
      go_ret
      exact ⟨rfl, H3.out⟩
end Go.Proofs.YtleipnipohpkoaaDoor
