/- Texts of this claim, one behind another: E35, P8, E36. They state lemmas; each names its own conditions. -/
import Derived.Test.YtleipnipohpkoaaDoorZK
import Derived.Deep.CutRange
namespace Go.Proofs.YtleipnipohpkoaaDoor
set_option linter.unusedVariables false
open Go.RowKit Go.Maps

/-! # lineUp -/
def lu : UInt8 → Bs → Bs
  | _, [] => []
  | p, c :: r => (if c = 96 ∧ p = 62 then [10] else []) ++ c :: lu c r
def pv (s : Bs) (i : Nat) : UInt8 := if i = 0 then 0 else s.getD (i - 1) 0
theorem lu_le : ∀ (s : Bs) (p : UInt8), (lu p s).length ≤ 2 * s.length
  | [], _ => Nat.le_refl _
  | c :: r, p => by
    have := lu_le r c
    unfold lu
    rw [List.length_append, List.length_cons, List.length_cons]
    have h2 : (if c = 96 ∧ p = 62 then ([10] : Bs) else []).length ≤ 1 := by split <;> simp
    omega
def lastB : UInt8 → Bs → UInt8
  | p, [] => p
  | _, c :: r => lastB c r
theorem lu_app : ∀ (a b : Bs) (p : UInt8), lu p (a ++ b) = lu p a ++ lu (lastB p a) b
  | [], b, p => rfl
  | c :: r, b, p => by
    show (if c = 96 ∧ p = 62 then [10] else []) ++ c :: lu c (r ++ b) = _
    rw [lu_app r b c]
    show _ = ((if c = 96 ∧ p = 62 then [10] else []) ++ c :: lu c r) ++ _
    simp [lastB]
theorem lu_step (s : Bs) (i : Nat) (h : i < s.length) : lu (pv s i) (s.drop i) = (if s.getD i 0 = 96 ∧ pv s i = 62 then [10] else []) ++ ([s.getD i 0] ++ lu (pv s (i + 1)) (s.drop (i + 1))) := by
  rw [List.drop_eq_getElem_cons h]
  have e : s[i] = s.getD i 0 := by simp [List.getD, List.getElem?_eq_getElem h]
  rw [e]
  have e2 : pv s (i + 1) = s.getD i 0 := by unfold pv; rw [if_neg (by omega), Nat.add_sub_cancel]
  rw [e2]
  rfl
set_option maxRecDepth 100000 in
set_option maxHeartbeats 8000000 in
theorem lineUp_any {w : World} (s : Bs) (hs : s.length ≤ 100000) : Calls Tryd.prog 10 #[.string (bstr s)] w fun e w' => e = .returned (.string (bstr (lu 0 s))) ∧ w' = w := by
  obtain ⟨S, hS⟩ : ∃ S, bstr s = S := ⟨_, rfl⟩
  have hsz : S.size = s.length := by rw [← hS, bstr_size]
  have HS := Lib.hid (And.intro hS (And.intro hsz hs))
  have hsi : (S.size : Int) ≤ 100000 := by omega
  rw [hS]
  clear hS hsz hs
  go_enter Tryd.func10, Tryd.ntmps10
  go_wp2_with fail
  go_loopw [3, 7] (fun ov iv wr => ∃ (i : Nat) (x : Bs) (ob : ByteArray), ov = .string ob ∧ iv = .int .i64 i ∧ bstr x = ob ∧ i ≤ s.length ∧ x.length ≤ 2 * i ∧ wr = w ∧ x ++ lu (pv s i) (s.drop i) = lu 0 s) (fun _ iv _ => s.length - (intOf iv).toNat)
  case atStart => exact ⟨0, [], _, rfl, rfl, rfl, Nat.zero_le _, Nat.zero_le _, rfl, rfl⟩
  case round =>
    obtain ⟨i, x, ob, rfl, rfl, hob, hil, hxl, hwr, hx⟩ := hrel
    obtain rfl : wr = w := hwr
    have hiw : IntKind.i64.wrap ((i : Int) + 1) = (i : Int) + 1 := i64_of (by have := HS.out; omega)
    by_cases hi : i < s.length
    · have hii : (i : Int) < (S.size : Int) := by have := HS.out; omega
      have hii2 : (i : Int) + 1 ≤ (S.size : Int) := by omega
      obtain ⟨cb, hcb⟩ : ∃ cb, s.getD i 0 = cb := ⟨_, rfl⟩
      have hatb : ∀ h : i < S.size, S[i] = cb := by
        intro h
        rw [← hcb]
        have e := HS.out.1
        subst e
        exact bstr_at _ _ h
      obtain ⟨XB, hXB⟩ : ∃ XB, S.extract i (i + 1) = XB := ⟨_, rfl⟩
      have hXz : XB.size = 1 := by rw [← hXB, ByteArray.size_extract]; omega
      have hsl1 : ∀ w', (Instr.slice 9 (Value.string S) (some (Value.int IntKind.i64 i)) (some (Value.int IntKind.i64 ((i : Int) + 1))) none).run Tryd.prog w' = .ok (.string XB) w' := by
        intro w'
        have h := run_slice_string (P := Tryd.prog) (w := w') 9 S .i64 .i64 i ((i : Int) + 1) Tryd.underlying9 (by omega) (by omega) (by omega)
        rw [h, ← hXB]; congr 3
      have hobz : ob.size = x.length := by rw [← hob, bstr_size]
      have hcat : (9223372036854775807 < ob.size + 1) = False := eq_false (by have := HS.out; omega)
      have hcat2 : (9223372036854775807 < ob.size + XB.size) = False := eq_false (by have := HS.out; omega)
      have hcat3 : (9223372036854775807 < ob.size + 1 + XB.size) = False := eq_false (by have := HS.out; omega)
      have hcat4 : (9223372036854775807 < ob.size + 1 + 1) = False := eq_false (by have := HS.out; omega)
      have hcat5 : (9223372036854775807 < ob.size + (1 + 1)) = False := eq_false (by have := HS.out; omega)
      have hcat6 : (9223372036854775807 < ob.size + 2) = False := eq_false (by have := HS.out; omega)
      have hst := lu_step s i hi
      rw [hcb] at hst
      have hp1 : ∀ y : Bs, bstr (y ++ [cb]) = bstr y ++ XB := by
        intro y
        rw [← hXB, ← HS.out.1, ← hcb]
        exact (bstr_push y s i hi).symm
      have HI := Lib.hid (And.intro hi (And.intro hob (And.intro hxl (And.intro hx (And.intro hst hp1)))))
      by_cases h96 : cb = 96
      · by_cases h0 : i = 0
        · subst h0
          subst h96
          have hsl0 : ∀ w', (Instr.slice 9 (Value.string S) (some (Value.int IntKind.i64 0)) (some (Value.int IntKind.i64 1)) none).run Tryd.prog w' = .ok (.string XB) w' := fun w' => hsl1 w'
          clear hi hob hxl hx hst hp1 hXB hcb hil hobz
          go_wp2_with fail
          go_round
          case rel =>
            obtain ⟨a1, a2, a3, a4, a5, a6⟩ := HI.out
            rw [a5, if_neg (by rintro ⟨_, h⟩; cases h), List.nil_append, ← List.append_assoc] at a4
            exact ⟨1, x ++ [96], _, rfl, rfl, by rw [a6, a2], a1, by rw [List.length_append, List.length_singleton]; omega, by first | rfl | trivial, a4⟩
          case measure =>
            have := HI.out.1
            show s.length - ((0 : Int) + 1).toNat < s.length - (0 : Int).toNat
            omega
        · obtain ⟨j, rfl⟩ : ∃ j, i = j + 1 := ⟨i - 1, by omega⟩
          have hjw : IntKind.i64.wrap (((j + 1 : Nat) : Int) - 1) = (j : Int) := by rw [i64_of (by omega)]; omega
          obtain ⟨pb, hpb⟩ : ∃ pb, s.getD j 0 = pb := ⟨_, rfl⟩
          have hatp : ∀ h : j < S.size, S[j] = pb := by
            intro h
            rw [← hpb]
            have e := HS.out.1
            subst e
            exact bstr_at _ _ h
          have hji : (j : Int) < (S.size : Int) := by omega
          have hpv : pv s (j + 1) = pb := by unfold pv; rw [if_neg (by omega), Nat.add_sub_cancel, hpb]
          have hjp : (0 : Int) < ((j + 1 : Nat) : Int) := by omega
          have hjp2 : (0 : Int) < (j : Int) + 1 := by omega
          have hnl : ∀ y : Bs, bstr (y ++ [10]) = bstr y ++ ⟨#[10]⟩ := fun y => by rw [show (⟨#[10]⟩ : ByteArray) = bstr [10] from rfl, bstr_app]
          have hjw2 : IntKind.i64.wrap ((j : Int) + 1 - 1) = (j : Int) := by rw [i64_of (by omega)]; omega
          have hslj : ∀ w', (Instr.slice 9 (Value.string S) (some (Value.int IntKind.i64 ((j : Int) + 1))) (some (Value.int IntKind.i64 ((j : Int) + 1 + 1))) none).run Tryd.prog w' = .ok (.string XB) w' := fun w' => hsl1 w'
          have HJ := Lib.hid (And.intro hpv hnl)
          subst h96
          clear hi hob hxl hx hst hp1 hXB hcb hil hobz h0 hpb hpv hnl
          by_cases h62 : pb = 62
          · subst h62
            go_wp2_with fail
            go_round
            case rel =>
              obtain ⟨a1, a2, a3, a4, a5, a6⟩ := HI.out
              rw [a5, if_pos ⟨rfl, HJ.out.1⟩, ← List.append_assoc, ← List.append_assoc] at a4
              exact ⟨j + 1 + 1, x ++ [10] ++ [96], _, rfl, rfl, by rw [a6, HJ.out.2, a2], a1, by simp only [List.length_append, List.length_singleton]; omega, by first | rfl | trivial, a4⟩
            case measure =>
              have := HI.out.1
              show s.length - ((j : Int) + 1 + 1).toNat < s.length - ((j : Int) + 1).toNat
              omega
          · have hc62 : (((pb.toNat : Nat) : Int) == 62) = false := by
              have : pb.toNat ≠ 62 := fun e => h62 (UInt8.toNat_inj.1 e)
              simp; omega
            have H62 := Lib.hid h62
            clear h62
            go_wp2_with fail
            go_round
            case rel =>
              obtain ⟨a1, a2, a3, a4, a5, a6⟩ := HI.out
              rw [a5, if_neg (fun h => H62.out (HJ.out.1 ▸ h.2)), List.nil_append, ← List.append_assoc] at a4
              exact ⟨j + 1 + 1, x ++ [96], _, rfl, rfl, by rw [a6, a2], a1, by rw [List.length_append, List.length_singleton]; omega, by first | rfl | trivial, a4⟩
            case measure =>
              have := HI.out.1
              show s.length - ((j : Int) + 1 + 1).toNat < s.length - ((j : Int) + 1).toNat
              omega
      · have hc96 : (((cb.toNat : Nat) : Int) == 96) = false := by
          have : cb.toNat ≠ 96 := fun e => h96 (UInt8.toNat_inj.1 e)
          simp; omega
        have H96 := Lib.hid h96
        clear hi hob hxl hx hst hp1 hXB hcb hil hobz h96
        go_wp2_with fail
        go_round
        case rel =>
          obtain ⟨a1, a2, a3, a4, a5, a6⟩ := HI.out
          rw [a5, if_neg (fun h => H96.out h.1), List.nil_append, ← List.append_assoc] at a4
          exact ⟨i + 1, x ++ [cb], _, rfl, rfl, by rw [a6, a2], a1, by rw [List.length_append, List.length_singleton]; omega, by first | rfl | trivial, a4⟩
        case measure =>
          have := HI.out.1
          show s.length - ((i : Int) + 1).toNat < s.length - (i : Int).toNat
          omega
    · have hii : ¬ (i : Int) < (S.size : Int) := by have := HS.out; omega
      obtain rfl : i = s.length := by omega
      have hfin : x = lu 0 s := by
        rw [List.drop_of_length_le (Nat.le_refl _)] at hx
        rw [← hx]; exact (List.append_nil _).symm
      have HF := Lib.hid (show ob = bstr (lu 0 s) by rw [← hob, hfin])
      clear hi hil hxl hx hfin hob
      go_wp2_with fail
      go_ret
      exact ⟨by rw [HF.out]; rfl, by first | rfl | trivial⟩
end Go.Proofs.YtleipnipohpkoaaDoor
namespace Go.Proofs.YtleipnipohpkoaaDoor
set_option linter.unusedVariables false
open Go.RowKit Go.Maps

/-! # PreDefines: the text -/
def headA (b : UInt8) : Bs := flat [lIfdef, lDefX [b], lElse, lDefN, lDefX [b, b], lEndif]
def tailA : Bs := flat [lUndef] ++ flat [lIfndef, [40, 96, 88, 41], lElse, lNo, lEndif]
def rawB (b : UInt8) (on : Bool) : Bs := headA b ++ (if on = true then [60, 96, 88, 62] else []) ++ tailA
def raws (l : List (Fin 26 × Bool)) : Bs := l.flatMap fun p => rawB (low p.1.val) p.2
theorem raws_snoc (l : List (Fin 26 × Bool)) (p : Fin 26 × Bool) : raws (l ++ [p]) = raws l ++ rawB (low p.1.val) p.2 := by simp [raws]
theorem wants_snoc : ∀ (l : List (Fin 26 × Bool)) (p : Fin 26 × Bool) (first : Bool), wants first (l ++ [p]) = wants first l ++ wantOf (first && l.isEmpty) (low p.1.val) p.2
  | [], p, first => by
    show wantOf first _ _ ++ [] = [] ++ _
    simp
  | q :: l, p, first => by
    show wantOf first _ _ ++ wants false (l ++ [p]) = (wantOf first _ _ ++ wants false l) ++ _
    rw [wants_snoc l p false]
    simp
set_option maxRecDepth 1000000 in
theorem raw_block : ∀ (k : Fin 26) (on : Bool), lu 10 (rawB (low k.val) on) = flat (block (low k.val) on) ∧ lu 0 (rawB (low k.val) on) = flat (block (low k.val) on) ∧ lastB 10 (rawB (low k.val) on) = 10 ∧ lastB 0 (rawB (low k.val) on) = 10 ∧ (rawB (low k.val) on).length ≤ 103 ∧ (flat (block (low k.val) on)).length ≤ 104 := by decide
theorem lu_raws : ∀ (l : List (Fin 26 × Bool)) (p : UInt8), p = 10 ∨ p = 0 → lu p (raws l) = flat (blocks l)
  | [], p, _ => rfl
  | (k, on) :: l, p, hp => by
    show lu p (rawB (low k.val) on ++ raws l) = flat (block (low k.val) on ++ blocks l)
    rw [lu_app]
    have h := raw_block k on
    have hl : lastB p (rawB (low k.val) on) = 10 := by rcases hp with rfl | rfl; exact h.2.2.1; exact h.2.2.2.1
    have hb : lu p (rawB (low k.val) on) = flat (block (low k.val) on) := by rcases hp with rfl | rfl; exact h.1; exact h.2.1
    rw [hl, hb, lu_raws l 10 (.inl rfl)]
    unfold flat
    rw [List.flatMap_append]
theorem raws_len : ∀ l : List (Fin 26 × Bool), (raws l).length ≤ 103 * l.length
  | [] => Nat.le_refl _
  | (k, on) :: l => by
    show (rawB (low k.val) on ++ raws l).length ≤ _
    have := (raw_block k on).2.2.2.2.1
    have := raws_len l
    rw [List.length_append, List.length_cons]; omega
theorem flat_len : ∀ l : List (Fin 26 × Bool), (flat (blocks l)).length ≤ 104 * l.length
  | [] => Nat.le_refl _
  | (k, on) :: l => by
    have h : flat (blocks ((k, on) :: l)) = flat (block (low k.val) on) ++ flat (blocks l) := by show flat (block _ _ ++ blocks l) = _; unfold flat; rw [List.flatMap_append]
    have := (raw_block k on).2.2.2.2.2
    have := flat_len l
    rw [h, List.length_append, List.length_cons]; omega
theorem wants_len : ∀ (l : List (Fin 26 × Bool)) (first : Bool), (wants first l).length ≤ 8 * l.length
  | [], _ => Nat.le_refl _
  | (k, on) :: l, first => by
    have : (wantOf first (low k.val) on).length ≤ 8 := by
      unfold wantOf bodyOf
      cases on <;> cases first <;> simp
    have := wants_len l false
    show (wantOf first (low k.val) on ++ wants false l).length ≤ _
    rw [List.length_append, List.length_cons]; omega
theorem block_len (b : UInt8) (on : Bool) : (block b on).length ≤ 13 := by cases on <;> simp [block, useLine]
theorem blocks_len : ∀ l : List (Fin 26 × Bool), (blocks l).length ≤ 13 * l.length
  | [] => Nat.le_refl _
  | (k, on) :: l => by
    have := block_len (low k.val) on
    have := blocks_len l
    show (block _ _ ++ blocks l).length ≤ _
    rw [List.length_append, List.length_cons]; omega
set_option maxRecDepth 100000 in
theorem line_one (c : Nat → Nat) (find : Bs → Nat) : ∀ (k : Fin 26) (on : Bool), ∀ x ∈ block (low k.val) on, cLine c find x ≤ 1 ∧ ∀ b ∈ x, b ≠ 10 := by
  intro k on x hx
  have h1 : ∀ (x : Bs), (trimL x ≠ [] ∧ (trimL x).getD 0 0 = 96) → name ((trimL x).drop 1) ≠ wInclude → cLine c find x ≤ 1 := by
    intro x h h2
    unfold cLine
    rw [if_pos h]
    unfold cDir
    split
    · split <;> omega
    · first | exact Nat.zero_le _ | (rw [if_neg h2]; exact Nat.zero_le _)
  have h0 : ∀ (x : Bs), ¬ (trimL x ≠ [] ∧ (trimL x).getD 0 0 = 96) → cLine c find x ≤ 1 := by
    intro x h
    unfold cLine
    rw [if_neg h]; exact Nat.zero_le _
  have hall : ∀ (k : Fin 26) (on : Bool), ∀ x ∈ block (low k.val) on, ((trimL x ≠ [] ∧ (trimL x).getD 0 0 = 96) → name ((trimL x).drop 1) ≠ wInclude) ∧ ∀ b ∈ x, b ≠ 10 := by decide
  obtain ⟨h2, h3⟩ := hall k on x hx
  refine ⟨?_, h3⟩
  by_cases h : trimL x ≠ [] ∧ (trimL x).getD 0 0 = 96
  · exact h1 x h (h2 h)
  · exact h0 x h
theorem lines_one (c : Nat → Nat) (find : Bs → Nat) : ∀ l : List (Fin 26 × Bool), ∀ x ∈ blocks l, cLine c find x ≤ 1 ∧ ∀ b ∈ x, b ≠ 10
  | [], x, hx => by cases hx
  | (k, on) :: l, x, hx => by
    rcases List.mem_append.1 hx with h | h
    · exact line_one c find k on x h
    · exact lines_one c find l x h
theorem blocks_bud {texts : Nat → Bs} {find : Bs → Nat} (l : List (Fin 26 × Bool)) (ht : ∀ n, texts n = flat (blocks l) ∨ texts n = []) (hl : l.length ≤ 12) (n : Nat) : cFile texts find 8 n ≤ bigN := by
  show cFile texts find (7 + 1) n ≤ _
  unfold cFile
  rcases ht n with h | h
  · rw [h, plainP_free (blocks_free l)]
    refine Nat.le_trans (cLines_flat (blocks l) _ _ 0 (lines_one _ _ l) rfl) (Nat.le_trans (blocks_len l) ?_)
    unfold bigN; omega
  · rw [h]; exact Nat.zero_le _
end Go.Proofs.YtleipnipohpkoaaDoor
namespace Go.Proofs.YtleipnipohpkoaaDoor
set_option linter.unusedVariables false
open Go.RowKit Go.Maps

/-! # PreDefines, the walk -/
theorem run_byte (w : World) (x : Int) : (convert 39 9 (.slice (some ⟨w.heap.size, 0, none⟩) 1 1)).run Tryd.prog (w.alloc (.cells #[.int .u8 x] 5)) = .ok (.string ⟨#[UInt8.ofNat x.toNat]⟩) (w.alloc (.cells #[.int .u8 x] 5)) := by
  have hb := Blk.new (w := w) 5 [.int .u8 x]
  rw [run_convert_bytes_string _ 39 9 5 _ 1 1 Tryd.underlying39 Tryd.underlying5 Tryd.underlying9]
  rw [run_bytesToString _ ⟨w.heap.size, 0, none⟩ 1 1 [x]]
  · rfl
  · rw [run_loadCells _ ⟨w.heap.size, 0, none⟩ 1 (fun j => .int .u8 x) (fun j hj => by
      obtain rfl : j = 0 := by omega
      exact hb.cell (i := 0) rfl)]
    rfl
theorem fin26 (b : Int) : ∃ k : Fin 26, (b.tmod 26 + 26).tmod 26 = (k.val : Int) ∧ IntKind.i64.wrap (b.tmod 26 + 26) = b.tmod 26 + 26 := by
  have h1 : -26 < b.tmod 26 := by have := Int.lt_tmod_of_pos b (b := 26) (by omega); omega
  have h2 : b.tmod 26 < 26 := Int.tmod_lt_of_pos b (by omega)
  have h3 : 0 ≤ (b.tmod 26 + 26).tmod 26 := Int.tmod_nonneg _ (by omega)
  have h4 : (b.tmod 26 + 26).tmod 26 < 26 := Int.tmod_lt_of_pos _ (by omega)
  exact ⟨⟨((b.tmod 26 + 26).tmod 26).toNat, by omega⟩, by simp only; omega, i64_of (by omega)⟩
theorem low_of (k : Fin 26) : (⟨#[UInt8.ofNat (97 + (k.val : Int)).toNat]⟩ : ByteArray) = bstr [low k.val] := by
  have : (97 + (k.val : Int)).toNat = 97 + k.val := by omega
  rw [this]; rfl
theorem head_txt (b : UInt8) : (⟨#[96, 105, 102, 100, 101, 102, 32, 78, 10, 96, 100, 101, 102, 105, 110, 101, 32, 88, 32]⟩ : ByteArray) ++ bstr [b] ++ ⟨#[10, 96, 101, 108, 115, 101, 10, 96, 100, 101, 102, 105, 110, 101, 32, 78, 10, 96, 100, 101, 102, 105, 110, 101, 32, 88, 32]⟩ ++ bstr [b] ++ bstr [b] ++ ⟨#[10, 96, 101, 110, 100, 105, 102, 10]⟩ = bstr (headA b) := by
  show bstr [96, 105, 102, 100, 101, 102, 32, 78, 10, 96, 100, 101, 102, 105, 110, 101, 32, 88, 32] ++ bstr [b] ++ bstr [10, 96, 101, 108, 115, 101, 10, 96, 100, 101, 102, 105, 110, 101, 32, 78, 10, 96, 100, 101, 102, 105, 110, 101, 32, 88, 32] ++ bstr [b] ++ bstr [b] ++ bstr [10, 96, 101, 110, 100, 105, 102, 10] = _
  rw [bstr_app, bstr_app, bstr_app, bstr_app, bstr_app]
  rfl
theorem txt_on (x : Bs) (b : UInt8) : bstr x ++ ((⟨#[96, 105, 102, 100, 101, 102, 32, 78, 10, 96, 100, 101, 102, 105, 110, 101, 32, 88, 32]⟩ : ByteArray) ++ bstr [b] ++ ⟨#[10, 96, 101, 108, 115, 101, 10, 96, 100, 101, 102, 105, 110, 101, 32, 78, 10, 96, 100, 101, 102, 105, 110, 101, 32, 88, 32]⟩ ++ bstr [b] ++ bstr [b] ++ ⟨#[10, 96, 101, 110, 100, 105, 102, 10]⟩) ++ ⟨#[60, 96, 88, 62]⟩ ++ ⟨#[96, 117, 110, 100, 101, 102, 32, 77, 10]⟩ ++ ⟨#[96, 105, 102, 110, 100, 101, 102, 32, 77, 10, 40, 96, 88, 41, 10, 96, 101, 108, 115, 101, 10, 96, 110, 111, 10, 96, 101, 110, 100, 105, 102, 10]⟩ = bstr (x ++ rawB b true) := by
  rw [head_txt]
  show bstr x ++ bstr (headA b) ++ bstr [60, 96, 88, 62] ++ bstr [96, 117, 110, 100, 101, 102, 32, 77, 10] ++ bstr [96, 105, 102, 110, 100, 101, 102, 32, 77, 10, 40, 96, 88, 41, 10, 96, 101, 108, 115, 101, 10, 96, 110, 111, 10, 96, 101, 110, 100, 105, 102, 10] = _
  rw [bstr_app, bstr_app, bstr_app, bstr_app]
  congr 1
  unfold rawB
  simp only [List.append_assoc]
  rfl
theorem txt_off (x : Bs) (b : UInt8) : bstr x ++ ((⟨#[96, 105, 102, 100, 101, 102, 32, 78, 10, 96, 100, 101, 102, 105, 110, 101, 32, 88, 32]⟩ : ByteArray) ++ bstr [b] ++ ⟨#[10, 96, 101, 108, 115, 101, 10, 96, 100, 101, 102, 105, 110, 101, 32, 78, 10, 96, 100, 101, 102, 105, 110, 101, 32, 88, 32]⟩ ++ bstr [b] ++ bstr [b] ++ ⟨#[10, 96, 101, 110, 100, 105, 102, 10]⟩) ++ ⟨#[96, 117, 110, 100, 101, 102, 32, 77, 10]⟩ ++ ⟨#[96, 105, 102, 110, 100, 101, 102, 32, 77, 10, 40, 96, 88, 41, 10, 96, 101, 108, 115, 101, 10, 96, 110, 111, 10, 96, 101, 110, 100, 105, 102, 10]⟩ = bstr (x ++ rawB b false) := by
  rw [head_txt]
  show bstr x ++ bstr (headA b) ++ bstr [96, 117, 110, 100, 101, 102, 32, 77, 10] ++ bstr [96, 105, 102, 110, 100, 101, 102, 32, 77, 10, 40, 96, 88, 41, 10, 96, 101, 108, 115, 101, 10, 96, 110, 111, 10, 96, 101, 110, 100, 105, 102, 10] = _
  rw [bstr_app, bstr_app, bstr_app]
  congr 1
  unfold rawB
  simp only [List.append_assoc]
  rfl
theorem wnt_on (y : Bs) (nb : Bs) : bstr y ++ ((⟨#[60]⟩ : ByteArray) ++ bstr nb ++ ⟨#[62]⟩) ++ ((⟨#[40]⟩ : ByteArray) ++ bstr nb ++ ⟨#[41]⟩) = bstr (y ++ (([60] ++ nb ++ [62]) ++ ([40] ++ nb ++ [41]))) := by
  show bstr y ++ (bstr [60] ++ bstr nb ++ bstr [62]) ++ (bstr [40] ++ bstr nb ++ bstr [41]) = _
  simp only [bstr_app, List.append_assoc]
theorem wnt_off (y : Bs) (nb : Bs) : bstr y ++ ((⟨#[40]⟩ : ByteArray) ++ bstr nb ++ ⟨#[41]⟩) = bstr (y ++ ([40] ++ nb ++ [41])) := by
  show bstr y ++ (bstr [40] ++ bstr nb ++ bstr [41]) = _
  simp only [bstr_app, List.append_assoc]
theorem exp_text {texts : Nat → Bs} {find : Bs → Nat} {top : Bs} (ht : ∀ n, (texts n).length ≤ 32768) (hb : cFile texts find 8 (find top) ≤ bigN) : ∀ i, i < (expandP texts find top).1.length → ((expandP texts find top).1.getD i default).text.length ≤ 65536 := by
  unfold expandP
  split
  · intro i hi; simp at hi
  · have g := fileP_gx (find := find) ht 8 x0 (find top) 0 0 0 wx0 (by show 0 + _ ≤ _; omega)
    simp only
    split
    · intro i hi; simp at hi
    · rename_i he
      have hf := g.wx.fx (by by_cases h : (fileP texts find 8 x0 (find top) 0 0 0).err = 0; exact h; exact absurd h he)
      exact fun i hi => Nat.le_trans (hf.text i hi) hf.size
theorem lexp_blocks {w : World} (hMax : Max w) (l : List (Fin 26 × Bool)) (hl : l.length ≤ 12) (TB : ByteArray) (hT : TB = bstr (flat (blocks l))) : ∃ out, noNl (outB out) = wants true l ∧ out.length ≤ 65536 ∧ (∀ i, i < out.length → (out.getD i default).text.length ≤ 65536) ∧
    Calls Tryd.prog 8 #[.slice (some ⟨w.heap.size, 0, none⟩) 1 1, .string ⟨#[97]⟩] (w.alloc (.cells #[.string ⟨#[97]⟩, .string TB] 28)) (LeR (w.alloc (.cells #[.string ⟨#[97]⟩, .string TB] 28)) (out, (0, 0, 0), 0)) := by
  have hbA := Below.new w (.cells #[.string (bstr [97]), .string TB] 28)
  have hXd : TB.data.toList = flat (blocks l) := by rw [hT]; simp [bstr]
  have hXz : TB.size ≤ 1248 := by rw [hT, bstr_size]; have := flat_len l; omega
  have hsz : ∀ n, (([⟨bstr [97], TB⟩] : List Fil).getD n default).text.size ≤ 1248 := fun n => fil_all (fs := [⟨bstr [97], TB⟩]) (p := fun f => f.text.size ≤ 1248) (fun f hf => by
      rw [List.mem_singleton] at hf
      subst hf
      exact hXz) (by decide) n
  have hbud : cFile (textsOf [⟨bstr [97], TB⟩]) (findN [⟨bstr [97], TB⟩]) 8 (findN [⟨bstr [97], TB⟩] [97]) ≤ bigN :=
    blocks_bud l (fun n => by
      rcases textsOf_one (bstr [97]) TB n with h | h
      · exact .inl (h.trans hXd)
      · exact .inr h) hl _
  have hle := lexp_any (w := w.alloc (.cells #[.string (bstr [97]), .string TB] 28)) (fs := [⟨bstr [97], TB⟩]) (ro_one _ _ (Blk.new 28 _)) (err_one _ _ (by decide) (by omega)) (by simp) (hMax.below hbA)
    (fun n => fil_all (p := fun f => f.name.size ≤ 32768) (fun f hf => by
      rw [List.mem_singleton] at hf
      subst hf
      show (bstr [97]).size ≤ _; decide) (by decide) n) (fun n => Nat.le_trans (hsz n) (by decide)) [97] hbud
  have hlen := exp_len (texts_len fun n => Nat.le_trans (hsz n) (by decide)) hbud
  have htx := exp_text (texts_len fun n => Nat.le_trans (hsz n) (by decide)) hbud
  rw [findN_one] at hle hlen htx
  obtain ⟨out, hE, hB⟩ := expand_blocks (texts := textsOf [⟨bstr [97], TB⟩]) (find := fun b => if b = [97] then 1 else 0) (top := [97]) l rfl hXd (by omega)
  rw [hE] at hle hlen htx
  exact ⟨out, hB, hlen, htx, hle⟩
theorem pre_len (out : List Pc) (i j : Nat) (hi : i < out.length) : (noNl (outB (out.take i)) ++ noNl ((out.getD i default).text.take j)).length ≤ (noNl (outB out)).length := by
  have e : outB out = (outB (out.take i) ++ ((out.getD i default).text.take j ++ (out.getD i default).text.drop j)) ++ outB (out.drop (i + 1)) := by
    rw [List.take_append_drop, ← outB_succ out i hi]
    unfold outB
    rw [← List.flatMap_append, List.take_append_drop]
  rw [e, noNl_app, noNl_app, noNl_app]
  simp only [List.length_append]
  omega
theorem noNl_succ (t : Bs) (j : Nat) (h : j < t.length) : noNl (t.take (j + 1)) = noNl (t.take j) ++ (if t.getD j 0 = 10 then [] else [t.getD j 0]) := by
  unfold noNl
  rw [List.take_succ_eq_append_getElem h, List.filter_append]
  congr 1
  have e : t[j] = t.getD j 0 := by simp [List.getD, List.getElem?_eq_getElem h]
  rw [e]
  by_cases hc : t.getD j 0 = 10
  · rw [if_pos hc, List.filter_cons_of_neg (by rw [hc]; decide)]; rfl
  · rw [if_neg hc, List.filter_cons_of_pos (by simpa using hc)]; rfl
set_option maxRecDepth 100000 in
set_option maxHeartbeats 8000000 in
theorem defines_law {w : World} (hMax : Max w) {p0 p1 : Option Addr} {c0 c1 : Nat} {l0 : List Int} {l1 : List Bool} (h0 : RO w (.slice p0 l0.length c0) 1 l0.length (l0.map fun x => .int .i64 x)) (h1 : RO w (.slice p1 l1.length c1) 1 l1.length (l1.map fun b => .bool b)) (hl0 : l0.length ≤ 9223372036854775807) (hl1 : l1.length ≤ 9223372036854775807) :
    Calls Tryd.prog 4 #[.slice p0 l0.length c0, .slice p1 l1.length c1] w fun e w' => e = .returned (.bool true) ∧ Below w.heap.size w w' := by
  have HA := Lib.hid (awake_pre hMax)
  have HMax := Lib.hid hMax
  have HR := Lib.hid (And.intro h0 h1)
  obtain ⟨n0, hn0⟩ : ∃ n, l0.length = n := ⟨_, rfl⟩
  obtain ⟨n1, hn1⟩ : ∃ n, l1.length = n := ⟨_, rfl⟩
  rw [hn0] at h0 hl0 ⊢
  rw [hn1] at h1 hl1 ⊢
  have HN := Lib.hid (And.intro hn0 hn1)
  clear hMax h0 h1 hn0 hn1
  go_enter Tryd.func4, Tryd.ntmps4
  go_wp2_with fail
  refine HA.out.mono ?_; rintro e w1 ⟨rfl, hb1⟩
  have H1 := Lib.hid hb1
  clear hb1 HA
  go_wp2_with fail
  go_loopw [5, 6, 7, 8] (fun sv wv nv iv wr => ∃ (i : Nat) (l : List (Fin 26 × Bool)) (SB WB nb : ByteArray), sv = .string SB ∧ wv = .string WB ∧ nv = .string nb ∧ iv = .int .i64 i ∧ SB = bstr (raws l) ∧ WB = bstr (wants true l) ∧ l.length = i ∧ i ≤ 12 ∧ Below w.heap.size w wr) (fun _ _ _ iv _ => 12 - (intOf iv).toNat)
  case atStart => exact ⟨0, [], _, _, _, rfl, rfl, rfl, rfl, rfl, rfl, rfl, by decide, H1.out⟩
  case round =>
    obtain ⟨i, l, SB, WB, nb, rfl, rfl, rfl, rfl, hSB, hWB, hli, hi12, hbw⟩ := hrel
    have hiw : IntKind.i64.wrap ((i : Int) + 1) = (i : Int) + 1 := i64_of (by omega)
    by_cases hlt : i < n0 ∧ i < 12
    · have hii : (i : Int) < (n0 : Int) := by omega
      have hi2 : (i : Int) < 12 := by omega
      have hzS : SB.size ≤ 1236 := by rw [hSB, bstr_size]; have := raws_len l; omega
      have hzW : WB.size ≤ 96 := by rw [hWB, bstr_size]; have := wants_len l true; omega
      -- the number
      have hu0 : (l0.map fun x => Value.int .i64 x)[i]? = some (.int .i64 (l0.getD i 0)) := by
        rw [List.getElem?_map, List.getElem?_eq_getElem (by have := HN.out.1; omega)]
        simp [List.getD, List.getElem?_eq_getElem (show i < l0.length by have := HN.out.1; omega)]
      obtain ⟨b, hb⟩ : ∃ b, l0.getD i 0 = b := ⟨_, rfl⟩
      rw [hb] at hu0
      obtain ⟨g0, o0, rfl⟩ := HR.out.1.sl hu0
      have k0 := (hbw.cell (World.block_lt_of_cell? _ _ (HR.out.1.cell hu0))).trans (HR.out.1.cell hu0)
      obtain ⟨k, hk, hkw⟩ := fin26 b
      have h97 : IntKind.i64.wrap (97 + (k.val : Int)) = 97 + (k.val : Int) := i64_of (by omega)
      have h8 : IntKind.u8.wrap (97 + (k.val : Int)) = 97 + (k.val : Int) := IntWalk.u8_in _ (by omega)
      have hBB := low_of k
      obtain ⟨BB, hBBe⟩ : ∃ BB, bstr [low k.val] = BB := ⟨_, rfl⟩
      have hBz : BB.size = 1 := by rw [← hBBe]; rfl
      have hcv := fun W => run_byte W (97 + (k.val : Int))
      rw [hBB, hBBe] at hcv
      obtain ⟨on, hon⟩ : ∃ on : Bool, on = (decide (i < n1) && l1.getD i false) := ⟨_, rfl⟩
      have HB := Lib.hid (And.intro hBBe (And.intro hlt (And.intro hSB (And.intro hWB (And.intro hli hbw)))))
      clear hBB hBBe hSB hWB hli hbw hlt hb hu0
      go_upto_region 9 with fail
      have hb9 := Below.new wr (.cells #[.int .u8 (97 + (k.val : Int))] 5)
      have H9 := Lib.hid (Below.next HB.out.2.2.2.2.2 hb9)
      generalize wr.alloc (.cells #[.int .u8 (97 + (k.val : Int))] 5) = W9 at *
      have HO := Lib.hid hon
      clear hb9 hcv h97 h8 hk hkw k0 hon
      go_cut [10] from 40 to 49 (fun v10 wx => v10 = .bool on ∧ wx = W9)
      case first =>
        by_cases hi1 : i < n1
        · have hi1i : (i : Int) < (n1 : Int) := by omega
          have hu1 : (l1.map fun b => Value.bool b)[i]? = some (.bool (l1.getD i false)) := by
            rw [List.getElem?_map, List.getElem?_eq_getElem (by have := HN.out.2; omega)]
            simp [List.getD, List.getElem?_eq_getElem (show i < l1.length by have := HN.out.2; omega)]
          have hy : on = l1.getD i false := by rw [HO.out, decide_eq_true hi1, Bool.true_and]
          rw [← hy] at hu1
          obtain ⟨g1, o1, rfl⟩ := HR.out.2.sl hu1
          have k1 := (H9.out.cell (World.block_lt_of_cell? _ _ (HR.out.2.cell hu1))).trans (HR.out.2.cell hu1)
          clear hi1 hu1 hy
          go_wp2_with fail
          all_goals (go_meet; exact ⟨by first | rfl | assumption | simp_all, rfl⟩)
        · have hi1i : ¬ (i : Int) < (n1 : Int) := by omega
          have hy : on = false := by rw [HO.out, decide_eq_false hi1, Bool.false_and]
          subst hy
          clear hi1
          go_wp2_with fail
          go_meet
          exact ⟨rfl, rfl⟩
      case rest =>
        obtain ⟨rfl, rfl⟩ := hcut
        have hs1 : ∀ a : Nat, a ≤ 1000 → (9223372036854775807 < SB.size + a) = False := fun a h => eq_false (by omega)
        have hs2 : ∀ a b : Nat, a ≤ 1000 → b ≤ 1000 → (9223372036854775807 < SB.size + a + b) = False := fun a b h h' => eq_false (by omega)
        have hs3 : ∀ a b c : Nat, a ≤ 1000 → b ≤ 1000 → c ≤ 1000 → (9223372036854775807 < SB.size + a + b + c) = False := fun a b c h h' h'' => eq_false (by omega)
        have hs4 : ∀ a b c d : Nat, a ≤ 1000 → b ≤ 1000 → c ≤ 1000 → d ≤ 1000 → (9223372036854775807 < SB.size + a + b + c + d) = False := fun a b c d h h' h'' h3 => eq_false (by omega)
        have hw1 : ∀ a : Nat, a ≤ 1000 → (9223372036854775807 < WB.size + a) = False := fun a h => eq_false (by omega)
        have hw2 : ∀ a b : Nat, a ≤ 1000 → b ≤ 1000 → (9223372036854775807 < WB.size + a + b) = False := fun a b h h' => eq_false (by omega)
        clear hzS hzW
        cases on with
        | true =>
          by_cases hi0 : i = 0
          · subst hi0
            go_wp2_with fail
            go_round
            case rel =>
              obtain ⟨a1, a2, a3, a4, a5, a6⟩ := HB.out
              rw [a3, a4, ← a1]
              refine ⟨_, l ++ [(k, true)], _, _, _, rfl, rfl, rfl, rfl, ?_, ?_, by rw [List.length_append, a5]; rfl, a2.2, H9.out⟩
              · rw [raws_snoc]; first | exact txt_on _ _ | exact txt_off _ _
              · rw [wants_snoc]
                first
                  | (have hl0 : l = [] := List.eq_nil_of_length_eq_zero (by omega)
                     subst hl0
                     first | exact wnt_on _ _ | exact wnt_off _ _ | (rw [bstr_app]; first | exact wnt_on _ _ | exact wnt_off _ _))
                  | (have hl0 : l.isEmpty = false := by cases l with
                       | nil => exact absurd a5.symm HI0.out
                       | cons _ _ => rfl
                     rw [hl0]
                     first | exact wnt_on _ _ | exact wnt_off _ _)
            case measure =>
              have := HB.out.2.1.2
              first
                | (show 12 - ((i : Int) + 1).toNat < 12 - (i : Int).toNat; omega)
                | decide
          · have hz0 : ((i : Int) == 0) = false := by simp [hi0]
            have HI0 := Lib.hid hi0
            clear hi0
            go_wp2_with fail
            go_round
            case rel =>
              obtain ⟨a1, a2, a3, a4, a5, a6⟩ := HB.out
              rw [a3, a4, ← a1]
              refine ⟨_, l ++ [(k, true)], _, _, _, rfl, rfl, rfl, rfl, ?_, ?_, by rw [List.length_append, a5]; rfl, a2.2, H9.out⟩
              · rw [raws_snoc]; first | exact txt_on _ _ | exact txt_off _ _
              · rw [wants_snoc]
                first
                  | (have hl0 : l = [] := List.eq_nil_of_length_eq_zero (by omega)
                     subst hl0
                     first | exact wnt_on _ _ | exact wnt_off _ _ | (rw [bstr_app]; first | exact wnt_on _ _ | exact wnt_off _ _))
                  | (have hl0 : l.isEmpty = false := by cases l with
                       | nil => exact absurd a5.symm HI0.out
                       | cons _ _ => rfl
                     rw [hl0]
                     first | exact wnt_on _ _ | exact wnt_off _ _)
            case measure =>
              have := HB.out.2.1.2
              first
                | (show 12 - ((i : Int) + 1).toNat < 12 - (i : Int).toNat; omega)
                | decide
        | false =>
          by_cases hi0 : i = 0
          · subst hi0
            go_wp2_with fail
            go_round
            case rel =>
              obtain ⟨a1, a2, a3, a4, a5, a6⟩ := HB.out
              rw [a3, a4, ← a1]
              refine ⟨_, l ++ [(k, false)], _, _, _, rfl, rfl, rfl, rfl, ?_, ?_, by rw [List.length_append, a5]; rfl, a2.2, H9.out⟩
              · rw [raws_snoc]; first | exact txt_on _ _ | exact txt_off _ _
              · rw [wants_snoc]
                first
                  | (have hl0 : l = [] := List.eq_nil_of_length_eq_zero (by omega)
                     subst hl0
                     first | exact wnt_on _ _ | exact wnt_off _ _ | (rw [bstr_app]; first | exact wnt_on _ _ | exact wnt_off _ _))
                  | (have hl0 : l.isEmpty = false := by cases l with
                       | nil => exact absurd a5.symm HI0.out
                       | cons _ _ => rfl
                     rw [hl0]
                     first | exact wnt_on _ _ | exact wnt_off _ _)
            case measure =>
              have := HB.out.2.1.2
              first
                | (show 12 - ((i : Int) + 1).toNat < 12 - (i : Int).toNat; omega)
                | decide
          · have hz0 : ((i : Int) == 0) = false := by simp [hi0]
            have HI0 := Lib.hid hi0
            clear hi0
            go_wp2_with fail
            go_round
            case rel =>
              obtain ⟨a1, a2, a3, a4, a5, a6⟩ := HB.out
              rw [a3, a4, ← a1]
              refine ⟨_, l ++ [(k, false)], _, _, _, rfl, rfl, rfl, rfl, ?_, ?_, by rw [List.length_append, a5]; rfl, a2.2, H9.out⟩
              · rw [raws_snoc]; first | exact txt_on _ _ | exact txt_off _ _
              · rw [wants_snoc]
                first
                  | (have hl0 : l = [] := List.eq_nil_of_length_eq_zero (by omega)
                     subst hl0
                     first | exact wnt_on _ _ | exact wnt_off _ _ | (rw [bstr_app]; first | exact wnt_on _ _ | exact wnt_off _ _))
                  | (have hl0 : l.isEmpty = false := by cases l with
                       | nil => exact absurd a5.symm HI0.out
                       | cons _ _ => rfl
                     rw [hl0]
                     first | exact wnt_on _ _ | exact wnt_off _ _)
            case measure =>
              have := HB.out.2.1.2
              first
                | (show 12 - ((i : Int) + 1).toNat < 12 - (i : Int).toNat; omega)
                | decide
    · have hS1236 : (raws l).length ≤ 1236 := by have := raws_len l; omega
      obtain ⟨T, hT⟩ : ∃ T, lu 0 (raws l) = T := ⟨_, rfl⟩
      have hTf : T = flat (blocks l) := by rw [← hT]; exact lu_raws l 0 (.inr rfl)
      have hTl : T.length ≤ 1248 := by rw [hTf]; have := flat_len l; omega
      have hLu := fun W => lineUp_any (w := W) (raws l) (by omega)
      rw [← hSB, hT] at hLu
      have HLu := Lib.hid hLu
      have hnl := fun W (hb : Below w.heap.size w W) => HMax.out.below hb
      have HW := Lib.hid hbw
      have HF := Lib.hid (And.intro hTf (And.intro hTl (And.intro hWB hli)))
      have HF12 := Lib.hid (show l.length ≤ 12 by omega)
      by_cases hi0 : i < n0
      · have hii : (i : Int) < (n0 : Int) := by omega
        have hi2 : ¬ (i : Int) < 12 := by omega
        clear hlt hi0 hS1236 hT hTf hTl hLu hnl hSB hWB hli hi12 hbw
        go_wp2_with fail
        refine (HLu.out _).mono ?_; rintro e w2 ⟨rfl, hw2⟩
        obtain rfl : w2 = wr := hw2
        obtain ⟨TB, hTB⟩ : ∃ TB, bstr T = TB := ⟨_, rfl⟩
        rw [hTB]
        obtain ⟨out, ho1, ho2, ho3, ho4⟩ := lexp_blocks (w := w2) (HMax.out.below HW.out) l HF12.out TB (by rw [← hTB, HF.out.1])
        have HO := Lib.hid (And.intro ho1 (And.intro ho2 ho3))
        have HE := Lib.hid ho4
        have HBA := Lib.hid (Below.next HW.out (Below.new w2 (.cells #[.string ⟨#[97]⟩, .string TB] 28)))
        clear ho1 ho2 ho3 ho4 hTB
        go_wp2_with fail
        refine HE.out.mono ?_; rintro e w3 ⟨v3, rfl, hr3, hb3⟩
        obtain ⟨p3, c3, rfl⟩ := ownsRow_form hr3
        have H3 := Lib.hid (And.intro hr3 (Below.next HBA.out hb3))
        clear hr3 hb3 HE HBA
        obtain ⟨n, hn⟩ : ∃ n, out.length = n := ⟨_, rfl⟩
        simp only [hn]
        have HN3 := Lib.hid hn
        clear hn
        go_wp2_with fail
        go_loopw [13, 95] (fun gv iv wr => ∃ (m : Nat) (gb : ByteArray), gv = .string gb ∧ iv = .int .i64 m ∧ gb = bstr (noNl (outB (out.take m))) ∧ m ≤ n ∧ Below w3.heap.size w3 wr) (fun _ iv _ => n - (intOf iv).toNat)
        case atStart => exact ⟨0, _, rfl, rfl, rfl, Nat.zero_le _, Below.refl _ _⟩
        case round =>
          obtain ⟨m, gb, rfl, rfl, hgb, hmn, hbw3⟩ := hrel
          have hmw : IntKind.i64.wrap ((m : Int) + 1) = (m : Int) + 1 := i64_of (by have := HN3.out; have := HO.out.2.1; omega)
          by_cases hm : m < n
          · have hmi : (m : Int) < (n : Int) := by omega
            have ho := H3.out.1
            have hop : 0 < out.length := by have := HN3.out; omega
            obtain ⟨g, cap, e, hgb2, hgs⟩ := ho.form hop
            cases e
            have hml : m < out.length := by have := HN3.out; omega
            obtain ⟨t, ht⟩ : ∃ t, (out.getD m default).text = t := ⟨_, rfl⟩
            have htl : t.length ≤ 65536 := by rw [← ht]; exact HO.out.2.2 m hml
            obtain ⟨XT, hXT⟩ : ∃ XT, bstr t = XT := ⟨_, rfl⟩
            have hXz : XT.size = t.length := by rw [← hXT, bstr_size]
            have key : ∀ r (u : Value), r < 5 → (pcCells (out.getD m default))[r]? = some u → wr.cell? ⟨g, m * 5 + r, none⟩ = some u := by
              intro r u hr hu
              have h1 := ho.cellAt (m * 5 + r) (by omega)
              rw [outCells_at _ _ _ hml hr, hu] at h1
              exact (hbw3.cell (World.block_lt_of_cell? _ _ h1)).trans h1
            have k0 := key 0 _ (by decide) rfl
            rw [ht, hXT, Nat.add_zero] at k0
            obtain ⟨q1, hq1⟩ : ∃ q, (out.getD m default).f = q := ⟨_, rfl⟩
            obtain ⟨q2, hq2⟩ : ∃ q, (out.getD m default).l = q := ⟨_, rfl⟩
            obtain ⟨q3, hq3⟩ : ∃ q, (out.getD m default).c = q := ⟨_, rfl⟩
            obtain ⟨q4, hq4⟩ : ∃ q, (out.getD m default).fixed = q := ⟨_, rfl⟩
            have k1 := key 1 _ (by decide) rfl
            have k2 := key 2 _ (by decide) rfl
            have k3 := key 3 _ (by decide) rfl
            have k4 := key 4 _ (by decide) rfl
            rw [hq1] at k1
            rw [hq2] at k2
            rw [hq3] at k3
            rw [hq4] at k4
            have H4 := Lib.hid (And.intro hm (And.intro hgb (And.intro hbw3 (And.intro hml (And.intro ht (And.intro htl (And.intro hXT hXz)))))))
            clear ho hop hgb2 hgs key hml ht htl hXT hXz hgb hm hmn hbw3 hq1 hq2 hq3 hq4
            go_upto_region 27 with fail
            have kb : Blk (wr.alloc (.cells #[.string XT, .int .i64 q1, .int .i64 q2, .int .i64 q3, .bool q4] 33)) wr.heap.size 33 [.string XT, .int .i64 q1, .int .i64 q2, .int .i64 q3, .bool q4] := Blk.new _ _
            have hb5 := Below.next H4.out.2.2.1 (Below.new wr (.cells #[.string XT, .int .i64 q1, .int .i64 q2, .int .i64 q3, .bool q4] 33))
            generalize wr.alloc (.cells #[.string XT, .int .i64 q1, .int .i64 q2, .int .i64 q3, .bool q4] 33) = W5 at *
            generalize wr.heap.size = bp at *
            have kc := kb.cell (i := 0) rfl
            have HB5 := Lib.hid hb5
            clear kb hb5 k0 k1 k2 k3 k4
            go_wp2_with fail
            go_loopw [13, 102] (fun gv iv wr2 => ∃ (j : Nat) (jb : ByteArray), gv = .string jb ∧ iv = .int .i64 j ∧ jb = bstr (noNl (outB (out.take m)) ++ noNl (t.take j)) ∧ j ≤ t.length ∧ wr2 = W5) (fun _ iv _ => t.length - (intOf iv).toNat)
            case atStart => exact ⟨0, gb, rfl, rfl, by rw [H4.out.2.1]; simp [noNl], Nat.zero_le _, rfl⟩
            case round =>
              obtain ⟨j, jb, rfl, rfl, hjb, hjt, hwr5⟩ := hrel
              obtain rfl : wr = W5 := hwr5
              have hjw : IntKind.i64.wrap ((j : Int) + 1) = (j : Int) + 1 := i64_of (by have := H4.out.2.2.2.2.2.1; omega)
              by_cases hj : j < t.length
              · have hji : (j : Int) < (XT.size : Int) := by have := H4.out.2.2.2.2.2.2.2; omega
                have hji1 : (j : Int) + 1 ≤ (XT.size : Int) := by omega
                obtain ⟨cb, hcb⟩ : ∃ cb, t.getD j 0 = cb := ⟨_, rfl⟩
                have hatb : ∀ h : j < XT.size, XT[j] = cb := by
                  intro h
                  rw [← hcb]
                  have e := H4.out.2.2.2.2.2.2.1
                  subst e
                  exact bstr_at _ _ h
                have hsc := noNl_succ t j hj
                rw [hcb] at hsc
                have hpl := pre_len out m (j + 1) H4.out.2.2.2.1
                rw [H4.out.2.2.2.2.1, hsc, HO.out.1] at hpl
                have hwl := wants_len l true
                have hl12 := HF12.out
                by_cases h10 : cb = 10
                · subst h10
                  rw [if_pos rfl, List.append_nil] at hsc
                  have HJ := Lib.hid (And.intro hj (And.intro hjb hsc))
                  clear hj hjb hsc hpl hwl hl12 hcb hjt
                  go_wp2_with fail
                  go_round
                  case rel => exact ⟨j + 1, jb, rfl, rfl, by rw [HJ.out.2.1, HJ.out.2.2], HJ.out.1, by first | rfl | trivial⟩
                  case measure =>
                    have := HJ.out.1
                    show t.length - ((j : Int) + 1).toNat < t.length - (j : Int).toNat
                    omega
                · have hcn : (((cb.toNat : Nat) : Int) == 10) = false := by
                    have : cb.toNat ≠ 10 := fun e => h10 (UInt8.toNat_inj.1 e)
                    simp; omega
                  have hcnb : (((cb.toNat : Nat) : Int) != 10) = true := by unfold bne; rw [hcn]; rfl
                  have hcni : ¬ ((cb.toNat : Nat) : Int) = 10 := by simpa using hcn
                  rw [if_neg h10] at hsc hpl
                  obtain ⟨XB, hXB⟩ : ∃ XB, XT.extract j (j + 1) = XB := ⟨_, rfl⟩
                  have hXBz : XB.size = 1 := by rw [← hXB, ByteArray.size_extract]; omega
                  have hsl1 : ∀ w', (Instr.slice 9 (Value.string XT) (some (Value.int IntKind.i64 j)) (some (Value.int IntKind.i64 ((j : Int) + 1))) none).run Tryd.prog w' = .ok (.string XB) w' := by
                    intro w'
                    have h := run_slice_string (P := Tryd.prog) (w := w') 9 XT .i64 .i64 j ((j : Int) + 1) Tryd.underlying9 (by omega) (by omega) (by omega)
                    rw [h, ← hXB]; congr 3
                  have hjz : jb.size ≤ 96 := by
                    rw [hjb, bstr_size, List.length_append]
                    simp only [List.length_append] at hpl
                    omega
                  have hcat : (9223372036854775807 < jb.size + XB.size) = False := eq_false (by omega)
                  have hcat1 : (9223372036854775807 < jb.size + 1) = False := eq_false (by omega)
                  have hnew : jb ++ XB = bstr (noNl (outB (out.take m)) ++ noNl (t.take (j + 1))) := by
                    rw [hjb, hsc, ← hXB, ← H4.out.2.2.2.2.2.2.1, bstr_push _ _ _ hj, hcb, List.append_assoc]
                  have HJ := Lib.hid (And.intro hj hnew)
                  clear hj hjb hsc hpl hwl hl12 hcb hjt hXB hjz hnew h10
                  go_wp2_with fail
                  go_round
                  case rel => exact ⟨j + 1, _, rfl, rfl, HJ.out.2, HJ.out.1, by first | rfl | trivial⟩
                  case measure =>
                    have := HJ.out.1
                    show t.length - ((j : Int) + 1).toNat < t.length - (j : Int).toNat
                    omega
              · have hji : ¬ (j : Int) < (XT.size : Int) := by have := H4.out.2.2.2.2.2.2.2; omega
                obtain rfl : j = t.length := by omega
                have hdone : jb = bstr (noNl (outB (out.take (m + 1)))) := by
                  rw [hjb, List.take_length, outB_succ out m H4.out.2.2.2.1, H4.out.2.2.2.2.1, noNl_app]
                have HJ := Lib.hid hdone
                clear hj hjt hjb hdone
                go_wp2_with fail
                first
                  | (refine ⟨⟨m + 1, _, rfl, rfl, HJ.out, H4.out.1, HB5.out⟩, ?_⟩
                     have := H4.out.1
                     show n - ((m : Int) + 1).toNat < n - (m : Int).toNat
                     omega)
                  | (go_round
                     case rel => exact ⟨m + 1, _, rfl, rfl, HJ.out, H4.out.1, HB5.out⟩
                     case measure =>
                       have := H4.out.1
                       show n - ((m : Int) + 1).toNat < n - (m : Int).toNat
                       omega)
          · have hmi : ¬ (m : Int) < (n : Int) := by omega
            obtain rfl : m = n := by omega
            have hgw : gb = WB := by rw [hgb, ← HN3.out, List.take_length, HO.out.1, HF.out.2.2.1]
            have hbf := Below.next H3.out.2 hbw3
            have H6 := Lib.hid hbf
            subst hgw
            have hzz : (gb.toList == gb.toList) = true := by simp
            clear hm hmn hgb hbw3 hbf
            go_wp2_with fail
            go_ret
            exact ⟨rfl, H6.out⟩
      · have hii : ¬ (i : Int) < (n0 : Int) := by omega
        clear hlt hi0 hS1236 hT hTf hTl hLu hnl hSB hWB hli hi12 hbw
        go_wp2_with fail
        refine (HLu.out _).mono ?_; rintro e w2 ⟨rfl, hw2⟩
        obtain rfl : w2 = wr := hw2
        obtain ⟨TB, hTB⟩ : ∃ TB, bstr T = TB := ⟨_, rfl⟩
        rw [hTB]
        obtain ⟨out, ho1, ho2, ho3, ho4⟩ := lexp_blocks (w := w2) (HMax.out.below HW.out) l HF12.out TB (by rw [← hTB, HF.out.1])
        have HO := Lib.hid (And.intro ho1 (And.intro ho2 ho3))
        have HE := Lib.hid ho4
        have HBA := Lib.hid (Below.next HW.out (Below.new w2 (.cells #[.string ⟨#[97]⟩, .string TB] 28)))
        clear ho1 ho2 ho3 ho4 hTB
        go_wp2_with fail
        refine HE.out.mono ?_; rintro e w3 ⟨v3, rfl, hr3, hb3⟩
        obtain ⟨p3, c3, rfl⟩ := ownsRow_form hr3
        have H3 := Lib.hid (And.intro hr3 (Below.next HBA.out hb3))
        clear hr3 hb3 HE HBA
        obtain ⟨n, hn⟩ : ∃ n, out.length = n := ⟨_, rfl⟩
        simp only [hn]
        have HN3 := Lib.hid hn
        clear hn
        go_wp2_with fail
        go_loopw [13, 95] (fun gv iv wr => ∃ (m : Nat) (gb : ByteArray), gv = .string gb ∧ iv = .int .i64 m ∧ gb = bstr (noNl (outB (out.take m))) ∧ m ≤ n ∧ Below w3.heap.size w3 wr) (fun _ iv _ => n - (intOf iv).toNat)
        case atStart => exact ⟨0, _, rfl, rfl, rfl, Nat.zero_le _, Below.refl _ _⟩
        case round =>
          obtain ⟨m, gb, rfl, rfl, hgb, hmn, hbw3⟩ := hrel
          have hmw : IntKind.i64.wrap ((m : Int) + 1) = (m : Int) + 1 := i64_of (by have := HN3.out; have := HO.out.2.1; omega)
          by_cases hm : m < n
          · have hmi : (m : Int) < (n : Int) := by omega
            have ho := H3.out.1
            have hop : 0 < out.length := by have := HN3.out; omega
            obtain ⟨g, cap, e, hgb2, hgs⟩ := ho.form hop
            cases e
            have hml : m < out.length := by have := HN3.out; omega
            obtain ⟨t, ht⟩ : ∃ t, (out.getD m default).text = t := ⟨_, rfl⟩
            have htl : t.length ≤ 65536 := by rw [← ht]; exact HO.out.2.2 m hml
            obtain ⟨XT, hXT⟩ : ∃ XT, bstr t = XT := ⟨_, rfl⟩
            have hXz : XT.size = t.length := by rw [← hXT, bstr_size]
            have key : ∀ r (u : Value), r < 5 → (pcCells (out.getD m default))[r]? = some u → wr.cell? ⟨g, m * 5 + r, none⟩ = some u := by
              intro r u hr hu
              have h1 := ho.cellAt (m * 5 + r) (by omega)
              rw [outCells_at _ _ _ hml hr, hu] at h1
              exact (hbw3.cell (World.block_lt_of_cell? _ _ h1)).trans h1
            have k0 := key 0 _ (by decide) rfl
            rw [ht, hXT, Nat.add_zero] at k0
            obtain ⟨q1, hq1⟩ : ∃ q, (out.getD m default).f = q := ⟨_, rfl⟩
            obtain ⟨q2, hq2⟩ : ∃ q, (out.getD m default).l = q := ⟨_, rfl⟩
            obtain ⟨q3, hq3⟩ : ∃ q, (out.getD m default).c = q := ⟨_, rfl⟩
            obtain ⟨q4, hq4⟩ : ∃ q, (out.getD m default).fixed = q := ⟨_, rfl⟩
            have k1 := key 1 _ (by decide) rfl
            have k2 := key 2 _ (by decide) rfl
            have k3 := key 3 _ (by decide) rfl
            have k4 := key 4 _ (by decide) rfl
            rw [hq1] at k1
            rw [hq2] at k2
            rw [hq3] at k3
            rw [hq4] at k4
            have H4 := Lib.hid (And.intro hm (And.intro hgb (And.intro hbw3 (And.intro hml (And.intro ht (And.intro htl (And.intro hXT hXz)))))))
            clear ho hop hgb2 hgs key hml ht htl hXT hXz hgb hm hmn hbw3 hq1 hq2 hq3 hq4
            go_upto_region 27 with fail
            have kb : Blk (wr.alloc (.cells #[.string XT, .int .i64 q1, .int .i64 q2, .int .i64 q3, .bool q4] 33)) wr.heap.size 33 [.string XT, .int .i64 q1, .int .i64 q2, .int .i64 q3, .bool q4] := Blk.new _ _
            have hb5 := Below.next H4.out.2.2.1 (Below.new wr (.cells #[.string XT, .int .i64 q1, .int .i64 q2, .int .i64 q3, .bool q4] 33))
            generalize wr.alloc (.cells #[.string XT, .int .i64 q1, .int .i64 q2, .int .i64 q3, .bool q4] 33) = W5 at *
            generalize wr.heap.size = bp at *
            have kc := kb.cell (i := 0) rfl
            have HB5 := Lib.hid hb5
            clear kb hb5 k0 k1 k2 k3 k4
            go_wp2_with fail
            go_loopw [13, 102] (fun gv iv wr2 => ∃ (j : Nat) (jb : ByteArray), gv = .string jb ∧ iv = .int .i64 j ∧ jb = bstr (noNl (outB (out.take m)) ++ noNl (t.take j)) ∧ j ≤ t.length ∧ wr2 = W5) (fun _ iv _ => t.length - (intOf iv).toNat)
            case atStart => exact ⟨0, gb, rfl, rfl, by rw [H4.out.2.1]; simp [noNl], Nat.zero_le _, rfl⟩
            case round =>
              obtain ⟨j, jb, rfl, rfl, hjb, hjt, hwr5⟩ := hrel
              obtain rfl : wr = W5 := hwr5
              have hjw : IntKind.i64.wrap ((j : Int) + 1) = (j : Int) + 1 := i64_of (by have := H4.out.2.2.2.2.2.1; omega)
              by_cases hj : j < t.length
              · have hji : (j : Int) < (XT.size : Int) := by have := H4.out.2.2.2.2.2.2.2; omega
                have hji1 : (j : Int) + 1 ≤ (XT.size : Int) := by omega
                obtain ⟨cb, hcb⟩ : ∃ cb, t.getD j 0 = cb := ⟨_, rfl⟩
                have hatb : ∀ h : j < XT.size, XT[j] = cb := by
                  intro h
                  rw [← hcb]
                  have e := H4.out.2.2.2.2.2.2.1
                  subst e
                  exact bstr_at _ _ h
                have hsc := noNl_succ t j hj
                rw [hcb] at hsc
                have hpl := pre_len out m (j + 1) H4.out.2.2.2.1
                rw [H4.out.2.2.2.2.1, hsc, HO.out.1] at hpl
                have hwl := wants_len l true
                have hl12 := HF12.out
                by_cases h10 : cb = 10
                · subst h10
                  rw [if_pos rfl, List.append_nil] at hsc
                  have HJ := Lib.hid (And.intro hj (And.intro hjb hsc))
                  clear hj hjb hsc hpl hwl hl12 hcb hjt
                  go_wp2_with fail
                  go_round
                  case rel => exact ⟨j + 1, jb, rfl, rfl, by rw [HJ.out.2.1, HJ.out.2.2], HJ.out.1, by first | rfl | trivial⟩
                  case measure =>
                    have := HJ.out.1
                    show t.length - ((j : Int) + 1).toNat < t.length - (j : Int).toNat
                    omega
                · have hcn : (((cb.toNat : Nat) : Int) == 10) = false := by
                    have : cb.toNat ≠ 10 := fun e => h10 (UInt8.toNat_inj.1 e)
                    simp; omega
                  have hcnb : (((cb.toNat : Nat) : Int) != 10) = true := by unfold bne; rw [hcn]; rfl
                  have hcni : ¬ ((cb.toNat : Nat) : Int) = 10 := by simpa using hcn
                  rw [if_neg h10] at hsc hpl
                  obtain ⟨XB, hXB⟩ : ∃ XB, XT.extract j (j + 1) = XB := ⟨_, rfl⟩
                  have hXBz : XB.size = 1 := by rw [← hXB, ByteArray.size_extract]; omega
                  have hsl1 : ∀ w', (Instr.slice 9 (Value.string XT) (some (Value.int IntKind.i64 j)) (some (Value.int IntKind.i64 ((j : Int) + 1))) none).run Tryd.prog w' = .ok (.string XB) w' := by
                    intro w'
                    have h := run_slice_string (P := Tryd.prog) (w := w') 9 XT .i64 .i64 j ((j : Int) + 1) Tryd.underlying9 (by omega) (by omega) (by omega)
                    rw [h, ← hXB]; congr 3
                  have hjz : jb.size ≤ 96 := by
                    rw [hjb, bstr_size, List.length_append]
                    simp only [List.length_append] at hpl
                    omega
                  have hcat : (9223372036854775807 < jb.size + XB.size) = False := eq_false (by omega)
                  have hcat1 : (9223372036854775807 < jb.size + 1) = False := eq_false (by omega)
                  have hnew : jb ++ XB = bstr (noNl (outB (out.take m)) ++ noNl (t.take (j + 1))) := by
                    rw [hjb, hsc, ← hXB, ← H4.out.2.2.2.2.2.2.1, bstr_push _ _ _ hj, hcb, List.append_assoc]
                  have HJ := Lib.hid (And.intro hj hnew)
                  clear hj hjb hsc hpl hwl hl12 hcb hjt hXB hjz hnew h10
                  go_wp2_with fail
                  go_round
                  case rel => exact ⟨j + 1, _, rfl, rfl, HJ.out.2, HJ.out.1, by first | rfl | trivial⟩
                  case measure =>
                    have := HJ.out.1
                    show t.length - ((j : Int) + 1).toNat < t.length - (j : Int).toNat
                    omega
              · have hji : ¬ (j : Int) < (XT.size : Int) := by have := H4.out.2.2.2.2.2.2.2; omega
                obtain rfl : j = t.length := by omega
                have hdone : jb = bstr (noNl (outB (out.take (m + 1)))) := by
                  rw [hjb, List.take_length, outB_succ out m H4.out.2.2.2.1, H4.out.2.2.2.2.1, noNl_app]
                have HJ := Lib.hid hdone
                clear hj hjt hjb hdone
                go_wp2_with fail
                first
                  | (refine ⟨⟨m + 1, _, rfl, rfl, HJ.out, H4.out.1, HB5.out⟩, ?_⟩
                     have := H4.out.1
                     show n - ((m : Int) + 1).toNat < n - (m : Int).toNat
                     omega)
                  | (go_round
                     case rel => exact ⟨m + 1, _, rfl, rfl, HJ.out, H4.out.1, HB5.out⟩
                     case measure =>
                       have := H4.out.1
                       show n - ((m : Int) + 1).toNat < n - (m : Int).toNat
                       omega)
          · have hmi : ¬ (m : Int) < (n : Int) := by omega
            obtain rfl : m = n := by omega
            have hgw : gb = WB := by rw [hgb, ← HN3.out, List.take_length, HO.out.1, HF.out.2.2.1]
            have hbf := Below.next H3.out.2 hbw3
            have H6 := Lib.hid hbf
            subst hgw
            have hzz : (gb.toList == gb.toList) = true := by simp
            clear hm hmn hgb hbw3 hbf
            go_wp2_with fail
            go_ret
            exact ⟨rfl, H6.out⟩
end Go.Proofs.YtleipnipohpkoaaDoor
