import Derived.Test.YtfhakomhkmbmeaaDoorN4
namespace Go.Proofs.YtfhakomhkmbmeaaDoor
set_option linter.unusedVariables false
open Go.RowKit

/-! # hex -/
def nib (x k : Nat) : Nat := x / 2 ^ (4 * k) % 16
theorem nib_lt (x k : Nat) : nib x k < 16 := Nat.mod_lt _ (by decide)
/-- the digits from place m - 1 down, behind out -/
def hexF (x : Nat) : Nat → List Nat → List Nat
  | 0, out => out
  | k + 1, out => hexF x k (if 0 < nib x k ∨ 0 < out.length ∨ k = 0 then out ++ [nib x k] else out)
theorem hexF_ne (x : Nat) : ∀ k out, 0 < out.length ∨ 0 < k → 0 < (hexF x k out).length
  | 0, out, h => by simpa [hexF] using h
  | k + 1, out, h => by
    unfold hexF
    by_cases hc : 0 < nib x k ∨ 0 < out.length ∨ k = 0
    · rw [if_pos hc]; exact hexF_ne x k _ (.inl (by simp))
    · rw [if_neg hc]; exact hexF_ne x k _ (.inr (by omega))
theorem hexF_len (x : Nat) : ∀ k out, (hexF x k out).length ≤ out.length + k
  | 0, out => by simp [hexF]
  | k + 1, out => by
    unfold hexF
    have h := hexF_len x k (if 0 < nib x k ∨ 0 < out.length ∨ k = 0 then out ++ [nib x k] else out)
    split at h
    · rename_i hc; rw [if_pos hc]; simp at h; omega
    · rename_i hc; rw [if_neg hc]; omega
theorem hexF_lt (x : Nat) : ∀ k out, (∀ d ∈ out, d < 16) → ∀ d ∈ hexF x k out, d < 16
  | 0, out, h => by simpa [hexF] using h
  | k + 1, out, h => by
    unfold hexF
    apply hexF_lt
    intro d hd
    split at hd
    · rcases List.mem_append.1 hd with hd | hd
      · exact h d hd
      · simp at hd; subst hd; exact nib_lt _ _
    · exact h d hd
theorem valH_snoc (b : Nat) (l : List Nat) (d : Nat) : valH b (l ++ [d]) = valH b l * b + d := by simp [valH, List.foldl_append]
theorem hexF_val (x : Nat) : ∀ k out, valH 16 (hexF x k out) = valH 16 out * 2 ^ (4 * k) + x % 2 ^ (4 * k)
  | 0, out => by simp [hexF, Nat.mod_one]
  | k + 1, out => by
    unfold hexF
    rw [hexF_val x k]
    have e : x % 2 ^ (4 * (k + 1)) = nib x k * 2 ^ (4 * k) + x % 2 ^ (4 * k) := by
      rw [show 4 * (k + 1) = 4 * k + 4 by omega, Nat.pow_add, Nat.mod_mul]
      unfold nib
      rw [Nat.mul_comm (x / 2 ^ (4 * k) % 16)]
      exact Nat.add_comm _ _
    have e2 : (2 : Nat) ^ (4 * (k + 1)) = 16 * 2 ^ (4 * k) := by rw [show 4 * (k + 1) = 4 * k + 4 by omega, Nat.pow_add, Nat.mul_comm]
    rw [e, e2]
    split
    · rw [valH_snoc, Nat.add_mul, Nat.mul_assoc]; omega
    · rename_i hc
      have h0 : nib x k = 0 := by omega
      have h1 : out = [] := List.eq_nil_of_length_eq_zero (by omega)
      rw [h0, h1]; simp [valH]
def hexDs (n x : Nat) : List Nat := hexF x ((n - 1) / 4 + 1) []
theorem hexDs_val {n x : Nat} (hx : x < 2 ^ n) : valH 16 (hexDs n x) = x := by
  unfold hexDs
  rw [hexF_val, show valH 16 [] = 0 from rfl, Nat.zero_mul, Nat.zero_add]
  exact Nat.mod_eq_of_lt (Nat.lt_of_lt_of_le hx (Nat.pow_le_pow_right (by decide) (by omega)))
theorem or_bit : ∀ j, j < 4 → ∀ d : Nat, d < 2 ^ j → bits .or .i64 (d : Int) ((2 ^ j : Nat) : Int) = ((d + 2 ^ j : Nat) : Int) := by decide
theorem nib_step (x k j : Nat) : x / 2 ^ (4 * k) % 2 ^ (j + 1) = x / 2 ^ (4 * k) % 2 ^ j + (if x.testBit (4 * k + j) then 2 ^ j else 0) := by
  have h : (x / 2 ^ (4 * k)).testBit j = x.testBit (4 * k + j) := by rw [Nat.testBit_div_two_pow, Nat.add_comm]
  rw [← h, Nat.testBit_eq_decide_div_mod_eq, Nat.pow_succ, Nat.mod_mul]
  generalize x / 2 ^ (4 * k) = y
  have h2 := Nat.mod_two_eq_zero_or_one (y / 2 ^ j)
  rcases h2 with h2 | h2 <;> simp [h2]
def hexV (out : List Nat) : List Value := out.map fun d => .int .u8 (((hexC d).toNat : Nat) : Int)
theorem Tryd.info_u8 : (Tryd.prog.info? 5).map (fun i => (i.zero, i.size, i.bytes)) = some (some (.int .u8 0), 1, 1) := by kernel_rfl
theorem Tryd.TB : SlTy Tryd.prog 54 5 1 1 (.int .u8 0) := SlTy.of Tryd.underlying54 Tryd.info_u8 rfl (by decide)
theorem run_bytes {w : World} {b c : Nat} (l : List UInt8) (h : ∀ j, j < l.length → w.cell? ⟨b, j, none⟩ = some (.int .u8 (((l.getD j 0).toNat : Nat) : Int))) :
    (convert 54 9 (.slice (some ⟨b, 0, none⟩) l.length c)).run Tryd.prog w = .ok (.string ⟨l.toArray⟩) w := by
  rw [run_convert_bytes_string w 54 9 5 _ l.length c Tryd.underlying54 Tryd.underlying5 Tryd.underlying9]
  rw [run_bytesToString w ⟨b, 0, none⟩ l.length c ((List.range l.length).map fun j => (((l.getD j 0).toNat : Nat) : Int))]
  · congr 2
    rw [fold_push]
    congr 2
    simp only [List.map_map, ByteArray.empty]
    show [] ++ _ = _
    rw [List.nil_append]
    apply List.ext_getElem?
    intro j
    rw [List.getElem?_map]
    by_cases hj : j < l.length
    · rw [List.getElem?_range hj]
      simp [List.getD, List.getElem?_eq_getElem hj]
    · rw [List.getElem?_eq_none (by simpa using hj), List.getElem?_eq_none (by omega)]; rfl
  · rw [run_loadCells w ⟨b, 0, none⟩ l.length (fun j => .int .u8 (((l.getD j 0).toNat : Nat) : Int)) (fun j hj => by
      have hadd : (⟨b, 0, none⟩ : Addr).add j = ⟨b, j, none⟩ := by unfold Addr.add; split <;> simp_all
      rw [hadd]
      exact h j hj)]
    simp
theorem run_hex {w : World} {base L : Nat} {po : Option Addr} {co : Nat} {out : List Nat} (ho : w.ownsRow base 5 1 (.slice po L co) L (hexV out)) (hL : L = out.length) (h0 : 0 < L) :
    (convert 54 9 (.slice po L co)).run Tryd.prog w = .ok (.string ⟨(hexL out).toArray⟩) w := by
  have hr := RO.own ho
  have hg : ∀ j, j < out.length → (hexV out)[j]? = some (.int .u8 ((((hexL out).getD j 0).toNat : Nat) : Int)) := fun j hj => by simp [hexV, hexL, List.getD, List.getElem?_eq_getElem hj]
  subst hL
  rcases ho.2 with ⟨_, e⟩ | ⟨g, cap, cur, hv, hb, _⟩
  · omega
  · cases hv
    have e : out.length = (hexL out).length := by simp [hexL]
    have h := run_bytes (w := w) (b := g) (c := co) (hexL out) (fun j hj => by
      have h1 := hr.cell (hg j (by rw [e]; exact hj))
      rwa [Nat.zero_add] at h1)
    rw [← e] at h
    exact h
/-- the loop of hex -/
structure HexL (w : World) (n x : Nat) (p : Option Addr) (c : Nat) (m : Nat) (out : List Nat) (ov : Value) (wr : World) : Prop where
  own : wr.ownsRow w.heap.size 5 1 ov out.length (hexV out)
  box : Blk wr w.heap.size 27 [.int .i64 n, .slice p (wcount n) c]
  ne : ov.ownBlock ≠ some w.heap.size
  bel : Below w.heap.size w wr
  eq : hexF x m out = hexDs n x
  len : out.length + m ≤ (n - 1) / 4 + 1
theorem HexL.below {w : World} {n x : Nat} {p : Option Addr} {c m : Nat} {out : List Nat} {ov : Value} {wr wr' : World} (h : HexL w n x p c m out ov wr) (hb : Below wr.heap.size wr wr') : HexL w n x p c m out ov wr' :=
  ⟨ownsRow_below h.own hb, h.box.below hb h.box.lt, h.ne, h.bel.trans (hb.mono h.bel.size), h.eq, h.len⟩
theorem ro_oneV {w : World} (t : Nat) (x : Value) : RO (w.alloc (.cells #[x] t)) (.slice (some ⟨w.heap.size, 0, none⟩) 1 1) 1 1 [x] :=
  ⟨rfl, _, _, rfl, fun j u hj => ⟨_, 0, rfl, by rw [Nat.zero_add]; exact (Blk.new (w := w) t [x]).cell hj⟩⟩
theorem HexL.skip {w wr : World} {n x : Nat} {p : Option Addr} {c k : Nat} {out : List Nat} {ov : Value} (h : HexL w n x p c (k + 1) out ov wr) (hc : ¬ (0 < nib x k ∨ 0 < out.length ∨ k = 0)) : HexL w n x p c k out ov wr :=
  ⟨h.own, h.box, h.ne, h.bel, by have := h.eq; rwa [hexF, if_neg hc] at this, by have := h.len; omega⟩
theorem HexL.app {w wr w8 : World} {n x : Nat} {p po : Option Addr} {c k co m0 d : Nat} {out : List Nat} {v8 y : Value} {o : Obj} (h : HexL w n x p c (k + 1) out (.slice po m0 co) wr) (hm : out.length = m0) (hd : nib x k = d) (hc : 0 < d ∨ 0 < m0 ∨ k = 0) (hy : y = .int .u8 (((hexC d).toNat : Nat) : Int))
    (ha : AppR w.heap.size 5 1 (wr.alloc o) (.slice po m0 co) (m0 + 1) (hexV out ++ [y]) v8 w8) : HexL w n x p c k (out ++ [d]) v8 w8 := by
  subst hm; subst hd; subst hy
  have hb1 : Below w.heap.size w (wr.alloc o) := h.bel.alloc h.bel.size _
  have hown : (wr.alloc o).ownsRow w.heap.size 5 1 (.slice po out.length co) out.length (hexV out) := h.own.alloc o
  have hbx : Blk (wr.alloc o) w.heap.size 27 [.int .i64 n, .slice p (wcount n) c] := h.box.alloc o
  refine ⟨?_, ?_, ?_, ha.below hb1 hb1.size (fun j hj => (own_lt hown j hj).1), ?_, ?_⟩
  · have e : hexV (out ++ [nib x k]) = hexV out ++ [.int .u8 (((hexC (nib x k)).toNat : Nat) : Int)] := by simp [hexV]
    rw [e, List.length_append]
    exact ha.own
  · have := ha.grown.block w.heap.size hbx.lt (Ne.symm h.ne)
    unfold Blk at hbx ⊢
    rw [this]; exact hbx
  · intro e
    rcases ha.at_ with h' | h'
    · rw [h'] at e; exact h.ne e
    · rw [h', Option.some.injEq, World.size_alloc] at e
      have := h.bel.size
      omega
  · have := h.eq
    rwa [hexF, if_pos hc] at this
  · have := h.len
    simp; omega
theorem hexC_at (d : Nat) (h : d < (⟨#[48, 49, 50, 51, 52, 53, 54, 55, 56, 57, 97, 98, 99, 100, 101, 102]⟩ : ByteArray).size) : (⟨#[48, 49, 50, 51, 52, 53, 54, 55, 56, 57, 97, 98, 99, 100, 101, 102]⟩ : ByteArray)[d] = hexC d := by
  have hd : d < 16 := h
  have : ∀ d : Fin 16, (#[48, 49, 50, 51, 52, 53, 54, 55, 56, 57, 97, 98, 99, 100, 101, 102] : Array UInt8)[d.val] = hexC d.val := by decide
  exact this ⟨d, hd⟩
set_option maxRecDepth 100000 in
set_option maxHeartbeats 8000000 in
theorem hex_any {w : World} {va : Value} {n x : Nat} (hA : VR w va n x) (hn : 0 < n) : Calls Tryd.prog 39 #[va] w fun e w' => e = .returned (.string ⟨(hexL (hexDs n x)).toArray⟩) ∧ Below w.heap.size w w' := by
  have hle := hA.le
  have hni : (n : Int) ≤ 128 := by omega
  have HW : Hid (∀ w', Below w.heap.size w w' → Calls Tryd.prog 5 #[va] w' fun e w'' => e = .returned (.int .i64 n) ∧ Below w'.heap.size w' w'') := Lib.hid fun w' hb => width_any (hA.below hb)
  have HBit : Hid (∀ w' (i : Int), Below w.heap.size w w' → Calls Tryd.prog 20 #[va, .int .i64 i] w' fun e w'' => e = .returned (.bool (bitI x i)) ∧ Below w'.heap.size w' w'') := Lib.hid fun w' i hb => bit_any (hA.below hb) i
  obtain ⟨p, c, rfl, _⟩ := hA.ex
  have HN := Lib.hid (And.intro hn hle)
  have h0 := hA.new_ne hn
  have q1 : IntKind.i64.wrap ((n : Int) - 1) = (n : Int) - 1 := i64_of (by omega)
  obtain ⟨M, hM⟩ : ∃ M, (n - 1) / 4 = M := ⟨_, rfl⟩
  have hMi : ((n : Int) - 1).tdiv 4 = (M : Int) := by rw [Int.tdiv_eq_ediv_of_nonneg (by omega)]; omega
  have hM31 : M ≤ 31 := by omega
  have q2 : IntKind.i64.wrap (M : Int) = (M : Int) := i64_of (by omega)
  have HM := Lib.hid (And.intro hM hM31)
  clear hA hn hle hM hM31
  go_enter Tryd.func39, Tryd.ntmps39
  go_wp2_with fail
  have hb0 := Below.new w (.cells #[.int .i64 n, .slice p (wcount n) c] 27)
  have hk0 := Blk.new (w := w) 27 [.int .i64 n, .slice p (wcount n) c]
  have HK := Lib.hid (And.intro hb0 hk0)
  clear hb0 hk0
  generalize w.alloc (.cells #[.int .i64 n, .slice p (wcount n) c] 27) = W at *
  refine (HW.out _ HK.out.1).mono ?_; rintro e w1 ⟨rfl, hb1⟩
  have hL0 : HexL w n x p c (M + 1) [] (.slice none 0 0) w1 := ⟨World.ownsRow_nil _ _ _ _, HK.out.2.next hb1, by simp [Value.ownBlock], HK.out.1.trans (hb1.mono HK.out.1.size), by rw [← HM.out.1]; rfl, by rw [HM.out.1]; simp⟩
  have HL0 := Lib.hid hL0
  clear hL0 hb1 HK
  go_wp2_with fail
  go_loopw [4, 3] (fun iv ov wr => ∃ (m : Nat) (out : List Nat), m ≤ M + 1 ∧ iv = .int .i64 ((m : Int) - 1) ∧ HexL w n x p c m out ov wr) (fun iv _ _ => (intOf iv + 1).toNat)
  case atStart => exact ⟨M + 1, [], Nat.le_refl _, by congr 1; omega, HL0.out⟩
  case round =>
    clear HL0
    obtain ⟨m, out, hm, rfl, hL⟩ := hrel
    obtain ⟨po, co, rfl⟩ := ownsRow_form hL.own
    cases m with
    | zero =>
      have HL := Lib.hid hL
      have hge : decide ((0 : Int) ≤ ((0 : Nat) : Int) - 1) = false := by decide
      have hpos : 0 < out.length := by
        have h1 : out = hexDs n x := hL.eq
        rw [h1]; exact hexF_ne _ _ _ (.inr (by omega))
      have hcv := run_hex hL.own rfl hpos
      have heq : out = hexDs n x := hL.eq
      obtain ⟨m0, hm0⟩ : ∃ m0, out.length = m0 := ⟨_, rfl⟩
      rw [hm0] at hcv ⊢
      rw [heq] at hcv
      clear hL hm heq hpos hm0
      go_wp2_with fail
      go_ret
      exact ⟨rfl, HL.out.bel⟩
    | succ k =>
      have hik : ((k + 1 : Nat) : Int) - 1 = (k : Int) := by omega
      rw [hik]
      have hk31 : (k : Int) ≤ 31 := by have := HM.out.2; omega
      have hk0 : (0 : Int) ≤ k := by omega
      have q3 : IntKind.i64.wrap (4 * (k : Int)) = 4 * (k : Int) := i64_of (by omega)
      have HL := Lib.hid hL
      have Hm := Lib.hid hm
      clear hL hm hik
      go_wp2_with fail
      go_loopw [15, 5] (fun kv dv wx => ∃ j : Nat, j ≤ 4 ∧ kv = .int .i64 j ∧ dv = .int .i64 ((x / 2 ^ (4 * k) % 2 ^ j : Nat) : Int) ∧ Below wr.heap.size wr wx) (fun kv _ _ => 4 - (intOf kv).toNat)
      case atStart => exact ⟨0, by omega, rfl, by simp [Nat.mod_one], Below.refl _ _⟩
      case round =>
        obtain ⟨j, hj, rfl, rfl, hbx⟩ := hrel
        have hLx := HL.out.below hbx
        by_cases hlt : j < 4
        · have q4 : IntKind.i64.wrap (4 * (k : Int) + (j : Int)) = 4 * (k : Int) + (j : Int) := i64_of (by omega)
          have hbit := HBit.out _ (4 * (k : Int) + (j : Int)) hLx.bel
          have hbe : bitI x (4 * (k : Int) + (j : Int)) = x.testBit (4 * k + j) := by
            unfold bitI
            rw [decide_eq_true (by omega), Bool.true_and, show (4 * (k : Int) + (j : Int)).toNat = 4 * k + j by omega]
          rw [hbe] at hbit
          have hst := nib_step x k j
          have hdl : x / 2 ^ (4 * k) % 2 ^ j < 2 ^ j := Nat.mod_lt _ (Nat.pow_pos (by decide))
          have hor := or_bit j hlt _ hdl
          obtain ⟨q, hq⟩ : ∃ q, x.testBit (4 * k + j) = q := ⟨_, rfl⟩
          rw [hq] at hbit hst
          obtain ⟨d, hd⟩ : ∃ d, x / 2 ^ (4 * k) % 2 ^ j = d := ⟨_, rfl⟩
          obtain ⟨d2, hd2⟩ : ∃ d2, d + 2 ^ j = d2 := ⟨_, rfl⟩
          rw [hd] at hst hor ⊢
          rw [hd2] at hor
          have c0 := hLx.box.cell (i := 0) rfl
          have c1 := hLx.box.cell (i := 1) rfl
          have HC := Lib.hid hbit
          have HS := Lib.hid (And.intro hst (And.intro hd2 (And.intro hlt (And.intro hLx hbx))))
          clear hbe hbit hst hdl hq hd hd2 hj hLx hbx
          rcases (show j = 0 ∨ j = 1 ∨ j = 2 ∨ j = 3 by omega) with rfl | rfl | rfl | rfl
          · have hor : bits .or .i64 (d : Int) 1 = (d2 : Int) := hor
            have q4 : IntKind.i64.wrap (4 * (k : Int) + 0) = 4 * (k : Int) + 0 := q4
            go_wp2_with fail
            refine HC.out.mono ?_; rintro e w4 ⟨rfl, hb4⟩
            have H4 := Lib.hid (HS.out.2.2.2.2.trans (hb4.mono HS.out.2.2.2.2.size))
            clear hb4 c0 c1
            cases q
            · go_wp2_with fail
              go_roundw
              case rel => exact ⟨1, by omega, by go_num, by rw [HS.out.1]; simp, H4.out⟩
              case measure => simp [intOf]
            · go_wp2_with fail
              go_roundw
              case rel => exact ⟨1, by omega, by go_num, by rw [HS.out.1, ← HS.out.2.1]; simp, H4.out⟩
              case measure => simp [intOf]
          · have hor : bits .or .i64 (d : Int) 2 = (d2 : Int) := hor
            have q4 : IntKind.i64.wrap (4 * (k : Int) + 1) = 4 * (k : Int) + 1 := q4
            go_wp2_with fail
            refine HC.out.mono ?_; rintro e w4 ⟨rfl, hb4⟩
            have H4 := Lib.hid (HS.out.2.2.2.2.trans (hb4.mono HS.out.2.2.2.2.size))
            clear hb4 c0 c1
            cases q
            · go_wp2_with fail
              go_roundw
              case rel => exact ⟨2, by omega, by go_num, by rw [HS.out.1]; simp, H4.out⟩
              case measure => simp [intOf]
            · go_wp2_with fail
              go_roundw
              case rel => exact ⟨2, by omega, by go_num, by rw [HS.out.1, ← HS.out.2.1]; simp, H4.out⟩
              case measure => simp [intOf]
          · have hor : bits .or .i64 (d : Int) 4 = (d2 : Int) := hor
            have q4 : IntKind.i64.wrap (4 * (k : Int) + 2) = 4 * (k : Int) + 2 := q4
            go_wp2_with fail
            refine HC.out.mono ?_; rintro e w4 ⟨rfl, hb4⟩
            have H4 := Lib.hid (HS.out.2.2.2.2.trans (hb4.mono HS.out.2.2.2.2.size))
            clear hb4 c0 c1
            cases q
            · go_wp2_with fail
              go_roundw
              case rel => exact ⟨3, by omega, by go_num, by rw [HS.out.1]; simp, H4.out⟩
              case measure => simp [intOf]
            · go_wp2_with fail
              go_roundw
              case rel => exact ⟨3, by omega, by go_num, by rw [HS.out.1, ← HS.out.2.1]; simp, H4.out⟩
              case measure => simp [intOf]
          · have hor : bits .or .i64 (d : Int) 8 = (d2 : Int) := hor
            have q4 : IntKind.i64.wrap (4 * (k : Int) + 3) = 4 * (k : Int) + 3 := q4
            go_wp2_with fail
            refine HC.out.mono ?_; rintro e w4 ⟨rfl, hb4⟩
            have H4 := Lib.hid (HS.out.2.2.2.2.trans (hb4.mono HS.out.2.2.2.2.size))
            clear hb4 c0 c1
            cases q
            · go_wp2_with fail
              go_roundw
              case rel => exact ⟨4, by omega, by go_num, by rw [HS.out.1]; simp, H4.out⟩
              case measure => simp [intOf]
            · go_wp2_with fail
              go_roundw
              case rel => exact ⟨4, by omega, by go_num, by rw [HS.out.1, ← HS.out.2.1]; simp, H4.out⟩
              case measure => simp [intOf]
        · obtain rfl : j = 4 := by omega
          obtain ⟨d, hd⟩ : ∃ d, x / 2 ^ (4 * k) % 2 ^ 4 = d := ⟨_, rfl⟩
          have hd16 : d < 16 := by rw [← hd]; exact Nat.mod_lt _ (by decide)
          have hnb : nib x k = d := hd
          rw [hd]
          obtain ⟨m0, hm0⟩ : ∃ m0, out.length = m0 := ⟨_, rfl⟩
          have heq := hLx.eq
          rw [hexF, hnb, hm0] at heq
          have hlen := hLx.len
          have hown := hLx.own
          rw [hm0] at hlen hown ⊢
          have happI : (0 < d ∨ 0 < m0 ∨ k = 0) → ∀ v8 w8 (o : Obj), AppR w.heap.size 5 1 (wr.alloc o) (.slice po m0 co) (m0 + 1) (hexV out ++ [.int .u8 ((((⟨#[48, 49, 50, 51, 52, 53, 54, 55, 56, 57, 97, 98, 99, 100, 101, 102]⟩ : ByteArray)[d]'hd16).toNat : Nat) : Int)]) v8 w8 → HexL w n x p c k (out ++ [d]) v8 w8 :=
            fun hc v8 w8 o ha => by
              have hLy := hLx
              rw [hm0] at hLy
              exact hLy.app hm0 hnb hc (by rw [hexC_at]) ha
          have hskip : ¬ (0 < d ∨ 0 < m0 ∨ k = 0) → HexL w n x p c k out (.slice po m0 co) wr := fun hc => by
            have hLy := hLx
            rw [hm0] at hLy
            exact hLy.skip (by rw [hnb, hm0]; exact hc)
          have HX := Lib.hid (And.intro hLx (And.intro heq (And.intro hlen (And.intro hown (And.intro hm0 (And.intro happI hskip))))))
          have hmi : (m0 : Int) ≤ 32 := by have := HM.out.1; have := HM.out.2; omega
          have Hk1 : Hid (k ≤ M) := Lib.hid (by have := Hm.out; omega)
          clear hLx heq hlen hown hm0 hd hnb hbx hj hlt happI hskip
          have hdec : IntKind.i64.wrap ((k : Int) - 1) = (k : Int) - 1 := i64_of (by omega)
          have hd16i : (d : Int) < 16 := by omega
          have hdz : (0 : Int) ≤ d := by omega
          by_cases c1 : 0 < d
          · have C1 := Lib.hid c1
            have c1i : (0 : Int) < d := by omega
            go_upto_region 13 with fail
            go_wp2_with (at_builtin; go_must (refine wpList_appR rfl _ _ 54 rfl Tryd.TB w.heap.size (.slice po m0 co) m0 _ rfl (HX.out.2.2.2.1.alloc _) _ 1 _ rfl (ro_oneV _ _) (by simp [Value.oneCell']) (by omega) (by omega) (Nat.le_trans HX.out.1.bel.size (by simp)) ?_); intro v8 w8 happ; have h8 := (HX.out.2.2.2.2.2.1 (.inl C1.out) v8 w8 _ happ); obtain ⟨p8, c8, ev8⟩ := ownsRow_form happ.own; subst ev8; have H8 := Lib.hid h8; clear happ h8)
            go_roundw
            case rel => exact ⟨k, _, by have := Hk1.out; omega, rfl, H8.out⟩
            case measure => simp [intOf]
          · have c1i : decide ((0 : Int) < d) = false := decide_eq_false (by omega)
            by_cases c2 : 0 < m0
            · have C2 := Lib.hid c2
              have c2i : (0 : Int) < m0 := by omega
              go_upto_region 13 with fail
              go_wp2_with (at_builtin; go_must (refine wpList_appR rfl _ _ 54 rfl Tryd.TB w.heap.size (.slice po m0 co) m0 _ rfl (HX.out.2.2.2.1.alloc _) _ 1 _ rfl (ro_oneV _ _) (by simp [Value.oneCell']) (by omega) (by omega) (Nat.le_trans HX.out.1.bel.size (by simp)) ?_); intro v8 w8 happ; have h8 := (HX.out.2.2.2.2.2.1 (.inr (.inl C2.out)) v8 w8 _ happ); obtain ⟨p8, c8, ev8⟩ := ownsRow_form happ.own; subst ev8; have H8 := Lib.hid h8; clear happ h8)
              go_roundw
              case rel => exact ⟨k, _, by have := Hk1.out; omega, rfl, H8.out⟩
              case measure => simp [intOf]
            · have c2i : decide ((0 : Int) < m0) = false := decide_eq_false (by omega)
              by_cases c3 : k = 0
              · have C3 := Lib.hid c3
                have c3i : ((k : Int) == 0) = true := by simp; omega
                clear c3
                go_upto_region 13 with fail
                go_wp2_with (at_builtin; go_must (refine wpList_appR rfl _ _ 54 rfl Tryd.TB w.heap.size (.slice po m0 co) m0 _ rfl (HX.out.2.2.2.1.alloc _) _ 1 _ rfl (ro_oneV _ _) (by simp [Value.oneCell']) (by omega) (by omega) (Nat.le_trans HX.out.1.bel.size (by simp)) ?_); intro v8 w8 happ; have h8 := (HX.out.2.2.2.2.2.1 (.inr (.inr C3.out)) v8 w8 _ happ); obtain ⟨p8, c8, ev8⟩ := ownsRow_form happ.own; subst ev8; have H8 := Lib.hid h8; clear happ h8)
                go_roundw
                case rel => exact ⟨k, _, by have := Hk1.out; omega, rfl, H8.out⟩
                case measure => simp [intOf]
              · have C3 := Lib.hid (show ¬ (0 < d ∨ 0 < m0 ∨ k = 0) by omega)
                have c3i : ((k : Int) == 0) = false := by simp; omega
                clear c3
                go_wp2_with fail
                go_roundw
                case rel => exact ⟨k, out, by have := Hk1.out; omega, rfl, HX.out.2.2.2.2.2.2 C3.out⟩
                case measure => simp [intOf]
end Go.Proofs.YtfhakomhkmbmeaaDoor
