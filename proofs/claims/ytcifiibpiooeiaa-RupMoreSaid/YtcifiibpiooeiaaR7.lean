import Derived.Test.YtcifiibpiooeiaaR6
import Derived.Defers
import Derived.Lib.MinMax
namespace Go.Proofs.Ytcifiibpiooeiaa
set_option linter.unusedVariables false
open Go.RowKit Go.Sort

/-! ## clear -/
def zeroT (val : List Int) (l : List Int) : List Int := l.foldl (fun v x => v.set x.natAbs 0) val
theorem zeroT_snoc (val l : List Int) (x : Int) : zeroT val (l ++ [x]) = (zeroT val l).set x.natAbs 0 := by simp [zeroT]
theorem zeroT_len : ∀ (l val : List Int), (zeroT val l).length = val.length
  | [], _ => rfl
  | x :: l, val => by show (zeroT (val.set x.natAbs 0) l).length = _; rw [zeroT_len l]; simp
theorem zeroT_get : ∀ (l val : List Int) (k : Nat), (zeroT val l).getD k 0 = if ∃ x, x ∈ l ∧ x.natAbs = k then 0 else val.getD k 0
  | [], val, k => by simp [zeroT]
  | x :: l, val, k => by
    show (zeroT (val.set x.natAbs 0) l).getD k 0 = _
    rw [zeroT_get l]
    by_cases h : ∃ y, y ∈ l ∧ y.natAbs = k
    · rw [if_pos h, if_pos]
      obtain ⟨y, hy, e⟩ := h
      exact ⟨y, List.mem_cons_of_mem _ hy, e⟩
    · rw [if_neg h]
      by_cases hx : x.natAbs = k
      · rw [if_pos ⟨x, List.mem_cons_self, hx⟩, hx]
        by_cases hk : k < val.length
        · simp [List.getD, hk]
        · simp [List.getD, List.getElem?_eq_none (show (val.set k 0).length ≤ k by simp; omega)]
      · have hn : ¬ ∃ y, y ∈ x :: l ∧ y.natAbs = k := by
          rintro ⟨y, hy, e⟩
          rcases List.mem_cons.1 hy with rfl | hy
          · exact hx e
          · exact h ⟨y, hy, e⟩
        rw [if_neg hn]
        simp [List.getD, hx]
theorem Vals.cleared {v : Nat} {val trail : List Int} (h : Vals v val trail) : Vals v (zeroT val trail) [] := by
  refine ⟨by rw [zeroT_len, h.len], fun x hx => by simp at hx, List.nodup_nil, fun x hx => by simp at hx, fun x h0 hx => ?_⟩
  have : litV (zeroT val trail) x = 0 := by
    unfold litV
    rw [zeroT_get]
    by_cases e : ∃ y, y ∈ trail ∧ y.natAbs = x.natAbs
    · rw [if_pos e]; split <;> rfl
    · rw [if_neg e]
      have h1 := (h.pos x h0 hx).2.2.2 ⟨fun hm => e ⟨x, hm, rfl⟩, fun hm => e ⟨-x, hm, by simp⟩⟩
      unfold litV at h1
      exact h1
  rw [this]; simp
def clearS (S : St) : St := { S with val := zeroT S.val S.trail, trail := [], head := 0 }
theorem Wf.cleared {S : St} {W : Nat → List Int} (h : Wf S W) : Wf (clearS S) W := ⟨h.vals.cleared, h.lits, h.sh, h.sh2, h.w1, h.w2, h.nd⟩
/-- the trail's row is dropped -/
theorem Ck.droptr {base b : Nat} {w : World} {S : St} {V : Key → Value} (h : Ck base b w S V) : Ck base b (w.setCell ⟨b, 5, none⟩ (.slice none 0 0)) { S with trail := [] } (updV V .tr (.slice none 0 0)) := by
  have hm := h.mem.drop .tr
  have e : ((.slice none 0 0, []) : Value × List Value) = (.slice none 0 0, ints []) := rfl
  rw [e, Rof_tr] at hm
  refine ⟨hm.keep (by simp) fun k g hg => Below.heap_setCell _ _ _ _ (fun e => hm.nb k (by rw [hg]; exact congrArg some e)), ?_⟩
  have := h.blk.set 5 (.slice none 0 0)
  have e : (ckCells S V).set 5 (.slice none 0 0) = ckCells { S with trail := [] } (updV V .tr (.slice none 0 0)) := by simp [ckCells, updV]
  rwa [e] at this
theorem Ck.trc {base b : Nat} {w : World} {S : St} {V : Key → Value} (h : Ck base b w S V) {i : Nat} (hi : i < S.trail.length) : ∃ g c, V .tr = .slice (some ⟨g, 0, none⟩) S.trail.length c ∧ w.cell? ⟨g, i, none⟩ = some (.int .i64 (S.trail.getD i 0)) := by
  obtain ⟨g, c, e, hc, _⟩ := h.mem.at .tr (i := i) (u := .int .i64 (S.trail.getD i 0)) (ints_at _ _ hi)
  have hl : (Rof S V .tr).2.length = S.trail.length := ints_len _
  rw [hl] at e
  exact ⟨g, c, e, hc⟩
structure LoopZ (base b : Nat) (w : World) (S : St) (V : Key → Value) (i : Nat) (wr : World) : Prop where
  ck : Ck base b wr { S with val := zeroT S.val (S.trail.take i) } V
  bel : Below base w wr
def ClearR (base b : Nat) (w : World) (S : St) (V : Key → Value) (u : FrameMode) (e : Ending) (u' : FrameMode) (w' : World) : Prop :=
  u' = u ∧ (e = .returned (.tuple #[]) ∧ ∃ V', Ck base b w' (clearS S) V' ∧ Below base w w' ∧ V' .kept = V .kept)
set_option maxRecDepth 100000 in
set_option maxHeartbeats 4000000 in
theorem clear_any {base b : Nat} {w : World} {S : St} {V : Key → Value} (u : FrameMode) (h : Ck base b w S V) (hV : Vals S.v S.val S.trail) (hv : S.v ≤ 400000) :
    CallsD Try.prog 56 #[.pointer (some ⟨b, 0, none⟩)] u w (ClearR base b w S V u) := by
  have hZ : LoopZ base b w S V 0 w := ⟨h, Below.refl _ _⟩
  obtain ⟨pt, ct, hVt⟩ := h.form .tr
  have hcl : (Rof S V .tr).2.length = S.trail.length := ints_len _
  rw [hcl] at hVt
  have c5 := h.cell (i := 5) rfl
  rw [hVt] at c5
  obtain ⟨T, hT⟩ : ∃ T, S.trail.length = T := ⟨_, rfl⟩
  rw [hT] at c5 hVt
  have hT6 : T ≤ 1000000 := by have := hV.tlen; omega
  have hTi : (T : Int) ≤ 1000000 := by omega
  have HZ := Lib.hid hZ
  have HX := Lib.hid (And.intro hVt (And.intro hT (And.intro hV hv)))
  clear h hZ hVt hT hV hv hcl
  go_enter_d Try.func56, Try.ntmps56
  go_wp2_with fail
  go_loopw [9] (fun iv wr => ∃ i, i ≤ T ∧ iv = .int .i64 i ∧ LoopZ base b w S V i wr) (fun iv _ => T - (intOf iv).toNat)
  case atStart => exact ⟨0, Nat.zero_le _, rfl, HZ.out⟩
  case round =>
    obtain ⟨i, hiT, rfl, hL⟩ := hrel
    have HL := Lib.hid hL
    by_cases hlt : i < T
    · have hki : i < S.trail.length := by rw [HX.out.2.1]; exact hlt
      obtain ⟨gt, ct2, hVt2, hct⟩ := hL.ck.trc (i := i) hki
      have hVt3 := hVt2
      rw [HX.out.1] at hVt3
      have hT2 : ({ S with val := zeroT S.val (S.trail.take i) } : St).trail.length = T := HX.out.2.1
      rw [hT2] at hVt3
      cases hVt3
      obtain ⟨x, hx⟩ : ∃ x, S.trail.getD i 0 = x := ⟨_, rfl⟩
      have hct' : wr.cell? ⟨gt, i, none⟩ = some (.int .i64 x) := by rw [← hx]; exact hct
      have hxl := HX.out.2.2.1.lits x (by rw [← hx]; exact getD_mem hki)
      obtain ⟨k, hk⟩ : ∃ k, x.natAbs = k := ⟨_, rfl⟩
      have hvl : ({ S with val := zeroT S.val (S.trail.take i) } : St).val.length = S.v + 1 := by show (zeroT _ _).length = _; rw [zeroT_len, HX.out.2.2.1.len]
      obtain ⟨g, c, hVa, hc, hf, hgb, hgn⟩ := hL.ck.va (i := k) (by rw [hvl]; omega)
      have c4 := hL.ck.cell (i := 4) rfl
      rw [hVa, hvl] at c4
      obtain ⟨n, hn⟩ : ∃ n, S.v + 1 = n := ⟨_, rfl⟩
      rw [hn] at c4
      have hck := hL.ck.setva (i := k) 0 (by rw [hvl]; omega) hVa
      have hst : ({ ({ S with val := zeroT S.val (S.trail.take i) } : St) with val := ({ S with val := zeroT S.val (S.trail.take i) } : St).val.set k 0 } : St) = { S with val := zeroT S.val (S.trail.take (i + 1)) } := by
        have e : S.trail.take (i + 1) = S.trail.take i ++ [x] := by
          rw [List.take_add_one, ← hx]
          simp [List.getD, List.getElem?_eq_getElem hki]
        rw [e, zeroT_snoc, hk]
      rw [hst] at hck
      have hbw := hL.bel.trans ((upd_set (w := wr) (b := g) (i := k) (F := fun j => j = g) (.int .i64 0) rfl).toBelow (B := base) (fun j e => by omega) hL.ck.base_le)
      have hkn : (k : Int) < (n : Int) := by omega
      have hk0 : (0 : Int) ≤ k := by omega
      have hiw : IntKind.i64.wrap ((i : Int) + 1) = (i : Int) + 1 := i64_of (by omega)
      have hii : (i : Int) < T := by omega
      have hi0 : (0 : Int) ≤ i := by omega
      have hid : decide (i < T) = true := decide_eq_true hlt
      have hv0 := HX.out.2.2.2
      have HN := Lib.hid (And.intro hck hbw)
      have hxn : IntKind.i64.wrap (-x) = -x := i64_of (by omega)
      have hmx : max x (-x) = (k : Int) := by omega
      clear hL hki hct hVt2 hT2 hx hxl hk hvl hgb hgn hVa hn hck hst hbw hv0 hlt
      go_wp2_with fail
      go_roundw
      case rel => exact ⟨i + 1, by omega, by go_num, HN.out.1, HN.out.2⟩
      case measure => simp [intOf]; omega
    · have hid : decide (i < T) = false := decide_eq_false hlt
      have hck := hL.ck
      have e : S.trail.take i = S.trail := List.take_of_length_le (by rw [HX.out.2.1]; omega)
      rw [e] at hck
      have d5 := hck.cell (i := 5) rfl
      have f5 := hck.blk.frz 5
      have d6 := hck.cell (i := 6) rfl
      have f6 := hck.blk.frz 6
      have hck2 := hck.droptr.sethd 0
      have hb2 := (hL.bel.trans ((upd_set (w := wr) (b := b) (i := 5) (F := fun j => j = b) (.slice none 0 0) rfl).toBelow (B := base) (fun j e => by have := hck.mem.hb; omega) hck.base_le)).trans ((upd_set (w := wr.setCell ⟨b, 5, none⟩ (.slice none 0 0)) (b := b) (i := 6) (F := fun j => j = b) (.int .i64 (0 : Nat)) rfl).toBelow (B := base) (fun j e => by have := hck.mem.hb; omega) hck.droptr.base_le)
      have HE := Lib.hid (And.intro hck2 hb2)
      clear hck hck2 hb2 hL e hlt
      go_wp2_with fail
      go_end0
      exact ⟨rfl, _, HE.out.1, HE.out.2, rfl⟩
end Go.Proofs.Ytcifiibpiooeiaa
