import Derived.Test.YtoccghbkfnalgaaL1
import Derived.Test.YtoccghbkfnalgaaP2
namespace Go.Proofs.Ytoccghbkfnalgaa
set_option linter.unusedVariables false
open Go.RowKit

def actCells (l : List Actn) : List Value := l.flatMap fun x => [.int .i64 x.kind, .int .i64 x.a, .int .i64 x.b, .int .i64 x.c]
theorem acts_at (l : List Actn) (i : Nat) (h : i < l.length) : (actCells l)[i * 4]? = some (.int .i64 (l.getD i default).kind) ∧ (actCells l)[i * 4 + 1]? = some (.int .i64 (l.getD i default).a)
    ∧ (actCells l)[i * 4 + 2]? = some (.int .i64 (l.getD i default).b) ∧ (actCells l)[i * 4 + 3]? = some (.int .i64 (l.getD i default).c) := by
  induction l generalizing i with
  | nil => simp at h
  | cons p l ih =>
    have e : actCells (p :: l) = .int .i64 p.kind :: .int .i64 p.a :: .int .i64 p.b :: .int .i64 p.c :: actCells l := by simp [actCells]
    cases i with
    | zero => simp [e]
    | succ i =>
      have := ih i (by simpa using h)
      rw [e, show (i + 1) * 4 = i * 4 + 1 + 1 + 1 + 1 from by omega]
      simpa using this
theorem actCells_length (l : List Actn) : (actCells l).length = l.length * 4 := by
  induction l with
  | nil => rfl
  | cons a l ih => simp [actCells] at *; omega

theorem Try.T40 : SlTy Try.prog 40 4 1 1 (.bool false) := SlTy.of Try.underlying40 Try.info4 rfl Nat.one_pos

/-- the index that 'at' gives, in a list of k -/
theorem opV_at (out : List Bool) (i : Int) (k : Nat) (hk : out.length = k) (h : 0 < k) : (i % k).toNat < out.length ∧ opV out i = out.getD (i % k).toNat false := by
  have h0 : 0 ≤ i % (k : Int) := Int.emod_nonneg _ (by omega)
  have h1 : i % (k : Int) < k := Int.emod_lt_of_pos _ (by omega)
  exact ⟨by omega, by rw [opV, if_neg (by omega), hk]⟩

/-- what holds at the loop's head in ref.Eval -/
def RefRel (acts : List Actn) (ins : List Bool) (B : Nat) (w : World) (v x i : Value) (wr : World) : Prop :=
  ∃ k : Nat, k ≤ acts.length ∧ i = .int .i64 k ∧ x = .int .i64 (refTo acts ins k).2 ∧ wr.ownsRow B 4 1 v k (bools (refTo acts ins k).1) ∧ Below B w wr

theorem bools_snoc (l : List Bool) (b : Bool) : bools (l ++ [b]) = bools l ++ [.bool b] := by simp [bools]

theorem ref_close {acts ins B w wr W3 w3} {k : Nat} {out : List Bool} {nx' : Nat} {V V' : Bool} {g cap : Nat} {v : Value} {x i : Value} (hlt : k < acts.length)
    (hS : refTo acts ins (k + 1) = (out ++ [V'], nx')) (hV : V = V') (hx : x = .int .i64 nx') (hi : i = .int .i64 ((k + 1 : Nat) : Int))
    (happ : App B 4 1 W3 v k 1 (bools out ++ [.bool V]) g cap w3) (hbel : Below B w wr) (hw : Below B wr W3) (hB : B ≤ W3.heap.size) (hv : ∀ k, v.ownBlock = some k → B ≤ k) :
    RefRel acts ins B w (.slice (some ⟨g, 0, none⟩) (k + 1) cap) x i w3 := by
  refine ⟨k + 1, hlt, hi, ?_, ?_, happ.below (hbel.trans hw) hB hv⟩
  · rw [hS]; exact hx
  · rw [hS, bools_snoc, ← hV]; exact happ.own

set_option maxRecDepth 100000 in
set_option maxHeartbeats 4000000 in
theorem refEval_any (w : World) (va vin : Value) (acts : List Actn) (ins : List Bool) (ha : RO w va 4 acts.length (actCells acts)) (hv : RO w vin 1 ins.length (bools ins)) (hal : acts.length ≤ 200) (hins : ins.length ≤ 9223372036854775807)
    (hkd : ∀ k, k < acts.length → 0 ≤ (acts.getD k default).kind ∧ (acts.getD k default).kind ≤ 5) :
    Calls Try.prog 17 #[va, vin] w fun e w' => ∃ v, e = .returned v ∧ RO w' v 1 acts.length (bools (refTo acts ins acts.length).1) ∧ Below w.heap.size w w' := by
  obtain ⟨pa, ca, rfl⟩ := ha.form
  obtain ⟨pv, cv, rfl⟩ := hv.form
  have H := Lib.hid (And.intro ha (And.intro hv hkd))
  have hal' : (acts.length : Int) ≤ 200 := by omega
  clear ha hv hkd
  go_enter Try.func17, Try.ntmps17
  go_wp2
  generalize hB : w.heap.size = B at *
  go_loopw [5, 6, 7] (fun v x i wr => RefRel acts ins B w v x i wr) (fun _ _ i _ => acts.length - (intOf i).toNat)
  case atStart => exact ⟨0, Nat.zero_le _, rfl, rfl, World.ownsRow_nil _ _ _ _, Below.refl _ _⟩
  case round =>
    obtain ⟨k, hk, rfl, rfl, hown, hbel⟩ := hrel
    have HR := Lib.hid (And.intro hown hbel)
    by_cases hlt : k < acts.length
    · obtain ⟨ba, oa, rfl⟩ := H.out.1.sl (acts_at acts k hlt).1
      have ha0 := (H.out.1.below (hB ▸ hbel)).cell (acts_at acts k hlt).1
      have ha1 := (H.out.1.below (hB ▸ hbel)).cell (acts_at acts k hlt).2.1
      have ha2 := (H.out.1.below (hB ▸ hbel)).cell (acts_at acts k hlt).2.2.1
      have ha3 := (H.out.1.below (hB ▸ hbel)).cell (acts_at acts k hlt).2.2.2
      rw [← Nat.add_assoc] at ha1 ha2 ha3
      have hkk := H.out.2.2 k hlt
      have hsucc := Lib.hid (refTo_succ acts ins k)
      have hlen := refTo_length acts ins k
      have hnx := refTo_next acts ins k
      obtain ⟨p5, c5, rfl⟩ := (RO.own hown).form
      have hro := Lib.hid (RO.own hown)
      generalize hS : refTo acts ins (k + 1) = S' at hsucc
      have hS := Lib.hid hS
      generalize refTo acts ins k = S at *
      obtain ⟨out, nx⟩ := S
      generalize acts.getD k default = X at *
      obtain ⟨kd, xa, xb, xc⟩ := X
      dsimp only at *
      have hnx' : (nx : Int) ≤ k := by omega
      have hBw : B ≤ wr.heap.size := hB ▸ hbel.size
      clear hown hbel
      generalize hI : ins.getD nx false = I at *
      by_cases hk0 : k = 0
      · have hopv : ∀ x, opV out x = false := fun x => by rw [opV, if_pos (by omega)]
        simp only [hopv] at hsucc
        have hk1 : (k : Int) ≤ 0 := by omega
        have hkd : kd = 0 ∨ kd = 1 ∨ kd = 2 ∨ kd = 3 ∨ kd = 4 ∨ kd = 5 := by omega
        have hK0 := Lib.hid hk0
        clear hkk hopv hk0
        rcases hkd with rfl | rfl | rfl | rfl | rfl | rfl
        · by_cases hin : nx < ins.length
          · obtain ⟨bv, ov, rfl⟩ := H.out.2.1.sl (bools_at ins nx hin)
            have hcv := (H.out.2.1.below (hB ▸ HR.out.2)).cell (bools_at ins nx hin)
            rw [hI] at hcv
            have hbv := World.block_lt_of_cell? _ _ hcv
            have HI := Lib.hid hI
            clear hI
            go_wp2_with (at_builtin; go_must (refine wpList_app rfl _ _ 40 rfl Try.T40 B _ k (bools out) rfl ((HR.out.1.alloc _).alloc _) _ 1 1 [_] rfl _ (new_at _ _ _ (by simp)) rfl rfl (by simp [Value.oneCell']) Nat.one_pos (by omega) (by omega) (by simp; omega) ?_); intro g cap w3 happ; have HP := Lib.hid happ; clear happ)
            all_goals
              go_roundw
              case rel => exact ref_close hlt (hS.out.trans hsucc.out) (by simp [actVal, *]) (by go_num) (by go_num) HP.out HR.out.2 (((Below.refl _ _).alloc hBw _).alloc (by simp; omega) _) (by simp; omega) (fun k hk => (HR.out.1.lt k hk).1)
              case measure => simp [intOf]; omega
          · have hz : ins.getD nx false = false := by simp [List.getD, List.getElem?_eq_none (Nat.le_of_not_lt hin)]
            rw [hz] at hI
            subst hI
            have hin2 : (ins.length : Int) ≤ nx := by omega
            clear hin hz
            go_wp2_with (at_builtin; go_must (refine wpList_app rfl _ _ 40 rfl Try.T40 B _ k (bools out) rfl ((HR.out.1.alloc _).alloc _) _ 1 1 [_] rfl _ (new_at _ _ _ (by simp)) rfl rfl (by simp [Value.oneCell']) Nat.one_pos (by omega) (by omega) (by simp; omega) ?_); intro g cap w3 happ; have HP := Lib.hid happ; clear happ)
            all_goals
              go_roundw
              case rel => exact ref_close hlt (hS.out.trans hsucc.out) (by simp [actVal, *]) (by go_num) (by go_num) HP.out HR.out.2 (((Below.refl _ _).alloc hBw _).alloc (by simp; omega) _) (by simp; omega) (fun k hk => (HR.out.1.lt k hk).1)
              case measure => simp [intOf]; omega
        all_goals
          go_wp2_with (at_builtin; go_must (refine wpList_app rfl _ _ 40 rfl Try.T40 B _ k (bools out) rfl ((HR.out.1.alloc _).alloc _) _ 1 1 [_] rfl _ (new_at _ _ _ (by simp)) rfl rfl (by simp [Value.oneCell']) Nat.one_pos (by omega) (by omega) (by simp; omega) ?_); intro g cap w3 happ; have HP := Lib.hid happ; clear happ)
          all_goals
            go_roundw
            case rel => exact ref_close hlt (hS.out.trans hsucc.out) (by simp [actVal, *]) (by simp) (by go_num) HP.out HR.out.2 (((Below.refl _ _).alloc hBw _).alloc (by simp; omega) _) (by simp; omega) (fun k hk => (HR.out.1.lt k hk).1)
            case measure => simp [intOf]; omega
      · have ga := opV_at out xa k hlen (by omega)
        have gb := opV_at out xb k hlen (by omega)
        have gc := opV_at out xc k hlen (by omega)
        obtain ⟨b5, o5, rfl⟩ := hro.out.sl (bools_at out _ ga.1)
        have c5a := hro.out.cell (bools_at out _ ga.1)
        have c5b := hro.out.cell (bools_at out _ gb.1)
        have c5c := hro.out.cell (bools_at out _ gc.1)
        rw [← ga.2] at c5a
        rw [← gb.2] at c5b
        rw [← gc.2] at c5c
        generalize opV out xa = A at *
        generalize opV out xb = Bb at *
        generalize opV out xc = C at *
        clear ga gb gc
        have e0 : ((k : Int) == 0) = false := by simp; omega
        have HA := Lib.hid (fun w => at_pos k xa w e0 (by omega) (by omega))
        have HB' := Lib.hid (fun w => at_pos k xb w e0 (by omega) (by omega))
        have HC := Lib.hid (fun w => at_pos k xc w e0 (by omega) (by omega))
        have a0 : 0 ≤ xa % (k : Int) := Int.emod_nonneg _ (by omega)
        have a1 : xa % (k : Int) < k := Int.emod_lt_of_pos _ (by omega)
        have b0 : 0 ≤ xb % (k : Int) := Int.emod_nonneg _ (by omega)
        have b1 : xb % (k : Int) < k := Int.emod_lt_of_pos _ (by omega)
        have c0 : 0 ≤ xc % (k : Int) := Int.emod_nonneg _ (by omega)
        have c1 : xc % (k : Int) < k := Int.emod_lt_of_pos _ (by omega)
        have hb5 := World.block_lt_of_cell? _ _ c5a
        have hgt : 0 < k := by omega
        clear e0 hk0
        have hkd : kd = 0 ∨ kd = 1 ∨ kd = 2 ∨ kd = 3 ∨ kd = 4 ∨ kd = 5 := by omega
        clear hkk
        rcases hkd with rfl | rfl | rfl | rfl | rfl | rfl
        · by_cases hin : nx < ins.length
          · obtain ⟨bv, ov, rfl⟩ := H.out.2.1.sl (bools_at ins nx hin)
            have hcv := (H.out.2.1.below (hB ▸ HR.out.2)).cell (bools_at ins nx hin)
            rw [hI] at hcv
            have hbv := World.block_lt_of_cell? _ _ hcv
            have HI := Lib.hid hI
            clear hI
            go_wp2_with (first
            | (go_at_call_of 28 (Value.int .i64 xa); go_must (refine (HA.out _).mono ?_; rintro e w' ⟨rfl, rfl⟩))
            | (go_at_call_of 28 (Value.int .i64 xb); go_must (refine (HB'.out _).mono ?_; rintro e w' ⟨rfl, rfl⟩))
            | (go_at_call_of 28 (Value.int .i64 xc); go_must (refine (HC.out _).mono ?_; rintro e w' ⟨rfl, rfl⟩))
            | (at_builtin; go_must (refine wpList_app rfl _ _ 40 rfl Try.T40 B _ k (bools out) rfl ((HR.out.1.alloc _).alloc _) _ 1 1 [_] rfl _ (new_at _ _ _ (by simp)) rfl rfl (by simp [Value.oneCell']) Nat.one_pos (by omega) (by omega) (by simp; omega) ?_); intro g cap w3 happ; have HP := Lib.hid happ; clear happ))
            all_goals
              go_roundw
              case rel => exact ref_close hlt (hS.out.trans hsucc.out) (by simp [actVal, *]) (by go_num) (by go_num) HP.out HR.out.2 (((Below.refl _ _).alloc hBw _).alloc (by simp; omega) _) (by simp; omega) (fun k hk => (HR.out.1.lt k hk).1)
              case measure => simp [intOf]; omega
          · have hz : ins.getD nx false = false := by simp [List.getD, List.getElem?_eq_none (Nat.le_of_not_lt hin)]
            rw [hz] at hI
            subst hI
            have hin2 : (ins.length : Int) ≤ nx := by omega
            clear hin hz
            go_wp2_with (first
            | (go_at_call_of 28 (Value.int .i64 xa); go_must (refine (HA.out _).mono ?_; rintro e w' ⟨rfl, rfl⟩))
            | (go_at_call_of 28 (Value.int .i64 xb); go_must (refine (HB'.out _).mono ?_; rintro e w' ⟨rfl, rfl⟩))
            | (go_at_call_of 28 (Value.int .i64 xc); go_must (refine (HC.out _).mono ?_; rintro e w' ⟨rfl, rfl⟩))
            | (at_builtin; go_must (refine wpList_app rfl _ _ 40 rfl Try.T40 B _ k (bools out) rfl ((HR.out.1.alloc _).alloc _) _ 1 1 [_] rfl _ (new_at _ _ _ (by simp)) rfl rfl (by simp [Value.oneCell']) Nat.one_pos (by omega) (by omega) (by simp; omega) ?_); intro g cap w3 happ; have HP := Lib.hid happ; clear happ))
            all_goals
              go_roundw
              case rel => exact ref_close hlt (hS.out.trans hsucc.out) (by simp [actVal, *]) (by go_num) (by go_num) HP.out HR.out.2 (((Below.refl _ _).alloc hBw _).alloc (by simp; omega) _) (by simp; omega) (fun k hk => (HR.out.1.lt k hk).1)
              case measure => simp [intOf]; omega
        all_goals
          go_wp2_with (first
            | (go_at_call_of 28 (Value.int .i64 xa); go_must (refine (HA.out _).mono ?_; rintro e w' ⟨rfl, rfl⟩))
            | (go_at_call_of 28 (Value.int .i64 xb); go_must (refine (HB'.out _).mono ?_; rintro e w' ⟨rfl, rfl⟩))
            | (go_at_call_of 28 (Value.int .i64 xc); go_must (refine (HC.out _).mono ?_; rintro e w' ⟨rfl, rfl⟩))
            | (at_builtin; go_must (refine wpList_app rfl _ _ 40 rfl Try.T40 B _ k (bools out) rfl ((HR.out.1.alloc _).alloc _) _ 1 1 [_] rfl _ (new_at _ _ _ (by simp)) rfl rfl (by simp [Value.oneCell']) Nat.one_pos (by omega) (by omega) (by simp; omega) ?_); intro g cap w3 happ; have HP := Lib.hid happ; clear happ))
          all_goals
            go_roundw
            case rel => exact ref_close hlt (hS.out.trans hsucc.out) (by simp [actVal, *] <;> cases A <;> cases Bb <;> rfl) (by simp) (by go_num) HP.out HR.out.2 (((Below.refl _ _).alloc hBw _).alloc (by simp; omega) _) (by simp; omega) (fun k hk => (HR.out.1.lt k hk).1)
            case measure => simp [intOf]; omega
    · obtain rfl : k = acts.length := by omega
      clear hown hbel
      go_wp2
      go_ret
      exact ⟨_, rfl, RO.own HR.out.1, hB ▸ HR.out.2⟩
end Go.Proofs.Ytoccghbkfnalgaa
