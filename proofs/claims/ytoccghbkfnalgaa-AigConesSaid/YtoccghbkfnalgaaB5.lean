import Derived.Test.YtoccghbkfnalgaaB4
namespace Go.Proofs.Ytoccghbkfnalgaa
set_option linter.unusedVariables false
open Go.RowKit

theorem Try.info52 : (Try.prog.info? 52).map (fun i => (i.zero, i.size, i.bytes)) = some (some (.agg #[.int .i64 0, .int .i64 0, .int .i64 0, .int .i64 0]), 4, 32) := by kernel_rfl
theorem Try.T22 : SlTy Try.prog 22 52 4 32 (.agg #[.int .i64 0, .int .i64 0, .int .i64 0, .int .i64 0]) := SlTy.of Try.underlying22 Try.info52 rfl (by decide)

def plainAct (x : Actn) : Actn := { x with kind := x.kind % 6 }
def plainActs (l : List Actn) : List Actn := (l.take 60).map plainAct

theorem tmod6 (k : Int) : (k.tmod 6 + 6).tmod 6 = k % 6 := by
  have h1 : k.tmod 6 = k - 6 * k.tdiv 6 := Int.tmod_def k 6
  have h2 : -6 < k.tmod 6 := by have := Int.lt_tmod_of_pos k (b := 6) (by omega); omega
  have h3 : k.tmod 6 < 6 := Int.tmod_lt_of_pos k (by omega)
  rw [Int.tmod_eq_emod_of_nonneg (by omega)]
  omega

theorem actCells_snoc (l : List Actn) (x : Actn) : actCells (l ++ [x]) = actCells l ++ [.int .i64 x.kind, .int .i64 x.a, .int .i64 x.b, .int .i64 x.c] := by simp [actCells]

theorem take_snoc_getD (l : List Actn) (k : Nat) (h : k < l.length) : (l.take (k + 1)) = l.take k ++ [l.getD k default] := by
  rw [List.take_succ_eq_append_getElem h]
  simp [List.getD, List.getElem?_eq_getElem h]

def PlRel (acts : List Actn) (B : Nat) (w : World) (v i : Value) (wr : World) : Prop :=
  ∃ k : Nat, k ≤ acts.length ∧ k ≤ 60 ∧ i = .int .i64 k ∧ wr.ownsRow B 52 4 v k (actCells ((acts.take k).map plainAct)) ∧ Below B w wr

theorem pl_close {acts B w wr W3 w3} {k : Nat} {X : Actn} {kd : Int} {g cap : Nat} {v : Value} {i : Value} (hlt : k < acts.length) (h60 : k < 60) (hX : acts.getD k default = X)
    (hk : kd = X.kind % 6) (hi : i = .int .i64 ((k + 1 : Nat) : Int))
    (happ : App B 52 4 W3 v k 1 (actCells ((acts.take k).map plainAct) ++ [.int .i64 kd, .int .i64 X.a, .int .i64 X.b, .int .i64 X.c]) g cap w3) (hbel : Below B w wr) (hw : Below B wr W3) (hB : B ≤ W3.heap.size) (hv : ∀ k, v.ownBlock = some k → B ≤ k) :
    PlRel acts B w (.slice (some ⟨g, 0, none⟩) (k + 1) cap) i w3 := by
  refine ⟨k + 1, hlt, h60, hi, ?_, happ.below (hbel.trans hw) hB hv⟩
  rw [take_snoc_getD _ _ hlt, hX, List.map_append, List.map_cons, List.map_nil, actCells_snoc]
  have := happ.own
  rw [hk] at this
  exact this

set_option maxHeartbeats 1000000 in
theorem plain_any (w : World) (va : Value) (acts : List Actn) (ha : RO w va 4 acts.length (actCells acts)) (hal : acts.length ≤ 9223372036854775807) :
    Calls Try.prog 9 #[va] w fun e w' => ∃ v, e = .returned v ∧ RO w' v 4 (plainActs acts).length (actCells (plainActs acts)) ∧ Below w.heap.size w w' := by
  obtain ⟨pa, ca, rfl⟩ := ha.form
  have H := Lib.hid ha
  clear ha
  go_enter Try.func9, Try.ntmps9
  go_wp2
  generalize hB : w.heap.size = B at *
  go_loopw [3, 4] (fun v i wr => PlRel acts B w v i wr) (fun _ i _ => 60 - (intOf i).toNat)
  case atStart => exact ⟨0, Nat.zero_le _, Nat.zero_le _, rfl, World.ownsRow_nil _ _ _ _, Below.refl _ _⟩
  case round =>
    obtain ⟨k, hk, hk6, rfl, hown, hbel⟩ := hrel
    have HR := Lib.hid (And.intro hown hbel)
    have hBw : B ≤ wr.heap.size := hB ▸ hbel.size
    by_cases hlt : k < acts.length
    · by_cases h60 : k < 60
      · obtain ⟨ba, oa, rfl⟩ := H.out.sl (acts_at acts k hlt).1
        have ha0 := (H.out.below (hB ▸ hbel)).cell (acts_at acts k hlt).1
        have ha1 := (H.out.below (hB ▸ hbel)).cell (acts_at acts k hlt).2.1
        have ha2 := (H.out.below (hB ▸ hbel)).cell (acts_at acts k hlt).2.2.1
        have ha3 := (H.out.below (hB ▸ hbel)).cell (acts_at acts k hlt).2.2.2
        rw [← Nat.add_assoc] at ha1 ha2 ha3
        generalize hX : acts.getD k default = X at *
        obtain ⟨kd, xa, xb, xc⟩ := X
        have hX := Lib.hid hX
        dsimp only at *
        have hm := tmod6 kd
        have hm1 : -6 < kd.tmod 6 := by have := Int.lt_tmod_of_pos kd (b := 6) (by omega); omega
        have hm2 : kd.tmod 6 < 6 := Int.tmod_lt_of_pos kd (by omega)
        have hm := Lib.hid hm
        clear hown hbel
        go_wp2_with (at_builtin; go_must (refine wpList_app rfl _ _ 22 rfl Try.T22 B _ k _ rfl ((HR.out.1.alloc _).alloc _) _ 1 1 [_, _, _, _] rfl _ (new_at _ _ _ (by simp)) rfl rfl (by simp [Value.oneCell']) Nat.one_pos (by omega) (by omega) (by simp; omega) ?_); intro g cap w3 happ; have HP := Lib.hid happ; clear happ)
        go_roundw
        case rel => exact pl_close hlt h60 hX.out rfl (by go_num) HP.out HR.out.2 (((Below.refl _ _).alloc hBw _).alloc (by simp; omega) _) (by simp; omega) (fun k hk => (HR.out.1.lt k hk).1)
        case measure => simp [intOf]; omega
      · obtain rfl : k = 60 := by omega
        clear hown hbel
        go_wp2
        go_ret
        refine ⟨_, rfl, ?_, hB ▸ HR.out.2⟩
        have := RO.own HR.out.1
        rw [show (plainActs acts).length = 60 by simp [plainActs]; omega]
        exact this
    · obtain rfl : k = acts.length := by omega
      clear hown hbel
      go_wp2
      go_ret
      refine ⟨_, rfl, ?_, hB ▸ HR.out.2⟩
      have := RO.own HR.out.1
      rw [show (plainActs acts).length = acts.length by simp [plainActs]; omega]
      rw [show plainActs acts = (acts.take acts.length).map plainAct by rw [plainActs, List.take_of_length_le hk6, List.take_of_length_le (Nat.le_refl _)]]
      exact this
end Go.Proofs.Ytoccghbkfnalgaa
