import Derived.Test.YtmimafbedbohiaaB5
import Derived.RangeFuncNested
import Derived.RangeFuncBound
import Derived.RangeFuncCalls
import Derived.RangeFuncLeaves
import Derived.Shelf.Abstract
import Derived.Shelf.RegionOpen
import Derived.WalkKit
import Derived.OwnWalkIn
import Derived.TacticsInMore
import Derived.LoopNIn
import Derived.LoopIn
namespace Go.Proofs.Ytmimafbedbohiaa
set_option linter.unusedVariables false
open Go.RowKit Go.Shelf
attribute [local go_sem] Oper.semAt_some

/-- what has come of a list of m when k rounds are over: the indices from the top -/
def downs (m k : Nat) : List Nat := (List.range k).map fun j => m - 1 - j
theorem downs_succ (m k : Nat) : downs m (k + 1) = downs m k ++ [m - 1 - k] := by simp [downs, List.range_succ]
theorem downs_length (m k : Nat) : (downs m k).length = k := by simp [downs]

/-- what a round keeps: all below n0, and the box Bs -/
def KB (n₀ Bs : Nat) (A B : World) : Prop := Below n₀ A B ∧ B.heap[Bs]? = A.heap[Bs]?
theorem KB.refl (n₀ Bs : Nat) (A : World) : KB n₀ Bs A A := ⟨Below.refl _ _, rfl⟩
theorem KB.trans {n₀ Bs : Nat} {A B C : World} (h : KB n₀ Bs A B) (k : KB n₀ Bs B C) : KB n₀ Bs A C := ⟨h.1.trans k.1, k.2.trans h.2⟩
theorem KB.box {n₀ Bs : Nat} {A B : World} (h : KB n₀ Bs A B) {v : Value} (hc : A.cell? ⟨Bs, 0, none⟩ = some v) : B.cell? ⟨Bs, 0, none⟩ = some v := by
  rw [← hc]; simp only [World.cell?, h.2]

set_option maxRecDepth 100000 in
set_option maxHeartbeats 2000000 in
/-- slices.Backward's closure over a list of vectors: for every loop body that keeps what lay below n0 -/
theorem back_in (F : Fence) (n : Nat) (h91 : F.fn 91) (hro : F.round = none) (hn : 1 ≤ n) (l Bs n₀ b off len cap : Nat) (wd : Nat → Int) (sl : Nat → Option Addr × Nat × Nat) (hlen : (len : Int) ≤ 100) (hb : b < n₀) (J Jx : List (Fin len) → World → Prop)
    (hY : ∀ pre x W, J pre W → pre.length < len → YieldAt F (n - 1) Try.prog l #[.int .i64 (x.1 : Int), .agg #[.int .i64 (wd x.1), .slice (sl x.1).1 (sl x.1).2.1 (sl x.1).2.2]] W fun e W' =>
      (e = .returned (.bool true) ∧ J (pre ++ [x]) W' ∧ KB n₀ Bs W W') ∨ (e = .returned (.bool false) ∧ Jx (pre ++ [x]) W'))
    (W : World) (hBs : W.cell? ⟨Bs, 0, none⟩ = some (.slice (some ⟨b, off, none⟩) len cap))
    (hc : ∀ j, j < len → W.cell? ⟨b, off + j * 2, none⟩ = some (.int .i64 (wd j)) ∧ W.cell? ⟨b, off + j * 2 + 1, none⟩ = some (.slice (sl j).1 (sl j).2.1 (sl j).2.2)) (h0 : J [] W) :
    CallsIn F n Try.prog 91 #[.func (.yield l) #[] #[], .pointer (some ⟨Bs, 0, none⟩)] W fun e W' => (∃ v, e = .returned v) ∧
      ((∃ ys : List (Fin len), ys.map (·.1) = downs len len ∧ J ys W') ∨ (∃ pre : List (Fin len), (∃ k, k ≤ len ∧ pre.map (·.1) = downs len k) ∧ Jx pre W')) := by
  refine callsIn_of_wp Try.func91 rfl h91 ?_ hro
  simp only [Try.ntmps91, List.size_toArray, List.length_cons, List.length_nil, Nat.reduceAdd, Nat.reduceSub, Array.replicate_succ, Array.replicate_zero, List.push_toArray, List.append_toArray, List.nil_append, List.cons_append]
  gi_wp2
  gi_loopw [3] (fun i wr => ∃ (k : Nat) (pre : List (Fin len)), k ≤ len ∧ i = .int .i64 ((len : Int) - 1 - k) ∧ pre.map (·.1) = downs len k ∧ J pre wr ∧ KB n₀ Bs W wr)
    (fun i _ => (intOf i + 1).toNat)
  case atStart => exact ⟨0, [], Nat.zero_le _, by simp, rfl, h0, KB.refl _ _ _⟩
  case round =>
    obtain ⟨k, pre, hk, rfl, hpre, hJs, hnx⟩ := hrel
    by_cases hlt : k < len
    · obtain ⟨j, hj⟩ : ∃ j, j = len - 1 - k := ⟨_, rfl⟩
      have hjl : j < len := by omega
      have hje : (len : Int) - 1 - k = (j : Int) := by omega
      have hpl : pre.length = k := by have := congrArg List.length hpre; rw [List.length_map, downs_length] at this; exact this
      have hcx := (hc j hjl)
      have hc1 := (hnx.1.cell (p := ⟨b, off + j * 2, none⟩) hb).trans hcx.1
      have hc2 := (hnx.1.cell (p := ⟨b, off + j * 2 + 1, none⟩) hb).trans hcx.2
      have hcs := hnx.box hBs
      obtain ⟨fn, tmps, assign, body, hy, hR⟩ := hY pre ⟨j, hjl⟩ wr hJs (by omega)
      dsimp only at hy
      rw [hje]
      have hjn : (0 : Int) ≤ (j : Int) := by omega
      have hjm : (j : Int) < (len : Int) := by omega
      have hH : Hid (j = len - 1 - k ∧ k < len ∧ pre.length = k) := Lib.hid ⟨hj, hlt, hpl⟩
      clear hcx hc hje hj hlt hpl
      gi_wp2
      refine hR.mono ?_
      rintro e W3 (⟨rfl, hJ3, hk3⟩ | ⟨rfl, hJx3⟩)
      · gi_wp2
        go_roundw
        all_goals (obtain ⟨hj, hlt, hpl⟩ := hH.out)
        case rel => exact ⟨k + 1, pre ++ [⟨j, hjl⟩], by omega, by congr 1; omega, by rw [downs_succ, List.map_append, hpre]; simp [hj], hJ3, hnx.trans hk3⟩
        case measure => simp [intOf]
      · gi_wp2
        refine bodyPost_ret (results_none rfl _ _ _) rfl ?_
        obtain ⟨hj, hlt, hpl⟩ := hH.out
        exact ⟨⟨_, rfl⟩, .inr ⟨_, ⟨k + 1, by omega, by rw [downs_succ, List.map_append, hpre]; simp [hj]⟩, hJx3⟩⟩
    · obtain rfl : k = len := by omega
      have hje : (k : Int) - 1 - k = -1 := by omega
      rw [hje]
      gi_wp2
      go_end0
      exact ⟨⟨_, rfl⟩, .inl ⟨_, hpre, hJs⟩⟩

set_option maxRecDepth 100000 in
set_option maxHeartbeats 1000000 in
theorem back_nil_in (F : Fence) (n : Nat) (h91 : F.fn 91) (hro : F.round = none) (l Bs : Nat) (J : List (Fin 0) → World → Prop) (W : World) (hBs : W.cell? ⟨Bs, 0, none⟩ = some (.slice none 0 0)) (h0 : J [] W) :
    CallsIn F n Try.prog 91 #[.func (.yield l) #[] #[], .pointer (some ⟨Bs, 0, none⟩)] W fun e W' => (∃ v, e = .returned v) ∧ J [] W' := by
  refine callsIn_of_wp Try.func91 rfl h91 ?_ hro
  simp only [Try.ntmps91, List.size_toArray, List.length_cons, List.length_nil, Nat.reduceAdd, Nat.reduceSub, Array.replicate_succ, Array.replicate_zero, List.push_toArray, List.append_toArray, List.nil_append, List.cons_append]
  gi_wp2
  gi_loopw [3] (fun i wr => i = .int .i64 (-1) ∧ J [] wr) (fun _ _ => 0)
  case atStart => exact ⟨rfl, h0⟩
  case round =>
    obtain ⟨rfl, hJs⟩ := hrel
    gi_wp2
    go_end0
    exact ⟨⟨_, rfl⟩, hJs⟩

set_option maxHeartbeats 1000000 in
/-- slices.Backward: the list is boxed -/
theorem backward_in (F : Fence) (n : Nat) (h76 : F.fn 76) (hro : F.round = none) (a : Option Addr) (len cap : Nat) (w : World) :
    CallsIn F n Try.prog 76 #[.slice a len cap] w fun e w' => e = .returned (.func (.func 91) #[] #[.pointer (some ⟨w.heap.size, 0, none⟩)]) ∧ w' = w.alloc (.cells #[.slice a len cap] 97) := by
  refine callsIn_of_wp Try.func76 rfl h76 ?_ hro
  simp only [Try.ntmps76, List.size_toArray, List.length_cons, List.length_nil, Nat.reduceAdd, Nat.reduceSub, Array.replicate_succ, Array.replicate_zero, List.push_toArray, List.append_toArray, List.nil_append, List.cons_append]
  gi_wp2
  go_ret
  exact ⟨rfl, rfl⟩

/-- the value sv is a list of m vectors, whose two cells are wd and sl, in a block below n0; or the nil list -/
def Vecs (n₀ : Nat) (W : World) (sv : Value) (m : Nat) (wd : Nat → Int) (sl : Nat → Option Addr × Nat × Nat) : Prop :=
  (sv = .slice none 0 0 ∧ m = 0) ∨ ∃ b off cap, sv = .slice (some ⟨b, off, none⟩) m cap ∧ b < n₀ ∧
    ∀ j, j < m → W.cell? ⟨b, off + j * 2, none⟩ = some (.int .i64 (wd j)) ∧ W.cell? ⟨b, off + j * 2 + 1, none⟩ = some (.slice (sl j).1 (sl j).2.1 (sl j).2.2)
theorem Vecs.below {n₀ : Nat} {A B : World} (h : Below n₀ A B) {sv : Value} {m wd sl} : Vecs n₀ A sv m wd sl → Vecs n₀ B sv m wd sl
  | .inl e => .inl e
  | .inr ⟨b, off, cap, e, hb, hc⟩ => .inr ⟨b, off, cap, e, hb, fun j hj => ⟨(h.cell (p := ⟨b, off + j * 2, none⟩) hb).trans (hc j hj).1, (h.cell (p := ⟨b, off + j * 2 + 1, none⟩) hb).trans (hc j hj).2⟩⟩

theorem back_stops (F : Fence) (n : Nat) (h91 : F.fn 91) (hro : F.round = none) (hn : 1 ≤ n) (Bs n₀ : Nat) (sv : Value) (m : Nat) (wd : Nat → Int) (sl : Nat → Option Addr × Nat × Nat) (hm : (m : Int) ≤ 100) (w : World) (hBs : Bs < w.heap.size) (hn₀ : n₀ ≤ w.heap.size)
    (hc : w.cell? ⟨Bs, 0, none⟩ = some sv) (hI : Vecs n₀ w sv m wd sl) :
    SeqStopsK F n Try.prog 91 #[.pointer (some ⟨Bs, 0, none⟩)] (fun x : Fin m => #[.int .i64 (x.1 : Int), .agg #[.int .i64 (wd x.1), .slice (sl x.1).1 (sl x.1).2.1 (sl x.1).2.2]]) (KB n₀ Bs) (fun ys => ys.map (·.1) = downs m m)
      (fun pre => ∃ k, k ≤ m ∧ pre.map (·.1) = downs m k) m w := fun l J Jx W hW _ _ hY h0 => by
  have hc' := (hW.cell (p := ⟨Bs, 0, none⟩) hBs).trans hc
  rcases hI.below (hW.mono hn₀) with ⟨rfl, rfl⟩ | ⟨b, off, cap, rfl, hb, hcs⟩
  · exact (back_nil_in F n h91 hro l Bs J W hc' h0).mono fun e W' ⟨he, hj⟩ => ⟨he, .inl ⟨_, rfl, hj⟩⟩
  · exact back_in F n h91 hro hn l Bs n₀ b off m cap wd sl hm hb J Jx hY W hc' hcs h0
end Go.Proofs.Ytmimafbedbohiaa
