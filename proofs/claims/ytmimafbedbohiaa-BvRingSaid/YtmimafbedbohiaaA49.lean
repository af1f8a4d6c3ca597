import Derived.Test.YtmimafbedbohiaaA48
import Derived.Test.YtmimafbedbohiaaA45
import Derived.Test.YtmimafbedbohiaaA46
import Derived.Test.YtmimafbedbohiaaA47
import Derived.Test.YtmimafbedbohiaaA39
namespace Go.Proofs.Ytmimafbedbohiaa
set_option linter.unusedVariables false
open Go.RowKit

theorem VR.new_ne {w : World} {p : Option Addr} {c n x : Nat} (h : VR w (.agg #[.int .i64 n, .slice p (wcount n) c]) n x) (hn : 0 < n) : ∀ b o, p = some ⟨b, o, none⟩ → b ≠ w.heap.size := by
  rintro b o rfl
  obtain ⟨b', o', c', e', f'⟩ := h.word (i := 0) (by unfold wcount; omega)
  simp only [Value.agg.injEq, Array.mk.injEq, List.cons.injEq, Value.slice.injEq, true_and, and_true, Option.some.injEq, Addr.mk.injEq] at e'
  have := World.block_lt_of_cell? _ _ f'
  dsimp only at this
  omega
theorem Far.ne {w : World} {k : Value} {p : Option Addr} {m c L : Nat} (h : Far w (.agg #[k, .slice p m c])) (hL : L < w.heap.size) : ∀ b o, p = some ⟨b, o, none⟩ → b ≠ L := fun b o hp => by
  have := h _ _ _ _ _ _ rfl hp
  omega
theorem VR.set2 {w : World} {p : Option Addr} {c n x R : Nat} {x1 y1 : Value} (h : VR w (.agg #[.int .i64 n, .slice p (wcount n) c]) n x) (hne : ∀ b o, p = some ⟨b, o, none⟩ → b ≠ R) :
    VR ((w.setCell ⟨R, 0, none⟩ x1).setCell ⟨R, 1, none⟩ y1) (.agg #[.int .i64 n, .slice p (wcount n) c]) n x := by
  refine ⟨?_, h.lt, h.le⟩
  obtain ⟨⟨p', c', e, hl, p2, c2, e2, hcs⟩, _, _⟩ := h
  simp only [Value.agg.injEq, Array.mk.injEq, List.cons.injEq, Value.slice.injEq, true_and, and_true] at e
  obtain ⟨rfl, rfl⟩ := e
  refine ⟨p, c, rfl, hl, p2, c2, e2, fun j y hj => ?_⟩
  obtain ⟨b, o, h1, h2⟩ := hcs j y hj
  simp only [Value.slice.injEq] at e2
  obtain ⟨rfl, _⟩ := e2
  exact ⟨b, o, h1, (World.cell?_setCell_far _ _ _ _ (Ne.symm (hne b o h1))).trans ((World.cell?_setCell_far _ _ _ _ (Ne.symm (hne b o h1))).trans h2)⟩

set_option maxRecDepth 100000 in
set_option maxHeartbeats 1000000 in
/-- the closure of BvOrders -/
theorem is_any {w : World} {va vb : Value} {n m A B k : Nat} {q : Bool} (hA : VR w va n A) (hB : VR w vb m B)
    (H : ∀ w', Below w.heap.size w w' → Calls Try.prog 15 #[.int .i64 k, va, vb] w' (RetE w' 1 (b2n q) 0)) :
    Calls Try.prog 30 #[.int .i64 k, va, vb] w fun e w' => e = .returned (.int .i64 (if q then 1 else 0)) ∧ Below w.heap.size w w' := by
  have HO := Lib.hid H
  obtain ⟨pa, ca, rfl, _⟩ := hA.ex
  obtain ⟨pb, cb, rfl, _⟩ := hB.ex
  have HNm : Hid (∀ (w' : World) (v : Value), VR w' v 1 (b2n q) → Calls Try.prog 16 #[v, .int .i64 9] w' fun e w'' => e = .returned (.int .i64 (if q then 1 else 0)) ∧ Below w'.heap.size w' w'') := Lib.hid fun w' v h => (num_any h 9 (by decide)).mono fun e w'' ⟨he, hb⟩ => ⟨by rw [he]; cases q <;> rfl, hb⟩
  clear hA hB H
  generalize (if q = true then (1 : Int) else 0) = r at *
  go_enter Try.func30, Try.ntmps30
  go_wp2_with fail
  have hT := ((Tr.nil w).lay 26 [.int .i64 n, .slice pa (wcount n) ca]).lay 26 [.int .i64 m, .slice pb (wcount m) cb]
  generalize (w.alloc (.cells [Value.int .i64 n, .slice pa (wcount n) ca].toArray 26)).alloc (.cells [Value.int .i64 m, .slice pb (wcount m) cb].toArray 26) = W at *
  have HT := Lib.hid hT
  clear hT
  refine (HO.out _ HT.out.bel).mono ?_; rintro e w1 ⟨v, rfl, hv, hb, _⟩
  obtain ⟨p, c, rfl, _⟩ := hv.ex
  have HT1 := Lib.hid ((HT.out.below hb).lay 26 [.int .i64 (1 : Nat), .slice p (wcount 1) c])
  have HV := Lib.hid (hv.below (Below.new w1 (.cells #[.int .i64 (1 : Nat), .slice p (wcount 1) c] 26)))
  clear hv hb
  go_wp2_with fail
  refine (HNm.out _ _ HV.out).mono ?_; rintro e w2 ⟨rfl, hb2⟩
  have HT2 := Lib.hid (HT1.out.below hb2)
  clear hb2
  go_wp2_with fail
  go_ret
  exact ⟨rfl, HT2.out.bel⟩
end Go.Proofs.Ytmimafbedbohiaa
