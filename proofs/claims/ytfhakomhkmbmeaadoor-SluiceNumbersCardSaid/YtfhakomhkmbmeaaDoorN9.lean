import Derived.Test.YtfhakomhkmbmeaaDoorN8
import Derived.Deep.RegionHeld3
namespace Go.Proofs.YtfhakomhkmbmeaaDoor
set_option linter.unusedVariables false
open Go.RowKit

/-- what Own makes: a number's value and whether it may be -/
def OwnR (w : World) (N X : Nat) (sg sz q : Bool) (e : Ending) (w' : World) : Prop :=
  ∃ p c, e = .returned (.tuple #[.agg #[.int .i64 N, .slice p (wcount N) c, .bool sg, .bool sz], .bool q]) ∧ VR w' (.agg #[.int .i64 N, .slice p (wcount N) c]) N X ∧ Below w.heap.size w w' ∧ Far w (.agg #[.int .i64 N, .slice p (wcount N) c])
theorem own_step {w W W' : World} {x y z : Value} (h : W.cell? ⟨w.heap.size, 0, none⟩ = some x ∧ W.cell? ⟨w.heap.size, 1, none⟩ = some y ∧ W.cell? ⟨w.heap.size, 2, none⟩ = some z ∧ Below w.heap.size w W) (hb : Below W.heap.size W W') :
    W'.cell? ⟨w.heap.size, 0, none⟩ = some x ∧ W'.cell? ⟨w.heap.size, 1, none⟩ = some y ∧ W'.cell? ⟨w.heap.size, 2, none⟩ = some z ∧ Below w.heap.size w W' :=
  ⟨(hb.cell (World.block_lt_of_cell? _ _ h.1)).trans h.1, (hb.cell (World.block_lt_of_cell? _ _ h.2.1)).trans h.2.1, (hb.cell (World.block_lt_of_cell? _ _ h.2.2.1)).trans h.2.2.1, h.2.2.2.trans (hb.mono h.2.2.2.size)⟩
theorem own_set1 {w W : World} {x y z : Value} (i : Nat) (u : Value) (h : W.cell? ⟨w.heap.size, 0, none⟩ = some x ∧ W.cell? ⟨w.heap.size, 1, none⟩ = some y ∧ W.cell? ⟨w.heap.size, 2, none⟩ = some z ∧ Below w.heap.size w W) :
    (W.setCell ⟨w.heap.size + 1, i, none⟩ u).cell? ⟨w.heap.size, 0, none⟩ = some x ∧ (W.setCell ⟨w.heap.size + 1, i, none⟩ u).cell? ⟨w.heap.size, 1, none⟩ = some y ∧ (W.setCell ⟨w.heap.size + 1, i, none⟩ u).cell? ⟨w.heap.size, 2, none⟩ = some z ∧ Below w.heap.size w (W.setCell ⟨w.heap.size + 1, i, none⟩ u) :=
  ⟨(World.cell?_setCell_far _ _ _ _ (Nat.succ_ne_self _)).trans h.1, (World.cell?_setCell_far _ _ _ _ (Nat.succ_ne_self _)).trans h.2.1, (World.cell?_setCell_far _ _ _ _ (Nat.succ_ne_self _)).trans h.2.2.1, h.2.2.2.setCell (show w.heap.size ≤ (⟨w.heap.size + 1, i, none⟩ : Addr).block from Nat.le_succ _) u⟩
set_option maxRecDepth 100000 in
set_option maxHeartbeats 8000000 in
theorem own2_any {w : World} {pa : Option Addr} {ca n N X : Nat} (sg sz q : Bool) (hq : decide ((n : Int) ≤ 128) = q) (hOwn : ∀ w', Below w.heap.size w w' → Calls Tryd.prog 13 #[.slice pa n ca] w' (RetV w' N X)) :
    Calls Tryd.prog 4 #[.agg #[.slice pa n ca, .bool sg, .bool sz]] w (OwnR w N X sg sz q) := by
  have HOwn := Lib.hid hOwn
  clear hOwn
  go_enter Tryd.func4, Tryd.ntmps4
  go_upto_region 1 with fail
  have k1 := (Blk.new (w := w) 24 [.slice pa n ca, .bool sg, .bool sz]).alloc (.cells #[.int .i64 0, .slice none 0 0, .bool false, .bool false] 29)
  have k2 := Blk.new (w := w.alloc (.cells #[.slice pa n ca, .bool sg, .bool sz] 24)) 29 [.int .i64 0, .slice none 0 0, .bool false, .bool false]
  have hb3 : Below w.heap.size w ((w.alloc (.cells #[.slice pa n ca, .bool sg, .bool sz] 24)).alloc (.cells #[.int .i64 0, .slice none 0 0, .bool false, .bool false] 29)) := (Below.new _ _).alloc (by simp) _
  simp only [World.size_alloc] at k2
  generalize (w.alloc (.cells #[.slice pa n ca, .bool sg, .bool sz] 24)).alloc (.cells #[.int .i64 0, .slice none 0 0, .bool false, .bool false] 29) = W at *
  have s0 : W.drew.cell? ⟨w.heap.size, 0, none⟩ = some (.slice pa n ca) ∧ W.drew.cell? ⟨w.heap.size, 1, none⟩ = some (.bool sg) ∧ W.drew.cell? ⟨w.heap.size, 2, none⟩ = some (.bool sz) ∧ Below w.heap.size w W.drew := ⟨k1.cell (i := 0) rfl, k1.cell (i := 1) rfl, k1.cell (i := 2) rfl, hb3.drew⟩
  have K0 := Lib.hid k2.drew
  clear k1 k2 hb3
  go_region_held3 (fun w' => w'.cell? ⟨w.heap.size, 0, none⟩ = some (.slice pa n ca) ∧ w'.cell? ⟨w.heap.size, 1, none⟩ = some (.bool sg) ∧ w'.cell? ⟨w.heap.size, 2, none⟩ = some (.bool sz) ∧ Below w.heap.size w w')
    (first | assumption | exact own_set1 3 _ (own_set1 2 _ (own_set1 1 _ (own_set1 0 _ s6))))
    (first
      | (go_at_call 13; refine (HOwn.out _ s0.2.2.2).mono ?_; rintro e w6 ⟨v6, rfl, hv6, hb6, hf6⟩; obtain ⟨p6, c6, rfl, _⟩ := hv6.ex; have s6 := own_step s0 hb6; have k6 := K0.out.next hb6; have r0 := k6.cell (i := 0) rfl; have r1 := k6.cell (i := 1) rfl; have r2 := k6.cell (i := 2) rfl; have r3 := k6.cell (i := 3) rfl; have f0 := k6.frz 0; have f1 := k6.frz 1; have f2 := k6.frz 2; have f3 := k6.frz 3; have H6 := Lib.hid (And.intro hv6 (And.intro k6 (And.intro (hf6.ne K0.out.lt) (And.intro (fun k p m c b o e hp => Nat.le_trans s0.2.2.2.size (hf6 k p m c b o e hp) : Far w (.agg #[.int .i64 N, .slice p6 (wcount N) c6])) s6.2.2.2)))); clear hv6 k6 hb6 hf6))
  have hg : w.heap.size ≤ w.heap.size + 1 := Nat.le_succ _
  have hv := (((H6.out.1.setC H6.out.2.2.1 0 (.int .i64 N)).setC H6.out.2.2.1 1 (.slice p6 (wcount N) c6)).setC H6.out.2.2.1 2 (.bool sg)).setC H6.out.2.2.1 3 (.bool sz)
  have hk := (((H6.out.2.1.set 0 (.int .i64 N)).set 1 (.slice p6 (wcount N) c6)).set 2 (.bool sg)).set 3 (.bool sz)
  have hb := (((H6.out.2.2.2.2.setCell (show w.heap.size ≤ (⟨w.heap.size + 1, 0, none⟩ : Addr).block from hg) (.int .i64 N)).setCell (show w.heap.size ≤ (⟨w.heap.size + 1, 1, none⟩ : Addr).block from hg) (.slice p6 (wcount N) c6)).setCell (show w.heap.size ≤ (⟨w.heap.size + 1, 2, none⟩ : Addr).block from hg) (.bool sg)).setCell (show w.heap.size ≤ (⟨w.heap.size + 1, 3, none⟩ : Addr).block from hg) (.bool sz)
  have e0 := hk.cell (i := 0) rfl
  have e1 := hk.cell (i := 1) rfl
  have e2 := hk.cell (i := 2) rfl
  have e3 := hk.cell (i := 3) rfl
  clear r0 r1 r2 r3 f0 f1 f2 f3 s0 s6
  go_wp2_with fail
  exact bodyPost_ret (v := .tuple #[.agg #[.int .i64 N, .slice p6 (wcount N) c6, .bool sg, .bool sz], .bool q]) (by simp [results, Tryd.results4, go_sem, e0, e1, e2, e3]) rfl ⟨_, _, rfl, hv, hb, H6.out.2.2.2.1⟩
end Go.Proofs.YtfhakomhkmbmeaaDoor
