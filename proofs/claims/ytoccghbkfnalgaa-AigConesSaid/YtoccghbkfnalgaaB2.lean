import Derived.Test.YtoccghbkfnalgaaB1
import Derived.Test.YtoccghbkfnalgaaP4
namespace Go.Proofs.Ytoccghbkfnalgaa
set_option linter.unusedVariables false
open Go.RowKit

/-- a block known whole -/
def Blk (w : World) (b : Nat) (t : TypeId) (l : List Value) : Prop := w.heap[b]? = some (.cells l.toArray t (0, 0))
theorem Blk.cell {w : World} {b t l} (h : Blk w b t l) {i : Nat} {u : Value} (hu : l[i]? = some u) : w.cell? ⟨b, i, none⟩ = some u := by
  unfold Blk at h; simp [World.cell?, h, hu]
theorem Blk.frz {w : World} {b t l} (h : Blk w b t l) (i : Nat) : w.frozen? ⟨b, i, none⟩ = false := by unfold Blk at h; simp [World.frozen?, h]
theorem Blk.lt {w : World} {b t l} (h : Blk w b t l) : b < w.heap.size := some_lt h
theorem Blk.set {w : World} {b t l} (h : Blk w b t l) (i : Nat) (u : Value) : Blk (w.setCell ⟨b, i, none⟩ u) b t (l.set i u) := by
  unfold Blk at *; simp [World.setCell, Array.getElem?_modify, h]
theorem Blk.other {w : World} {b t l} (h : Blk w b t l) {a : Addr} (u : Value) (hn : b ≠ a.block) : Blk (w.setCell a u) b t l := by
  unfold Blk at *; rw [Below.heap_setCell _ _ _ _ hn]; exact h
theorem Blk.below {w w' : World} {b t l} (h : Blk w b t l) {B : Nat} (hb : Below B w w') (hB : b < B) : Blk w' b t l := by
  unfold Blk at *; rw [hb.block b hB]; exact h
theorem Blk.alloc {w : World} {b t l} (h : Blk w b t l) (o : Obj) : Blk (w.alloc o) b t l := by
  have := h.lt
  unfold Blk at *; rw [heap_alloc_old _ _ this]; exact h
theorem Blk.new {w : World} (t : TypeId) (l : List Value) : Blk (w.alloc (.cells l.toArray t)) w.heap.size t l := heap_alloc_new w _
theorem Blk.own {w : World} {b t l} (h : Blk w b t l) {n size : Nat} (hl : l.length = n * size) (hm : n ≤ maxLen) (base : Nat) (hb : base ≤ b) : w.ownsRow base t size (.slice (some ⟨b, 0, none⟩) n n) n l :=
  ⟨hl, .inr ⟨b, n, _, rfl, hb, h, Nat.le_refl _, hm, by simpa using hl, by rw [← hl]; simp⟩⟩

def bools (l : List Bool) : List Value := l.map .bool

theorem Try.info4 : (Try.prog.info? 4).map (fun i => (i.zero, i.size, i.bytes)) = some (some (.bool false), 1, 1) := by kernel_rfl

theorem mk_bools (n : Nat) (hn : n ≤ 1000000) (w : World) : (Instr.makeSlice 40 (.int .i64 n) (.int .i64 n)).run Try.prog w = .ok (.slice (some ⟨w.heap.size, 0, none⟩) n n) (w.alloc (.cells (bools (List.replicate n false)).toArray 4)) := by
  obtain ⟨i0, hi, hz0, hz1, hz2⟩ := info_parts Try.info4
  have h := run_make (P := Try.prog) w 40 4 i0 _ Try.underlying40 hi hz0 .i64 .i64 n n (by omega) (by omega) (by rw [hz2]; omega) (by omega)
  rw [h, hz1]
  simp only [Int.toNat_natCast, Nat.mul_one, Value.cells]
  congr 3
  apply Array.ext'
  rw [toList_madeCells_one]
  simp [bools]

set_option maxHeartbeats 1000000 in
theorem is_any (w : World) (v : Value) (vals : List Bool) (l : Int) (hv : RO w v 1 vals.length (bools vals)) (hb : l < 2^62) :
    Calls Try.prog 19 #[v, .int .i64 l] w fun e w' => e = .returned (.bool (isV vals l)) ∧ w = w' := by
  by_cases h0 : 0 ≤ l
  · by_cases h1 : l / 2 < vals.length
    · have hu : (bools vals)[(l / 2).toNat]? = some (.bool (vals.getD (l / 2).toNat false)) := by
        rw [bools, List.getElem?_map, List.getD, List.getElem?_eq_getElem (by omega)]; rfl
      obtain ⟨b, o, c, rfl, hc⟩ := hv.get hu
      have hV : isV vals l = (vals.getD (l / 2).toNat false == decide (l % 2 = 0)) := by simp [isV, h0, h1]
      rw [hV]
      generalize vals.getD (l / 2).toNat false = V at *
      have h2 : 0 ≤ l / 2 := by omega
      have hm0 : 0 ≤ l % 2 := by omega
      have hm1 : l % 2 < 2 := by omega
      clear hv hu hV
      go_enter Try.func19, Try.ntmps19
      go_wp2
      go_ret
      exact ⟨rfl, rfl⟩
    · obtain ⟨p, c, rfl⟩ := hv.form
      have hV : isV vals l = false := by simp [isV, h1]
      rw [hV]
      have h3 : (vals.length : Int) ≤ l / 2 := by omega
      clear hv hV h1
      go_enter Try.func19, Try.ntmps19
      go_wp2
      go_ret
      exact ⟨rfl, rfl⟩
  · obtain ⟨p, c, rfl⟩ := hv.form
    have hV : isV vals l = false := by simp [isV, h0]
    rw [hV]
    have h3 : l < 0 := by omega
    clear hv hV h0
    go_enter Try.func19, Try.ntmps19
    go_wp2
    go_ret
    exact ⟨rfl, rfl⟩
end Go.Proofs.Ytoccghbkfnalgaa
