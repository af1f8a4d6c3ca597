import Derived.Test.YtmimafbedbohiaaA4
import Derived.Laws.Externs
import Derived.Shelf.Bits.Mul64
namespace Go.Proofs.Ytmimafbedbohiaa
set_option linter.unusedVariables false
open Go.RowKit

set_option maxRecDepth 100000 in
theorem add64_run (x y c : Nat) (hc : c ≤ 1) (w : World) :
    (callFunc 81 #[.int .u64 x, .int .u64 y, .int .u64 c]).run Try.prog w =
      .ok (.value (.tuple #[.int .u64 (((x + y + c) % 18446744073709551616 : Nat) : Int), .int .u64 (((x + y + c) / 18446744073709551616 : Nat) : Int)])) w := by
  rw [run_callFunc_extern Try.func81 (by kernel_rfl) (by kernel_rfl) (by kernel_rfl) (e := add64Entry) (by kernel_rfl), run_add64 x y c (by omega) (by omega) (by omega) (by omega)]
  simp only [Result.andThen]
  congr 5 <;> omega

set_option maxHeartbeats 1000000 in
set_option maxRecDepth 100000 in
theorem mul64_any (x y : Nat) (hx : x < 18446744073709551616) (hy : y < 18446744073709551616) (w : World) :
    Calls Try.prog 82 #[.int .u64 x, .int .u64 y] w fun e w' => e = .returned (.tuple #[.int .u64 ((x * y / 18446744073709551616 : Nat) : Int), .int .u64 ((x * y % 18446744073709551616 : Nat) : Int)]) ∧ w' = w := by
  obtain ⟨bd, bt, bw, hhi⟩ := Lib.mul64_hi x y hx hy
  have ba := Lib.half_mul_le (a := x / 4294967296) (b := y / 4294967296) (by omega) (by omega)
  have bb := Lib.half_mul_le (a := x / 4294967296) (b := y % 4294967296) (by omega) (by omega)
  have bc := Lib.half_mul_le (a := x % 4294967296) (b := y / 4294967296) (by omega) (by omega)
  have ba' : x / 4294967296 * (y / 4294967296) < 18446744073709551616 := by omega
  have bb' : x / 4294967296 * (y % 4294967296) < 18446744073709551616 := by omega
  have bc' : x % 4294967296 * (y / 4294967296) < 18446744073709551616 := by omega
  have bh1 : x / 4294967296 * (y / 4294967296) + (x / 4294967296 * (y % 4294967296) + x % 4294967296 * (y % 4294967296) / 4294967296) / 4294967296 < 18446744073709551616 := by omega
  have bh : x / 4294967296 * (y / 4294967296) + (x / 4294967296 * (y % 4294967296) + x % 4294967296 * (y % 4294967296) / 4294967296) / 4294967296 + ((x / 4294967296 * (y % 4294967296) + x % 4294967296 * (y % 4294967296) / 4294967296) % 4294967296 + x % 4294967296 * (y / 4294967296)) / 4294967296 < 18446744073709551616 := by omega
  go_enter Try.func82, Try.ntmps82
  go_wp2
  simp only [Mul64.maskN x hx, Mul64.maskN y hy, Mul64.divN, Mul64.mulN, Mul64.addN, Mul64.wrapN _ bd, Mul64.wrapN _ bb', Mul64.wrapN _ bt, Mul64.maskN _ bt, Mul64.wrapN _ bc', Mul64.wrapN _ bw, Mul64.wrapN _ ba', Mul64.wrapN _ bh1, Mul64.wrapN _ bh, Mul64.wrapM (x * y)]
  rw [hhi]
  go_ret2
  exact ⟨rfl, rfl⟩

/-- the value of a vector whose words lie in block b -/
def vecO (n b : Nat) : Value := .agg #[.int .i64 n, .slice (some ⟨b, 0, none⟩) (wcount n) (wcount n)]
/-- a vector is being made in block b, beside the blocks bs of the function's own -/
structure Bld (w : World) (bs : List (Nat × List Value)) (n x b : Nat) (wr : World) : Prop where
  bx : ∀ p ∈ bs, Blk wr p.1 26 p.2 ∧ p.1 ≠ b
  vo : VO wr (vecO n b) n x b
  bel : Below w.heap.size w wr
  ge : w.heap.size ≤ b
theorem Bld.box {w bs n x b wr} (h : Bld w bs n x b wr) {p : Nat × List Value} (hp : p ∈ bs) : Blk wr p.1 26 p.2 := (h.bx p hp).1
theorem Bld.grown {w bs n x y b wr w'} (h : Bld w bs n x b wr) (hg : wr.grownBy w' (some b)) (hv : VO w' (vecO n b) n y b) : Bld w bs n y b w' := by
  refine ⟨fun p hp => ?_, hv, below_grown h.bel hg h.bel.size h.ge, h.ge⟩
  obtain ⟨h1, h2⟩ := h.bx p hp
  refine ⟨?_, h2⟩
  unfold Blk at *
  rw [hg.block p.1 (some_lt h1) (by simpa using h2)]; exact h1
theorem Bld.below {w bs n x b wr w'} (h : Bld w bs n x b wr) (hb : Below wr.heap.size wr w') : Bld w bs n x b w' :=
  ⟨fun p hp => ⟨(h.bx p hp).1.below hb (h.bx p hp).1.lt, (h.bx p hp).2⟩, h.vo.below hb, h.bel.trans (hb.mono h.bel.size), h.ge⟩
theorem Bld.drew {w bs n x b wr} (h : Bld w bs n x b wr) : Bld w bs n x b wr.drew := h.below (Below.refl _ _).drew
theorem Bld.alloc {w bs n x b wr} (h : Bld w bs n x b wr) (o : Obj) : Bld w bs n x b (wr.alloc o) := h.below (Below.new _ _)
theorem Bld.word {w bs n x b wr} (h : Bld w bs n x b wr) {i y : Nat} (hi : i < wcount n) (hy : y < 2 ^ 64) : Bld w bs n (setW x i y) b (wr.setCell ⟨b, i, none⟩ (.int .u64 y)) :=
  h.grown (grown_cell _ _ _ _) (h.vo.set hi hy)
theorem Bld.congr {w bs n x y b wr} (h : Bld w bs n x b wr) (hy : y < 2 ^ (64 * wcount n)) (he : ∀ i, i < wcount n → Ytmimafbedbohiaa.word x i = Ytmimafbedbohiaa.word y i) : Bld w bs n y b wr := ⟨h.bx, h.vo.congr hy he, h.bel, h.ge⟩
/-- .. at the start: behind blank -/
theorem Bld.start {w wr w' : World} {bs : List (Nat × List Value)} {n b : Nat} (hbs : ∀ p ∈ bs, Blk wr p.1 26 p.2) (hb : Below w.heap.size w wr) (hb' : Below wr.heap.size wr w') (hv : VO w' (vecO n b) n 0 b) (hge : wr.heap.size ≤ b) : Bld w bs n 0 b w' :=
  ⟨fun p hp => ⟨(hbs p hp).below hb' (hbs p hp).lt, by have := (hbs p hp).lt; omega⟩, hv, hb.trans (hb'.mono hb.size), Nat.le_trans hb.size hge⟩
/-- the result is laid -/
theorem Bld.ret {w bs n x b w3} (h : Bld w bs n x b w3) {R : Nat} {u v : Value} (hR : (R, [u, v]) ∈ bs) (hge : w.heap.size ≤ R) :
    ((w3.setCell ⟨R, 0, none⟩ (.int .i64 n)).setCell ⟨R, 1, none⟩ (.slice (some ⟨b, 0, none⟩) (wcount n) (wcount n))).cell? ⟨R, 0, none⟩ = some (.int .i64 n) ∧
    ((w3.setCell ⟨R, 0, none⟩ (.int .i64 n)).setCell ⟨R, 1, none⟩ (.slice (some ⟨b, 0, none⟩) (wcount n) (wcount n))).cell? ⟨R, 1, none⟩ = some (.slice (some ⟨b, 0, none⟩) (wcount n) (wcount n)) ∧
    VO ((w3.setCell ⟨R, 0, none⟩ (.int .i64 n)).setCell ⟨R, 1, none⟩ (.slice (some ⟨b, 0, none⟩) (wcount n) (wcount n))) (vecO n b) n x b ∧
    Below w.heap.size w ((w3.setCell ⟨R, 0, none⟩ (.int .i64 n)).setCell ⟨R, 1, none⟩ (.slice (some ⟨b, 0, none⟩) (wcount n) (wcount n))) := by
  obtain ⟨h1, h2⟩ := h.bx _ hR
  have hk := (h1.set 0 (.int .i64 n)).set 1 (.slice (some ⟨b, 0, none⟩) (wcount n) (wcount n))
  exact ⟨hk.cell (i := 0) rfl, hk.cell (i := 1) rfl, (h.vo.other (Ne.symm h2) _).other (Ne.symm h2) _, (h.bel.setCell hge _).setCell hge _⟩
/-- the variable out is laid -/
theorem Bld.push {w bs n x b wr} (h : Bld w bs n x b wr) (l : List Value) : Bld w ((wr.heap.size, l) :: bs) n x b (wr.alloc (.cells l.toArray 26)) := by
  have h' := h.alloc (.cells l.toArray 26)
  refine ⟨fun p hp => ?_, h'.vo, h'.bel, h'.ge⟩
  rcases List.mem_cons.1 hp with rfl | hp
  · exact ⟨Blk.new 26 l, by have := h.vo.blk.lt; show wr.heap.size ≠ b; omega⟩
  · exact h'.bx p hp
end Go.Proofs.Ytmimafbedbohiaa
