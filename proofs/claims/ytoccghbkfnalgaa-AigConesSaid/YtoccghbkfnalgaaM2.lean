import Derived.Test.YtoccghbkfnalgaaM1
import Derived.Test.YtoccghbkfnalgaaP1
import Derived.Deep.AppendLies
namespace Go.Proofs.Ytoccghbkfnalgaa
set_option linter.unusedVariables false
open Go.RowKit

/-- The world's blocks outside F are as they were. -/
structure Upd (F F' : Nat → Prop) (w w' : World) : Prop where
  os : w'.os = w.os
  tape : w'.tape = w.tape
  output : w'.output = w.output
  size : w.heap.size ≤ w'.heap.size
  block : ∀ k, k < w.heap.size → ¬ F k → w'.heap[k]? = w.heap[k]?
  sub : ∀ k, F' k → F k ∨ w.heap.size ≤ k

theorem Upd.refl (F : Nat → Prop) (w : World) : Upd F F w w := ⟨rfl, rfl, rfl, Nat.le_refl _, fun _ _ _ => rfl, fun _ h => .inl h⟩
theorem Upd.trans {F F' F'' : Nat → Prop} {w w' w'' : World} (h : Upd F F' w w') (k : Upd F' F'' w' w'') : Upd F F'' w w'' :=
  ⟨k.os.trans h.os, k.tape.trans h.tape, k.output.trans h.output, Nat.le_trans h.size k.size,
   fun i hi hn => (k.block i (Nat.lt_of_lt_of_le hi h.size) (fun h' => by rcases h.sub i h' with h' | h'; exact hn h'; omega)).trans (h.block i hi hn),
   fun i hi => by rcases k.sub i hi with h' | h'; exact h.sub i h'; exact .inr (Nat.le_trans h.size h')⟩
theorem Upd.below {F : Nat → Prop} {w w' : World} (h : Below w.heap.size w w') : Upd F F w w' :=
  ⟨h.os, h.tape, h.output, h.size, fun k hk _ => h.block k hk, fun _ h => .inl h⟩
theorem Upd.cell {F F' : Nat → Prop} {w w' : World} (h : Upd F F' w w') {a : Addr} {v : Value} (hc : w.cell? a = some v) (hn : ¬ F a.block) : w'.cell? a = some v := by
  rw [World.cell?_of_block (h.block _ (World.block_lt_of_cell? _ _ hc) hn)]; exact hc

def pairCells (l : List (Int × Int)) : List Value := l.flatMap fun p => [.int .i64 p.1, .int .i64 p.2]
def ints (l : List Int) : List Value := l.map fun n => .int .i64 n

def entryOf (e : MapEntry) (x : (Int × Int) × Int) : Prop := e.key = .agg #[.int .i64 x.1.1, .int .i64 x.1.2] ∧ e.val = .int .i64 x.2

def Ents : List MapEntry → List ((Int × Int) × Int) → Prop
  | [], [] => True
  | e :: es, x :: xs => entryOf e x ∧ Ents es xs
  | _, _ => False
theorem Ents.snoc {e : MapEntry} {x} (h : entryOf e x) : ∀ {es xs}, Ents es xs → Ents (es ++ [e]) (xs ++ [x])
  | [], [], _ => ⟨h, trivial⟩
  | _ :: _, _ :: _, ⟨a, b⟩ => ⟨a, Ents.snoc h b⟩
  | [], _ :: _, hh => hh.elim
  | _ :: _, [], hh => hh.elim

def foot (bg : Nat) (vn vi : Value) (bm : Nat) : Nat → Prop := fun b => b = bg ∨ b = bm ∨ vn.ownBlock = some b ∨ vi.ownBlock = some b

structure GAt (w : World) (bg : Nat) (vn vi : Value) (bm : Nat) (g : G) : Prop where
  gm : bg ≠ bm
  ng : vn.ownBlock ≠ some bg
  nm : vn.ownBlock ≠ some bm
  ig : vi.ownBlock ≠ some bg
  im : vi.ownBlock ≠ some bm
  ne : ∀ k, vi.ownBlock = some k → vn.ownBlock ≠ some k
  hg : w.heap[bg]? = some (.cells #[vn, vi, .map (some bm)] 56 (0, 0))
  hn : w.ownsRow 0 58 2 vn g.nodes.length (pairCells g.nodes)
  hi : w.ownsRow 0 3 1 vi g.inputs.length (ints g.inputs)
  hm : ∃ (es : List MapEntry) (ck : Nat), w.heap[bm]? = some (.map es.toArray ck) ∧ Ents es g.known

theorem findAsk (w : World) (p : Int × Int) : ∀ (es : List MapEntry) (xs : List ((Int × Int) × Int)) (i : Nat), Ents es xs →
   ∃ r, (Instr.findAsking 58 (.agg #[.int .i64 p.1, .int .i64 p.2]) es i).run Try.prog w = .ok r w ∧ r.map (·.2) = (look xs p).map (.int .i64 ·)
  | [], [], i, _ => ⟨none, by simp [Instr.findAsking], rfl⟩
  | [], _ :: _, _, h => h.elim
  | _ :: _, [], _, h => h.elim
  | e :: es, x :: xs, i, ⟨h, hr⟩ => by
    obtain ⟨r, h1, h2⟩ := findAsk w p es xs (i + 1) hr
    obtain ⟨hk, hv⟩ := h
    by_cases hp : p = x.1
    · refine ⟨some (i, e.val), ?_, by simp [look, hp, hv]⟩
      simp [Instr.findAsking, hk, eq58, hp]
    · refine ⟨r, ?_, by simp [look, hp, h2]⟩
      have : (p.1 == x.1.1 && p.2 == x.1.2) = false := by
        rw [Bool.eq_false_iff]; intro h; simp at h; exact hp (Prod.ext h.1 h.2)
      simp [Instr.findAsking, hk, eq58, this, h1]

theorem findKey58 (w : World) (p : Int × Int) (es : List MapEntry) (xs : List ((Int × Int) × Int)) (h : Ents es xs) :
   ∃ r, (Instr.findKey 58 (.agg #[.int .i64 p.1, .int .i64 p.2]) es).run Try.prog w = .ok r w ∧ r.map (·.2) = (look xs p).map (.int .i64 ·) := by
  match es, xs, h with
  | [], [], _ => exact ⟨none, by simp [Instr.findKey, Instr.findNow], rfl⟩
  | [], _ :: _, h => exact h.elim
  | _ :: _, [], h => exact h.elim
  | e :: es, x :: xs, h =>
    obtain ⟨r, h1, h2⟩ := findAsk w p (e :: es) (x :: xs) 0 h
    exact ⟨r, by simp [Instr.findKey, Instr.findNow, Instr.sameNow, h.1.1, h1], h2⟩

theorem lookup54 {w : World} {bg vn vi bm g} (h : GAt w bg vn vi bm g) (a b : Int) :
    (Instr.lookup 54 (.map (some bm)) (.agg #[.int .i64 a, .int .i64 b]) false).run Try.prog w = .ok (.int .i64 ((look g.known (a, b)).getD 0)) w := by
  obtain ⟨es, ck, hb, hes⟩ := h.hm
  obtain ⟨r, h1, h2⟩ := findKey58 w (a, b) es _ hes
  simp [Instr.lookup, getObj, Sem.run, hb, ck58, h1]
  cases hl : look g.known (a, b) <;> cases r <;> simp only [hl, Option.map_some, Option.map_none, reduceCtorEq, Option.some.injEq] at h2
  · simp
  · simp [h2]
end Go.Proofs.Ytoccghbkfnalgaa
