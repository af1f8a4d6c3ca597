import Derived.Test.YtoccghbkfnalgaaM3
namespace Go.Proofs.Ytoccghbkfnalgaa
set_option linter.unusedVariables false
open Go.RowKit

theorem ck34' (n : Nat) (em : Bool) (a b : Int) (w : World) : (Instr.checkKey em (n+1+1) 34 (.agg #[.int .i64 a, .int .i64 b])).run Try.prog w = .ok () w := by
  simp [Instr.checkKey, part, isAgg, List.range', Std.Legacy.Range.forIn_eq_forIn_range', Std.Legacy.Range.size]
theorem ck34 (em : Bool) (a b : Int) (w : World) : (Instr.checkKey em 10000 34 (.agg #[.int .i64 a, .int .i64 b])).run Try.prog w = .ok () w := ck34' 9998 em a b w

theorem eq34' (n : Nat) (a b c d : Int) (w : World) : (Op.equalIn (n+1+1) 34 (.agg #[.int .i64 a, .int .i64 b]) (.agg #[.int .i64 c, .int .i64 d])).run Try.prog w = .ok (a == c && b == d) w := by
  simp [Op.equalIn, part, isAgg, List.range', Std.Legacy.Range.forIn_eq_forIn_range', Std.Legacy.Range.size]
  cases h : a == c <;> simp
  · simp at h; simp [h]
  · simp at h; simp [h]
    cases h : b == d <;> simp
    · simp at h; simp [h]
    · simp at h; simp [h]
theorem eq34 (a b c d : Int) (w : World) : (Op.equal 34 (.agg #[.int .i64 a, .int .i64 b]) (.agg #[.int .i64 c, .int .i64 d])).run Try.prog w = .ok (a == c && b == d) w := eq34' 9998 a b c d w

namespace A34
theorem findAsk (w : World) (p : Int × Int) : ∀ (es : List MapEntry) (xs : List ((Int × Int) × Int)) (i : Nat), Ents es xs →
   ∃ r, (Instr.findAsking 34 (.agg #[.int .i64 p.1, .int .i64 p.2]) es i).run Try.prog w = .ok r w ∧ r.map (·.2) = (look xs p).map (.int .i64 ·)
  | [], [], i, _ => ⟨none, by simp [Instr.findAsking], rfl⟩
  | [], _ :: _, _, h => h.elim
  | _ :: _, [], _, h => h.elim
  | e :: es, x :: xs, i, ⟨h, hr⟩ => by
    obtain ⟨r, h1, h2⟩ := findAsk w p es xs (i + 1) hr
    obtain ⟨hk, hv⟩ := h
    by_cases hp : p = x.1
    · refine ⟨some (i, e.val), ?_, by simp [look, hp, hv]⟩
      simp [Instr.findAsking, hk, eq34, hp]
    · refine ⟨r, ?_, by simp [look, hp, h2]⟩
      have : (p.1 == x.1.1 && p.2 == x.1.2) = false := by
        rw [Bool.eq_false_iff]; intro h; simp at h; exact hp (Prod.ext h.1 h.2)
      simp [Instr.findAsking, hk, eq34, this, h1]

theorem findKey34 (w : World) (p : Int × Int) (es : List MapEntry) (xs : List ((Int × Int) × Int)) (h : Ents es xs) :
   ∃ r, (Instr.findKey 34 (.agg #[.int .i64 p.1, .int .i64 p.2]) es).run Try.prog w = .ok r w ∧ r.map (·.2) = (look xs p).map (.int .i64 ·) := by
  match es, xs, h with
  | [], [], _ => exact ⟨none, by simp [Instr.findKey, Instr.findNow], rfl⟩
  | [], _ :: _, h => exact h.elim
  | _ :: _, [], h => exact h.elim
  | e :: es, x :: xs, h =>
    obtain ⟨r, h1, h2⟩ := findAsk w p (e :: es) (x :: xs) 0 h
    exact ⟨r, by simp [Instr.findKey, Instr.findNow, Instr.sameNow, h.1.1, h1], h2⟩

end A34

theorem lookup29 {w : World} {bm : Nat} {es : List MapEntry} {ck : Nat} {xs} (hb : w.heap[bm]? = some (.map es.toArray ck)) (hes : Ents es xs) (a b : Int) :
    (Instr.lookup 29 (.map (some bm)) (.agg #[.int .i64 a, .int .i64 b]) false).run Try.prog w = .ok (.int .i64 ((look xs (a, b)).getD 0)) w := by
  obtain ⟨r, h1, h2⟩ := A34.findKey34 w (a, b) es _ hes
  simp [Instr.lookup, getObj, Sem.run, hb, ck34, h1]
  cases hl : look xs (a, b) <;> cases r <;> simp only [hl, Option.map_some, Option.map_none, reduceCtorEq, Option.some.injEq] at h2
  · simp
  · simp [h2]

theorem update29 {w : World} {bm : Nat} {es : List MapEntry} {ck : Nat} {xs} (hb : w.heap[bm]? = some (.map es.toArray ck)) (hes : Ents es xs) (a b n : Int) (hl : look xs (a, b) = none) :
    ∃ e, entryOf e ((a, b), n) ∧ (Instr.mapUpdate 29 (.map (some bm)) (.agg #[.int .i64 a, .int .i64 b]) (.int .i64 n)).run Try.prog w = .ok () { w with heap := w.heap.setIfInBounds bm (.map (es ++ [e]).toArray (ck + 1)) } := by
  obtain ⟨r, h1, h2⟩ := A34.findKey34 w (a, b) es _ hes
  rw [hl] at h2
  cases r with
  | some r => simp at h2
  | none =>
    refine ⟨{ key := .agg #[.int .i64 a, .int .i64 b], val := .int .i64 n, born := ck }, ⟨rfl, rfl⟩, ?_⟩
    simp [Instr.mapUpdate, getObj, setObj, Sem.run, hb, ck34, h1]
end Go.Proofs.Ytoccghbkfnalgaa
