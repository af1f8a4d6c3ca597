import Derived.Test.YtoccghbkfnalgaaB3
namespace Go.Proofs.Ytoccghbkfnalgaa
set_option linter.unusedVariables false
open Go.RowKit

/-- a slice type of the program: its element's type, cells, bytes and zero -/
structure SlTy (P : Program) (t e size bytes : Nat) (z : Value) : Prop where
  u : P.underlying t = some (.slice e)
  i : ∃ i, P.info? e = some i ∧ i.zero = some z ∧ i.size = size ∧ i.bytes = bytes
  zs : z.cells.size = size
  sz : 0 < size

theorem SlTy.of {P : Program} {t e size bytes : Nat} {z : Value} (u : P.underlying t = some (.slice e)) (h : (P.info? e).map (fun i => (i.zero, i.size, i.bytes)) = some (some z, size, bytes)) (zs : z.cells.size = size) (sz : 0 < size) : SlTy P t e size bytes z :=
  ⟨u, by obtain ⟨i0, hi, hz0, hz1, hz2⟩ := info_parts h; exact ⟨i0, hi, hz0, hz1, hz2⟩, zs, sz⟩

/-- the world behind an append of news onto v -/
structure App (base e size : Nat) (w : World) (v : Value) (n m : Nat) (all : List Value) (g cap : Nat) (w' : World) : Prop where
  own : w'.ownsRow base e size (.slice (some ⟨g, 0, none⟩) (n + m) cap) (n + m) all
  grown : w.grownBy w' v.ownBlock
  at_ : v.ownBlock = some g ∨ g = w.heap.size
  lt : g < w'.heap.size

theorem App.old {base e size w v n m all g cap w'} (h : App base e size w v n m all g cap w') {k : Nat} (hk : k < w.heap.size) (hn : v.ownBlock ≠ some k) : w'.heap[k]? = w.heap[k]? :=
  h.grown.block k hk (Ne.symm hn)
theorem App.below {base e size w v n m all g cap w' B w0} (h : App base e size w v n m all g cap w') (hb : Below B w0 w) (hB : B ≤ w.heap.size) (hv : ∀ k, v.ownBlock = some k → B ≤ k) : Below B w0 w' :=
  hb.grown h.grown hB hv

theorem seg_row {w : World} {k : Nat} {t : TypeId} {cs : Array Value} (h : w.heap[k]? = some (.cells cs t (0, 0))) {l : List Value} (hl : cs.toList = l) : ∀ j u, l[j]? = some u → w.cell? ((⟨k, 0, none⟩ : Addr).add j) = some u := by
  subst hl; exact seg_one h

theorem new_at (w : World) (o : Obj) (k : Nat) (h : w.heap.size = k) : (w.alloc o).heap[k]? = some o := h ▸ heap_alloc_new w o

/-- append of what a block made just now holds -/
theorem wpList_app {P : Program} {w : World} {ops : Array Oper} {rest : List Oper} {o : Oper} {a : Act} {Q : Exit → Act → World → Prop} (hgd : o.guard = none) (s x : Operand) (t : TypeId)
    (ho : o.op = .call { callee := .builtin .append, args := #[s, x], argTypes := #[t, t] })
    {e size bytes : Nat} {z : Value} (T : SlTy P t e size bytes z) (base : Nat)
    (v : Value) (n : Nat) (xs : List Value) (hs : a.eval s = v) (hown : w.ownsRow base e size v n xs)
    (b m c : Nat) (news : List Value) (hx : a.eval x = .slice (some ⟨b, 0, none⟩) m c) (cs : Array Value) (hb : w.heap[b]? = some (.cells cs e (0, 0))) (hcs : cs.toList = news) (hl : news.length = m * size) (h1 : ∀ u ∈ news, u.oneCell' = true)
    (hm : 0 < m) (hbytes : (n + m) * bytes ≤ 140737488355328) (h63 : n + m ≤ 140737488355328) (hbase : base ≤ w.heap.size)
    (h : ∀ g cap w', App base e size w v n m (xs ++ news) g cap w' → wpList P ops Q rest (a.put o.dst (.slice (some ⟨g, 0, none⟩) (n + m) cap)) w') : wpList P ops Q (o :: rest) a w := by
  obtain ⟨i, hi, hz, hsz, hby⟩ := T.i
  exact wpList_append_lies w hgd s x t ho base e i z size bytes T.u hi hz hsz hby T.zs T.sz v n xs hs hown ⟨b, 0, none⟩ m c news hx hl (seg_row hb hcs) h1 hm (by simp only [maxLen]; omega) hbytes hbase _ rfl
    fun g cap w' h2 h3 h4 h5 => h g cap w' ⟨h2, h3, h4, h5⟩
end Go.Proofs.Ytoccghbkfnalgaa
