
import Derived.WalkKit
import Derived.Below
import Derived.Lib.Hide
import Derived.Deep.QuietTactic
import Derived.BigQuiet
import Derived.Deep.AppendLies
import Derived.Deep.DeepMust
import Derived.ProofKit
import Derived.Deep.Slices
import Derived.OwnWalk
import Derived.SizedLaws
import Derived.OpenShut
import Derived.Lib.SmallJoins
import Derived.Laws.CopyOwn
import Derived.Lib.SliceRun
namespace Go.Proofs.YtkoggfahjlnecaaGreatDoor
set_option linter.unusedVariables false
open Go.RowKit Go.Deep Go.ChangeShapes Go.WideShapes
structure Upd (F F' : Nat → Prop) (w w' : World) : Prop where
  os : w'.os = w.os
  tape : w'.tape = w.tape
  output : w'.output = w.output
  size : w.heap.size ≤ w'.heap.size
  block : ∀ k, k < w.heap.size → ¬ F k → w'.heap[k]? = w.heap[k]?
  sub : ∀ k, F' k → F k ∨ w.heap.size ≤ k
theorem Upd.refl (F : Nat → Prop) (w : World) : Upd F F w w := ⟨rfl, rfl, rfl, Nat.le_refl _, fun _ _ _ => rfl, fun _ h => .inl h⟩
theorem Upd.trans {F F' F'' : Nat → Prop} {w w' w'' : World} (h : Upd F F' w w') (k : Upd F' F'' w' w'') : Upd F F'' w w'' :=
  ⟨k.os.trans h.os, k.tape.trans h.tape, k.output.trans h.output, Nat.le_trans h.size k.size,
   fun i hi hn => (k.block i (Nat.lt_of_lt_of_le hi h.size) (fun h' => by rcases h.sub i h' with h' | h'; exact hn h'; omega)).trans (h.block i hi hn),
   fun i hi => by rcases k.sub i hi with h' | h'; exact h.sub i h'; exact .inr (Nat.le_trans h.size h')⟩
theorem Upd.below {F : Nat → Prop} {w w' : World} (h : Below w.heap.size w w') : Upd F F w w' :=
  ⟨h.os, h.tape, h.output, h.size, fun k hk _ => h.block k hk, fun _ h => .inl h⟩
theorem Upd.cell {F F' : Nat → Prop} {w w' : World} (h : Upd F F' w w') {a : Addr} {v : Value} (hc : w.cell? a = some v) (hn : ¬ F a.block) : w'.cell? a = some v := by
  rw [World.cell?_of_block (h.block _ (World.block_lt_of_cell? _ _ hc) hn)]; exact hc
def ints (l : List Int) : List Value := l.map fun n => .int .i64 n
theorem ownsRow_form {w : World} {base e size v n xs} (h : w.ownsRow base e size v n xs) : ∃ p c, v = .slice p n c := by
  rcases h.2 with ⟨rfl, rfl⟩ | ⟨g, cap, cur, rfl, _⟩
  · exact ⟨_, _, rfl⟩
  · exact ⟨_, _, rfl⟩
theorem ownsRow_keep {w w' : World} {base e size v n xs} (h : w.ownsRow base e size v n xs) (hb : ∀ k, v.ownBlock = some k → w'.heap[k]? = w.heap[k]?) : w'.ownsRow base e size v n xs := by
  refine ⟨h.1, ?_⟩
  rcases h.2 with hn | ⟨g, cap, cur, rfl, hb', hgg, rest⟩
  · exact .inl hn
  · refine .inr ⟨g, cap, cur, rfl, hb', ?_, rest⟩
    rw [hb g rfl]; exact hgg
theorem some_lt {w : World} {k : Nat} {o : Obj} (h : w.heap[k]? = some o) : k < w.heap.size := by
  rcases Nat.lt_or_ge k w.heap.size with h' | h'
  · exact h'
  · rw [Array.getElem?_eq_none h'] at h; cases h
theorem ints_snoc (l : List Int) (a : Int) : ints (l ++ [a]) = ints l ++ [.int .i64 a] := by simp [ints]
theorem below_drewN {B : Nat} {w : World} (n : Nat) : Below B w (w.drewN n) := ⟨rfl, rfl, rfl, Nat.le_refl _, fun _ _ => rfl⟩
theorem seg_one {w : World} {k : Nat} {t : TypeId} {f} {cs : Array Value} (h : w.heap[k]? = some (.cells cs t f)) : ∀ j u, cs.toList[j]? = some u → w.cell? ((⟨k, 0, none⟩ : Addr).add j) = some u := by
  intro j u hu
  have hadd : (⟨k, 0, none⟩ : Addr).add j = ⟨k, j, none⟩ := by unfold Addr.add; split <;> simp_all
  rw [hadd]
  simp [World.cell?, h]; simpa using hu
def RO (w : World) (v : Value) (size n : Nat) (cs : List Value) : Prop :=
  cs.length = n * size ∧ ∃ p c, v = .slice p n c ∧ (∀ j u, cs[j]? = some u → ∃ b o, p = some ⟨b, o, none⟩ ∧ w.cell? ⟨b, o + j, none⟩ = some u)
theorem RO.below {w w' : World} {v size n cs} (h : RO w v size n cs) (hb : Below w.heap.size w w') : RO w' v size n cs := by
  obtain ⟨h1, p, c, h2, h3⟩ := h
  refine ⟨h1, p, c, h2, fun j u hu => ?_⟩
  obtain ⟨b, o, e, hc⟩ := h3 j u hu
  exact ⟨b, o, e, (hb.cell (World.block_lt_of_cell? _ _ hc)).trans hc⟩
theorem RO.upd {w w' : World} {F F'} {v size n cs} (h : RO w v size n cs) (hu : Upd F F' w w') (hF : ∀ k, v.ownBlock = some k → ¬ F k) : RO w' v size n cs := by
  obtain ⟨h1, p, c, rfl, h3⟩ := h
  refine ⟨h1, p, c, rfl, fun j u hj => ?_⟩
  obtain ⟨b, o, rfl, hc⟩ := h3 j u hj
  exact ⟨b, o, rfl, hu.cell hc (hF b rfl)⟩
theorem RO.own {w : World} {base e size v n xs} (h : w.ownsRow base e size v n xs) : RO w v size n xs := by
  refine ⟨h.1, ?_⟩
  rcases h.2 with ⟨rfl, rfl⟩ | ⟨g, cap, cur, rfl, hb, hg, h1, h2, h3, h4⟩
  · refine ⟨none, 0, rfl, fun j u hj => ?_⟩
    have : xs = [] := List.eq_nil_of_length_eq_zero (by simpa using h.1)
    subst this; simp at hj
  · refine ⟨_, _, rfl, fun j u hj => ⟨g, 0, rfl, ?_⟩⟩
    have := h.cells (g := g) rfl j u hj
    have hadd : (⟨g, 0, none⟩ : Addr).add j = ⟨g, 0 + j, none⟩ := by unfold Addr.add; split <;> simp_all
    rwa [hadd] at this
theorem RO.get {w : World} {v size n cs} (h : RO w v size n cs) {j : Nat} {u : Value} (hu : cs[j]? = some u) : ∃ b o c, v = .slice (some ⟨b, o, none⟩) n c ∧ w.cell? ⟨b, o + j, none⟩ = some u := by
  obtain ⟨h1, p, c, rfl, h3⟩ := h
  obtain ⟨b, o, rfl, hc⟩ := h3 j u hu
  exact ⟨b, o, c, rfl, hc⟩
theorem RO.sl {w : World} {p n c size n' cs} (h : RO w (.slice p n c) size n' cs) {j : Nat} {u : Value} (hu : cs[j]? = some u) : ∃ b o, p = some ⟨b, o, none⟩ := by
  obtain ⟨b, o, c', e, _⟩ := h.get hu
  simp only [Value.slice.injEq] at e
  exact ⟨b, o, e.1⟩
theorem RO.cell {w : World} {b o n c size n' cs} (h : RO w (.slice (some ⟨b, o, none⟩) n c) size n' cs) {j : Nat} {u : Value} (hu : cs[j]? = some u) : w.cell? ⟨b, o + j, none⟩ = some u := by
  obtain ⟨b', o', c', e, hc⟩ := h.get hu
  simp only [Value.slice.injEq, Option.some.injEq, Addr.mk.injEq, and_true] at e
  obtain ⟨⟨rfl, rfl⟩, _⟩ := e
  exact hc
theorem RO.form {w : World} {v size n cs} (h : RO w v size n cs) : ∃ p c, v = .slice p n c := by
  obtain ⟨h1, p, c, rfl, h3⟩ := h; exact ⟨p, c, rfl⟩
theorem rem_neg (i : Int) (n : Nat) (hn : 0 < n) (h : i.tmod n < 0) : i.tmod n + n = i % n := by
  have h1 : i.tmod n = i - n * i.tdiv n := Int.tmod_def i n
  have h3 : -(n : Int) < i.tmod n := by have := Int.lt_tmod_of_pos i (b := n) (by omega); omega
  have e : i = (i.tmod n + n) + n * (i.tdiv n - 1) := by rw [Int.mul_sub]; omega
  have h4 : 0 ≤ i.tmod n + n := by omega
  have h5 : i.tmod n + n < n := by omega
  generalize i.tmod n + (n : Int) = r at *
  generalize i.tdiv n - 1 = q at *
  subst e
  rw [Int.add_mul_emod_self_left, Int.emod_eq_of_lt h4 h5]
theorem rem_pos (i : Int) (n : Nat) (hn : 0 < n) (h : 0 ≤ i.tmod n) : i.tmod n = i % n := by
  have h1 : i.tmod n = i - n * i.tdiv n := Int.tmod_def i n
  have h3 : i.tmod n < n := Int.tmod_lt_of_pos i (by omega)
  have e : i = i.tmod n + n * (i.tdiv n) := by omega
  generalize i.tmod n = r at *
  generalize i.tdiv n = q at *
  subst e
  rw [Int.add_mul_emod_self_left, Int.emod_eq_of_lt h h3]
def Blk (w : World) (b : Nat) (t : TypeId) (l : List Value) : Prop := w.heap[b]? = some (.cells l.toArray t (0, 0))
theorem Blk.cell {w : World} {b t l} (h : Blk w b t l) {i : Nat} {u : Value} (hu : l[i]? = some u) : w.cell? ⟨b, i, none⟩ = some u := by
  unfold Blk at h; simp [World.cell?, h, hu]
theorem Blk.frz {w : World} {b t l} (h : Blk w b t l) (i : Nat) : w.frozen? ⟨b, i, none⟩ = false := by unfold Blk at h; simp [World.frozen?, h]
theorem Blk.lt {w : World} {b t l} (h : Blk w b t l) : b < w.heap.size := some_lt h
theorem Blk.set {w : World} {b t l} (h : Blk w b t l) (i : Nat) (u : Value) : Blk (w.setCell ⟨b, i, none⟩ u) b t (l.set i u) := by
  unfold Blk at *; simp [World.setCell, Array.getElem?_modify, h]
theorem Blk.other {w : World} {b t l} (h : Blk w b t l) {a : Addr} (u : Value) (hn : b ≠ a.block) : Blk (w.setCell a u) b t l := by
  unfold Blk at *; rw [Below.heap_setCell _ _ _ _ hn]; exact h
theorem Blk.below {w w' : World} {b t l} (h : Blk w b t l) {B : Nat} (hb : Below B w w') (hB : b < B) : Blk w' b t l := by
  unfold Blk at *; rw [hb.block b hB]; exact h
theorem Blk.alloc {w : World} {b t l} (h : Blk w b t l) (o : Obj) : Blk (w.alloc o) b t l := by
  have := h.lt
  unfold Blk at *; rw [heap_alloc_old _ _ this]; exact h
theorem Blk.new {w : World} (t : TypeId) (l : List Value) : Blk (w.alloc (.cells l.toArray t)) w.heap.size t l := heap_alloc_new w _
theorem Blk.own {w : World} {b t l} (h : Blk w b t l) {n size : Nat} (hl : l.length = n * size) (hm : n ≤ maxLen) (base : Nat) (hb : base ≤ b) : w.ownsRow base t size (.slice (some ⟨b, 0, none⟩) n n) n l :=
  ⟨hl, .inr ⟨b, n, _, rfl, hb, h, Nat.le_refl _, hm, by simpa using hl, by rw [← hl]; simp⟩⟩
def bools (l : List Bool) : List Value := l.map .bool
theorem bools_getElem? (l : List Bool) (i : Nat) : (bools l)[i]? = l[i]?.map .bool := by simp [bools]
theorem ints_getElem? (l : List Int) (i : Nat) : (ints l)[i]? = l[i]?.map (.int .i64 ·) := by simp [ints]
theorem bools_set (l : List Bool) (i : Nat) (b : Bool) : (bools l).set i (.bool b) = bools (l.set i b) := by simp [bools, List.map_set]
theorem bools_at (l : List Bool) (i : Nat) (h : i < l.length) : (bools l)[i]? = some (.bool (l.getD i false)) := by
  rw [bools, List.getElem?_map, List.getD, List.getElem?_eq_getElem h]; rfl
theorem ints_at (l : List Int) (i : Nat) (h : i < l.length) : (ints l)[i]? = some (.int .i64 (l.getD i 0)) := by
  rw [ints, List.getElem?_map, List.getD, List.getElem?_eq_getElem h]; rfl
theorem getD_set_int (l : List Int) (i j : Nat) (b : Int) : (l.set i b).getD j 0 = if i = j ∧ i < l.length then b else l.getD j 0 := by
  simp only [List.getD, List.getElem?_set]
  by_cases h : i = j
  · subst h
    by_cases h2 : i < l.length
    · simp [h2]
    · simp [h2]
  · simp [h]
theorem ints_set (l : List Int) (i : Nat) (b : Int) : (ints l).set i (.int .i64 b) = ints (l.set i b) := by simp [ints, List.map_set]
theorem bools_snoc (l : List Bool) (b : Bool) : bools (l ++ [b]) = bools l ++ [.bool b] := by simp [bools]
structure SlTy (P : Program) (t e size bytes : Nat) (z : Value) : Prop where
  u : P.underlying t = some (.slice e)
  i : ∃ i, P.info? e = some i ∧ i.zero = some z ∧ i.size = size ∧ i.bytes = bytes
  zs : z.cells.size = size
  sz : 0 < size
theorem SlTy.of {P : Program} {t e size bytes : Nat} {z : Value} (u : P.underlying t = some (.slice e)) (h : (P.info? e).map (fun i => (i.zero, i.size, i.bytes)) = some (some z, size, bytes)) (zs : z.cells.size = size) (sz : 0 < size) : SlTy P t e size bytes z :=
  ⟨u, by obtain ⟨i0, hi, hz0, hz1, hz2⟩ := info_parts h; exact ⟨i0, hi, hz0, hz1, hz2⟩, zs, sz⟩
structure App (base e size : Nat) (w : World) (v : Value) (n m : Nat) (all : List Value) (g cap : Nat) (w' : World) : Prop where
  own : w'.ownsRow base e size (.slice (some ⟨g, 0, none⟩) (n + m) cap) (n + m) all
  grown : w.grownBy w' v.ownBlock
  at_ : v.ownBlock = some g ∨ g = w.heap.size
  lt : g < w'.heap.size
theorem App.old {base e size w v n m all g cap w'} (h : App base e size w v n m all g cap w') {k : Nat} (hk : k < w.heap.size) (hn : v.ownBlock ≠ some k) : w'.heap[k]? = w.heap[k]? :=
  h.grown.block k hk (Ne.symm hn)
theorem App.below {base e size w v n m all g cap w' B w0} (h : App base e size w v n m all g cap w') (hb : Below B w0 w) (hB : B ≤ w.heap.size) (hv : ∀ k, v.ownBlock = some k → B ≤ k) : Below B w0 w' :=
  hb.grown h.grown hB hv
theorem seg_row {w : World} {k : Nat} {t : TypeId} {cs : Array Value} (h : w.heap[k]? = some (.cells cs t (0, 0))) {l : List Value} (hl : cs.toList = l) : ∀ j u, l[j]? = some u → w.cell? ((⟨k, 0, none⟩ : Addr).add j) = some u := by
  subst hl; exact seg_one h
theorem new_at (w : World) (o : Obj) (k : Nat) (h : w.heap.size = k) : (w.alloc o).heap[k]? = some o := h ▸ heap_alloc_new w o
theorem wpList_app {P : Program} {w : World} {ops : Array Oper} {rest : List Oper} {o : Oper} {a : Act} {Q : Exit → Act → World → Prop} (hgd : o.guard = none) (s x : Operand) (t : TypeId)
    (ho : o.op = .call { callee := .builtin .append, args := #[s, x], argTypes := #[t, t] })
    {e size bytes : Nat} {z : Value} (T : SlTy P t e size bytes z) (base : Nat)
    (v : Value) (n : Nat) (xs : List Value) (hs : a.eval s = v) (hown : w.ownsRow base e size v n xs)
    (b m c : Nat) (news : List Value) (hx : a.eval x = .slice (some ⟨b, 0, none⟩) m c) (cs : Array Value) (hb : w.heap[b]? = some (.cells cs e (0, 0))) (hcs : cs.toList = news) (hl : news.length = m * size) (h1 : ∀ u ∈ news, u.oneCell' = true)
    (hm : 0 < m) (hbytes : (n + m) * bytes ≤ 140737488355328) (h63 : n + m ≤ 140737488355328) (hbase : base ≤ w.heap.size)
    (h : ∀ g cap w', App base e size w v n m (xs ++ news) g cap w' → wpList P ops Q rest (a.put o.dst (.slice (some ⟨g, 0, none⟩) (n + m) cap)) w') : wpList P ops Q (o :: rest) a w := by
  obtain ⟨i, hi, hz, hsz, hby⟩ := T.i
  exact wpList_append_lies w hgd s x t ho base e i z size bytes T.u hi hz hsz hby T.zs T.sz v n xs hs hown ⟨b, 0, none⟩ m c news hx hl (seg_row hb hcs) h1 hm (by simp only [maxLen]; omega) hbytes hbase _ rfl
    fun g cap w' h2 h3 h4 h5 => h g cap w' ⟨h2, h3, h4, h5⟩
theorem flatMap_at {α : Type} (f : α → List Value) (size : Nat) (hs : 0 < size) (hf : ∀ y, (f y).length = size) : ∀ (l : List α) (j : Nat), (l.flatMap f)[j]? = (l[j / size]?).bind fun y => (f y)[j % size]?
  | [], j => by simp
  | y :: l, j => by
    rw [List.flatMap_cons]
    by_cases h : j < size
    · rw [List.getElem?_append_left (by rw [hf]; exact h), Nat.div_eq_of_lt h, Nat.mod_eq_of_lt h]; rfl
    · rw [List.getElem?_append_right (by rw [hf]; omega), hf, flatMap_at f size hs hf l (j - size)]
      have h1 : j / size = (j - size) / size + 1 := by rw [← Nat.add_div_right _ hs]; congr 1; omega
      have h2 : j % size = (j - size) % size := by rw [← Nat.add_mod_right (j - size) size]; congr 1; omega
      rw [h1, h2, List.getElem?_cons_succ]
theorem flatMap_len {α : Type} (f : α → List Value) (size : Nat) (hf : ∀ y, (f y).length = size) : ∀ (l : List α), (l.flatMap f).length = l.length * size
  | [] => by simp
  | y :: l => by rw [List.flatMap_cons, List.length_append, hf, flatMap_len f size hf l, List.length_cons, Nat.add_mul]; omega
theorem ro_open {α : Type} [Inhabited α] {H : Type} {enc : TypeId × Value → H} {P : Program} {w : World} {t e size : Nat} {v : Value} {d : DataW H} {ps : List MemPlace} {r : Reach} {b0 : Nat}
    (ht : P.underlying t = some (.slice e)) (hc : P.cellsOf e = size) (hs : 0 < size) (f : α → List Value) (hf : ∀ y, (f y).length = size)
    (hval : Value.okWide P w r b0 t v) (h : DataW.Trod enc P w 0 (fun _ => true) true t v d ps)
    (hg : ∀ fuel cs x, DataW.trod enc P w 0 (fun _ => true) true fuel e cs = some x → cs.length = size → ∃ y : α, cs = f y) :
    ∃ l : List α, RO w v size l.length (l.flatMap f) ∧ l.length ≤ maxLen := by
  obtain ⟨a0, len0, cap0, rfl⟩ := okWide_slice ht hval
  obtain ⟨fuel, hfu⟩ := h
  rcases open_slice ht hfu with ⟨hcs, _⟩ | ⟨a, len, cap, m, n, D, Pl, hcs, _, hl, hm, hmm, _, hel⟩
  · simp [Value.cells] at hcs
    obtain ⟨rfl, rfl, rfl⟩ := hcs
    exact ⟨[], ⟨by simp, none, 0, rfl, by simp⟩, by simp [maxLen]⟩
  · simp [Value.cells] at hcs
    obtain ⟨rfl, rfl, rfl⟩ := hcs
    have hlm : len0 ≤ m := by simpa using (by simpa using hmm : m = cap0) ▸ hl
    rw [hc] at hel
    have hch : ∀ i, i < len0 → ∃ y : α, ∀ r, r < size → w.cell? ((a.add (i * size)).add r) = (f y)[r]? := by
      intro i hi
      obtain ⟨cs', h1, h2⟩ := hel i (by omega)
      obtain ⟨_, h3, h4⟩ := World.cells?_some h1
      obtain ⟨y, rfl⟩ := hg _ _ _ h2 h3
      exact ⟨y, h4⟩
    obtain ⟨g, hgg⟩ := choose_lt hch
    refine ⟨(List.range len0).map g, ⟨flatMap_len f size hf _, some a, cap0, by simp, ?_⟩, by simp; omega⟩
    intro j u hu
    rw [flatMap_at f size hs hf] at hu
    simp only [List.getElem?_map, Option.bind_eq_some_iff] at hu
    obtain ⟨y, hy, hu⟩ := hu
    rw [Option.map_eq_some_iff] at hy
    obtain ⟨i, hi, rfl⟩ := hy
    have hjl : j / size < len0 := by
      rcases Nat.lt_or_ge (j / size) len0 with h | h
      · exact h
      · rw [List.getElem?_eq_none (by simpa using h)] at hi; cases hi
    rw [List.getElem?_range hjl] at hi
    obtain rfl : j / size = i := by simpa using hi
    have hc0 := hgg 0 (Nat.lt_of_le_of_lt (Nat.zero_le _) hjl) 0 hs
    have hsp : a.spot = none := by
      have h0 : (a.add (0 * size)).add 0 = a := by simp [Addr.add]
      rw [h0, List.getElem?_eq_getElem (by rw [hf]; exact hs)] at hc0
      exact World.cell?_spot hc0
    obtain ⟨b, o, s⟩ := a
    simp only at hsp
    subst hsp
    refine ⟨b, o, rfl, ?_⟩
    have := hgg (j / size) hjl (j % size) (Nat.mod_lt _ hs)
    rw [hu, Addr.add_add] at this
    rw [show j / size * size + j % size = j by rw [Nat.mul_comm]; exact Nat.div_add_mod j size] at this
    rw [← this]
    congr 1
    unfold Addr.add
    split <;> simp_all
theorem ro_bools {H : Type} {enc : TypeId × Value → H} {P : Program} {w : World} {t e : Nat} {v : Value} {d : DataW H} {ps : List MemPlace} {r : Reach} {b0 : Nat}
    (ht : P.underlying t = some (.slice e)) (he : P.underlying e = some .bool) (hc : P.cellsOf e = 1)
    (hval : Value.okWide P w r b0 t v) (h : DataW.Trod enc P w 0 (fun _ => true) true t v d ps) :
    ∃ l : List Bool, RO w v 1 l.length (bools l) ∧ l.length ≤ maxLen := by
  obtain ⟨l, h1, h2⟩ := ro_open ht hc Nat.one_pos (fun b : Bool => [.bool b]) (fun _ => rfl) hval h (fun fuel cs x hx _ => by
    obtain ⟨b, hb, _⟩ := DataW.trod_bool he hx
    exact ⟨b, hb⟩)
  refine ⟨l, ?_, h2⟩
  have : bools l = l.flatMap fun b => [.bool b] := by clear h1 h2; induction l <;> simp_all [bools]
  rw [this]; exact h1
theorem ro_ints {H : Type} {enc : TypeId × Value → H} {P : Program} {w : World} {t e : Nat} {v : Value} {d : DataW H} {ps : List MemPlace} {r : Reach} {b0 : Nat}
    (ht : P.underlying t = some (.slice e)) (he : P.underlying e = some (.int .i64)) (hc : P.cellsOf e = 1)
    (hval : Value.okWide P w r b0 t v) (h : DataW.Trod enc P w 0 (fun _ => true) true t v d ps) :
    ∃ l : List Int, RO w v 1 l.length (ints l) ∧ l.length ≤ maxLen := by
  obtain ⟨l, h1, h2⟩ := ro_open ht hc Nat.one_pos (fun b : Int => [.int .i64 b]) (fun _ => rfl) hval h (fun fuel cs x hx _ => by
    obtain ⟨b, hb, _⟩ := DataW.trod_int he hx
    exact ⟨b, hb⟩)
  refine ⟨l, ?_, h2⟩
  have : ints l = l.flatMap fun b => [.int .i64 b] := by clear h1 h2; induction l <;> simp_all [ints]
  rw [this]; exact h1
structure AppR (base e size : Nat) (w : World) (v : Value) (n : Nat) (all : List Value) (v' : Value) (w' : World) : Prop where
  own : w'.ownsRow base e size v' n all
  grown : w.grownBy w' v.ownBlock
  at_ : v'.ownBlock = v.ownBlock ∨ v'.ownBlock = some w.heap.size
theorem AppR.below {base e size w v n all v' w' B w0} (h : AppR base e size w v n all v' w') (hb : Below B w0 w) (hB : B ≤ w.heap.size) (hv : ∀ k, v.ownBlock = some k → B ≤ k) : Below B w0 w' :=
  hb.grown h.grown hB hv
theorem run_append_nothing {P : Program} {w : World} (t ty e size : Nat) (ht : P.underlying t = some (.slice e)) {i : TypeInfo} (hi : P.info? e = some i) (p : Option Addr) (n c c' : Nat) (hn : n ≤ c) :
    (Builtin.append_ #[t, t] ty #[.slice p n c, .slice none 0 c']).run P w = .ok (.slice p n c) w := by
  cases p with
  | none => simp [Builtin.append_, run_underlying ht, sizeOf, typeInfo, hi, Builtin.lenOf, Builtin.firstCells, hn]
  | some a => simp [Builtin.append_, run_underlying ht, sizeOf, typeInfo, hi, Builtin.lenOf, Builtin.firstCells, hn, storeCells]
theorem ownsRow_le {w : World} {base e size n : Nat} {v : Value} {xs : List Value} (h : w.ownsRow base e size v n xs) : ∃ p c, v = .slice p n c ∧ n ≤ c := by
  rcases h.2 with ⟨rfl, rfl⟩ | ⟨g, cap, cur, rfl, _, _, h1, _⟩
  · exact ⟨_, _, rfl, Nat.le_refl _⟩
  · exact ⟨_, _, rfl, h1⟩
theorem wpList_appR {P : Program} {w : World} {ops : Array Oper} {rest : List Oper} {o : Oper} {a : Act} {Q : Exit → Act → World → Prop} (hgd : o.guard = none) (s x : Operand) (t : TypeId)
    (ho : o.op = .call { callee := .builtin .append, args := #[s, x], argTypes := #[t, t] })
    {e size bytes : Nat} {z : Value} (T : SlTy P t e size bytes z) (base : Nat)
    (v : Value) (n : Nat) (xs : List Value) (hs : a.eval s = v) (hown : w.ownsRow base e size v n xs)
    (y : Value) (m : Nat) (news : List Value) (hx : a.eval x = y) (hy : RO w y size m news) (h1 : ∀ u ∈ news, u.oneCell' = true)
    (hbytes : (n + m) * bytes ≤ 140737488355328) (h63 : n + m ≤ 140737488355328) (hbase : base ≤ w.heap.size)
    (h : ∀ v' w', AppR base e size w v (n + m) (xs ++ news) v' w' → wpList P ops Q rest (a.put o.dst v') w') : wpList P ops Q (o :: rest) a w := by
  obtain ⟨i, hi, hz, hsz, hby⟩ := T.i
  have hml : n + m ≤ maxLen := by simp only [maxLen]; omega
  refine wpList_plain hgd fun K hK => ?_
  obtain ⟨hl, p, c, rfl, hcell⟩ := hy
  have hrun : ∃ v' w', (Builtin.append_ #[t, t] o.type #[v, .slice p m c]).run P w = .ok v' w' ∧ AppR base e size w v (n + m) (xs ++ news) v' w' := by
    cases p with
    | none =>
      have hnil : news = [] := by
        cases news with
        | nil => rfl
        | cons u r => obtain ⟨b, o', hb, _⟩ := hcell 0 u rfl; cases hb
      subst hnil
      have hm : m = 0 := by
        have h0 := T.sz
        have h1 : m * size = 0 := by simpa using hl.symm
        rcases Nat.mul_eq_zero.1 h1 with h2 | h2
        · exact h2
        · omega
      subst hm
      obtain ⟨p', c', rfl, hle⟩ := ownsRow_le hown
      exact ⟨_, w, run_append_nothing t o.type e size T.u hi p' n c' c hle, by simpa using hown, ⟨rfl, rfl, rfl, Nat.le_refl _, fun _ _ _ => rfl⟩, .inl rfl⟩
    | some ad =>
      have hc : ∀ j u, news[j]? = some u → w.cell? (ad.add j) = some u := by
        intro j u hu
        obtain ⟨b, o', hb, hc⟩ := hcell j u hu
        obtain rfl : ad = ⟨b, o', none⟩ := by simpa using hb
        have hadd : (⟨b, o', none⟩ : Addr).add j = ⟨b, o' + j, none⟩ := by unfold Addr.add; split <;> simp_all
        rw [hadd]; exact hc
      obtain ⟨v', w', hr, h2, h3, _, h5⟩ := run_append_own_at (P := P) w base t o.type e i z size bytes T.u hi hz hsz hby T.zs T.sz v n xs hown ad m c news hl hc h1 hml hbytes hbase
      exact ⟨v', w', hr, h2, h3, h5⟩
  obtain ⟨v', w', hr, hA⟩ := hrun
  unfold Oper.wp execOp
  simp only [ho, resolve, invoke, builtin, Sem.run_bind, Sem.run_pure, Result.andThen_ok, List.map_toArray, List.map_cons, List.map_nil, hs, hx, hr]
  exact hK _ _ (h v' w' hA)
theorem Below.then {B : Nat} {a b c : World} (h : Below B a b) (k : Below b.heap.size b c) (hB : B ≤ a.heap.size) : Below B a c := h.trans (k.mono (Nat.le_trans hB h.size))
theorem ownsRow_below {w w' : World} {base e size v n xs} (h : w.ownsRow base e size v n xs) (hb : Below w.heap.size w w') : w'.ownsRow base e size v n xs :=
  ownsRow_keep h fun k hk => hb.block k (h.lt k hk).2
theorem ints_one (l : List Int) : ∀ u ∈ ints l, u.oneCell' = true := by
  intro u hu
  simp only [ints, List.mem_map] at hu
  obtain ⟨x, _, rfl⟩ := hu; rfl
theorem ints_len (l : List Int) : (ints l).length = l.length := by simp [ints]
theorem bools_one (l : List Bool) : ∀ u ∈ bools l, u.oneCell' = true := by
  intro u hu
  simp only [bools, List.mem_map] at hu
  obtain ⟨x, _, rfl⟩ := hu; rfl
theorem reach_le {H : Type} {enc : TypeId × Value → H} {P : Program} {w : World} {t e size n bytes j : Nat} {v : Value} {d : DataW H} {ps : List MemPlace} {cells : List Value} {ts : List TypeId} {ds : List (DataW H)}
    (hz : (DataW.weightsEach P ts ds).all (· ≤ reachBytes) = true) (htj : ts[j]? = some t) (hdj : ds[j]? = some d)
    (ht : P.underlying t = some (.slice e)) (hb : P.bytesOf e = bytes) (ho : RO w v size n cells) (h : DataW.Trod enc P w 0 (fun _ => true) true t v d ps) : n * bytes ≤ reachBytes := by
  obtain ⟨p, c, rfl⟩ := ho.form
  obtain ⟨fuel, hfu⟩ := h
  rcases open_slice ht hfu with ⟨hcs, _⟩ | ⟨a, len, cap, m, n', D, Pl, hcs, _, hl, hm, hmm, hx, hel⟩
  · simp [Value.cells] at hcs
    rw [hcs.2.1]; omega
  · simp [Value.cells] at hcs
    obtain ⟨rfl, rfl, rfl⟩ := hcs
    simp only [Prod.mk.injEq] at hx
    obtain ⟨rfl, _⟩ := hx
    have := sized_slice hz htj hdj ht
    rw [hb, List.length_map, List.length_range, Nat.add_mul] at this
    omega
end Go.Proofs.YtkoggfahjlnecaaGreatDoor
namespace Go.Proofs.YtkoggfahjlnecaaGreatDoor
set_option linter.unusedVariables false
open Go.RowKit
theorem grown_refl0 (w : World) (r : Option Nat) : w.grownBy w r := ⟨rfl, rfl, rfl, Nat.le_refl _, fun _ _ _ => rfl⟩
theorem grown_setRow (w : World) (g : Nat) (cs : Array Value) : w.grownBy (w.setRow g cs) (some g) :=
  ⟨rfl, rfl, rfl, by simp, fun k _ hne => setRow_other w g k cs (fun e => hne (by rw [e]))⟩
/-- copy of a slice that is read onto a block of one's own -/
theorem wpList_copyR {P : Program} {w : World} {ops : Array Oper} {rest : List Oper} {o : Oper} {a : Act} {Q : Exit → Act → World → Prop} (hgd : o.guard = none) (d s : Operand) (dT sT : TypeId)
    (ho : o.op = .call { callee := .builtin .copy, args := #[d, s], argTypes := #[dT, sT] }) (elem : TypeId) (hu : P.underlying dT = some (.slice elem)) (hsz : (P.info? elem).map (·.size) = some 1)
    (g off dLen dCap : Nat) (hd : a.eval d = .slice (some ⟨g, off, none⟩) dLen dCap) (cur : List Value) (t : TypeId) (hg : Blk w g t cur) (hfit : off + dLen ≤ cur.length)
    (y : Value) (m : Nat) (cs : List Value) (hs : a.eval s = y) (hy : RO w y 1 m cs) (h1 : ∀ u ∈ cs, u.oneCell' = true)
    (h : ∀ w', Hid (Blk w' g t (splice cur off (cs.take dLen)) ∧ w.grownBy w' (some g)) → wpList P ops Q rest (a.put o.dst (goInt (cs.take dLen).length)) w') :
    wpList P ops Q (o :: rest) a w := by
  obtain ⟨hl, sp, sc, rfl, hcell⟩ := hy
  have hn : (cs.take dLen).length = Nat.min m dLen := by
    rw [List.length_take, hl, Nat.mul_one, Nat.min_comm]
  by_cases h0 : (cs.take dLen).length = 0
  · have hnil : cs.take dLen = [] := List.eq_nil_of_length_eq_zero h0
    refine wpList_copy_nothing hgd d s dT sT ho elem hu hsz _ _ _ _ _ _ hd hs (by rw [← hn]; exact h0) ?_
    have h2 := h w ⟨by rw [hnil]; simpa [splice] using hg, grown_refl0 w _⟩
    rw [hnil] at h2
    exact h2
  · obtain ⟨ad, rfl⟩ : ∃ ad, sp = some ad := by
      cases cs with
      | nil => simp at h0
      | cons u r => obtain ⟨b, o', hb, _⟩ := hcell 0 u rfl; exact ⟨_, hb⟩
    refine wpList_copy_own hgd d s dT sT ho elem hu hsz g off dLen dCap ad m sc hd hs cur.toArray t hg (cs.take dLen) hn ?_ (by rw [hn]; have : Nat.min m dLen ≤ dLen := Nat.min_le_right _ _; simp; omega) (fun v hv => h1 v (List.mem_of_mem_take hv)) ?_
    · intro j v hj
      rw [List.getElem?_take] at hj
      split at hj
      · obtain ⟨b, o', hb, hc⟩ := hcell j v hj
        obtain rfl : ad = ⟨b, o', none⟩ := by simpa using hb
        have hadd : (⟨b, o', none⟩ : Addr).add j = ⟨b, o' + j, none⟩ := by unfold Addr.add; split <;> simp_all
        rw [hadd]; exact hc
      · cases hj
    · exact h _ ⟨setRow_heap w g _ _ t _ hg, grown_setRow _ _ _⟩
end Go.Proofs.YtkoggfahjlnecaaGreatDoor
