/- Texts of this claim, one behind another: UK1, UA1, UA2, UA3, UA4, UA5, UA6, UA7, UA8, UA9. They state lemmas; each names its own conditions. -/
import Derived.WalkKit
import Derived.Below
import Derived.Lib.Hide
import Derived.Deep.QuietTactic
import Derived.BigQuiet
import Derived.Deep.AppendLies
import Derived.Deep.DeepMust
import Derived.ProofKit
import Derived.Deep.Slices
import Derived.OwnWalk
import Derived.SizedLaws
import Derived.OpenShut
import Derived.Lib.SmallJoins
import Derived.Test.YtcjfelndnnhgjaaGreatDoorRows
import Derived.Lib.Bytealg
import Derived.BigCall
import Derived.Lib.Strings
import Derived.Laws.Strings
import Derived.Laws.ResultCell
namespace Go.Proofs.YtcjfelndnnhgjaaGreatDoor
set_option linter.unusedVariables false
open Go.RowKit Go.Deep Go.ChangeShapes Go.WideShapes
structure Upd (F F' : Nat → Prop) (w w' : World) : Prop where
  os : w'.os = w.os
  tape : w'.tape = w.tape
  output : w'.output = w.output
  size : w.heap.size ≤ w'.heap.size
  block : ∀ k, k < w.heap.size → ¬ F k → w'.heap[k]? = w.heap[k]?
  sub : ∀ k, F' k → F k ∨ w.heap.size ≤ k
theorem Upd.refl (F : Nat → Prop) (w : World) : Upd F F w w := ⟨rfl, rfl, rfl, Nat.le_refl _, fun _ _ _ => rfl, fun _ h => .inl h⟩
theorem Upd.trans {F F' F'' : Nat → Prop} {w w' w'' : World} (h : Upd F F' w w') (k : Upd F' F'' w' w'') : Upd F F'' w w'' :=
  ⟨k.os.trans h.os, k.tape.trans h.tape, k.output.trans h.output, Nat.le_trans h.size k.size,
   fun i hi hn => (k.block i (Nat.lt_of_lt_of_le hi h.size) (fun h' => by rcases h.sub i h' with h' | h'; exact hn h'; omega)).trans (h.block i hi hn),
   fun i hi => by rcases k.sub i hi with h' | h'; exact h.sub i h'; exact .inr (Nat.le_trans h.size h')⟩
theorem Upd.below {F : Nat → Prop} {w w' : World} (h : Below w.heap.size w w') : Upd F F w w' :=
  ⟨h.os, h.tape, h.output, h.size, fun k hk _ => h.block k hk, fun _ h => .inl h⟩
theorem Upd.cell {F F' : Nat → Prop} {w w' : World} (h : Upd F F' w w') {a : Addr} {v : Value} (hc : w.cell? a = some v) (hn : ¬ F a.block) : w'.cell? a = some v := by
  rw [World.cell?_of_block (h.block _ (World.block_lt_of_cell? _ _ hc) hn)]; exact hc
def ints (l : List Int) : List Value := l.map fun n => .int .i64 n
theorem ownsRow_form {w : World} {base e size v n xs} (h : w.ownsRow base e size v n xs) : ∃ p c, v = .slice p n c := by
  rcases h.2 with ⟨rfl, rfl⟩ | ⟨g, cap, cur, rfl, _⟩
  · exact ⟨_, _, rfl⟩
  · exact ⟨_, _, rfl⟩
theorem ownsRow_keep {w w' : World} {base e size v n xs} (h : w.ownsRow base e size v n xs) (hb : ∀ k, v.ownBlock = some k → w'.heap[k]? = w.heap[k]?) : w'.ownsRow base e size v n xs := by
  refine ⟨h.1, ?_⟩
  rcases h.2 with hn | ⟨g, cap, cur, rfl, hb', hgg, rest⟩
  · exact .inl hn
  · refine .inr ⟨g, cap, cur, rfl, hb', ?_, rest⟩
    rw [hb g rfl]; exact hgg
theorem some_lt {w : World} {k : Nat} {o : Obj} (h : w.heap[k]? = some o) : k < w.heap.size := by
  rcases Nat.lt_or_ge k w.heap.size with h' | h'
  · exact h'
  · rw [Array.getElem?_eq_none h'] at h; cases h
theorem ints_snoc (l : List Int) (a : Int) : ints (l ++ [a]) = ints l ++ [.int .i64 a] := by simp [ints]
theorem below_drewN {B : Nat} {w : World} (n : Nat) : Below B w (w.drewN n) := ⟨rfl, rfl, rfl, Nat.le_refl _, fun _ _ => rfl⟩
theorem seg_one {w : World} {k : Nat} {t : TypeId} {f} {cs : Array Value} (h : w.heap[k]? = some (.cells cs t f)) : ∀ j u, cs.toList[j]? = some u → w.cell? ((⟨k, 0, none⟩ : Addr).add j) = some u := by
  intro j u hu
  have hadd : (⟨k, 0, none⟩ : Addr).add j = ⟨k, j, none⟩ := by unfold Addr.add; split <;> simp_all
  rw [hadd]
  simp [World.cell?, h]; simpa using hu
def RO (w : World) (v : Value) (size n : Nat) (cs : List Value) : Prop :=
  cs.length = n * size ∧ ∃ p c, v = .slice p n c ∧ (∀ j u, cs[j]? = some u → ∃ b o, p = some ⟨b, o, none⟩ ∧ w.cell? ⟨b, o + j, none⟩ = some u)
theorem RO.below {w w' : World} {v size n cs} (h : RO w v size n cs) (hb : Below w.heap.size w w') : RO w' v size n cs := by
  obtain ⟨h1, p, c, h2, h3⟩ := h
  refine ⟨h1, p, c, h2, fun j u hu => ?_⟩
  obtain ⟨b, o, e, hc⟩ := h3 j u hu
  exact ⟨b, o, e, (hb.cell (World.block_lt_of_cell? _ _ hc)).trans hc⟩
theorem RO.upd {w w' : World} {F F'} {v size n cs} (h : RO w v size n cs) (hu : Upd F F' w w') (hF : ∀ k, v.ownBlock = some k → ¬ F k) : RO w' v size n cs := by
  obtain ⟨h1, p, c, rfl, h3⟩ := h
  refine ⟨h1, p, c, rfl, fun j u hj => ?_⟩
  obtain ⟨b, o, rfl, hc⟩ := h3 j u hj
  exact ⟨b, o, rfl, hu.cell hc (hF b rfl)⟩
theorem RO.own {w : World} {base e size v n xs} (h : w.ownsRow base e size v n xs) : RO w v size n xs := by
  refine ⟨h.1, ?_⟩
  rcases h.2 with ⟨rfl, rfl⟩ | ⟨g, cap, cur, rfl, hb, hg, h1, h2, h3, h4⟩
  · refine ⟨none, 0, rfl, fun j u hj => ?_⟩
    have : xs = [] := List.eq_nil_of_length_eq_zero (by simpa using h.1)
    subst this; simp at hj
  · refine ⟨_, _, rfl, fun j u hj => ⟨g, 0, rfl, ?_⟩⟩
    have := h.cells (g := g) rfl j u hj
    have hadd : (⟨g, 0, none⟩ : Addr).add j = ⟨g, 0 + j, none⟩ := by unfold Addr.add; split <;> simp_all
    rwa [hadd] at this
theorem RO.get {w : World} {v size n cs} (h : RO w v size n cs) {j : Nat} {u : Value} (hu : cs[j]? = some u) : ∃ b o c, v = .slice (some ⟨b, o, none⟩) n c ∧ w.cell? ⟨b, o + j, none⟩ = some u := by
  obtain ⟨h1, p, c, rfl, h3⟩ := h
  obtain ⟨b, o, rfl, hc⟩ := h3 j u hu
  exact ⟨b, o, c, rfl, hc⟩
theorem RO.sl {w : World} {p n c size n' cs} (h : RO w (.slice p n c) size n' cs) {j : Nat} {u : Value} (hu : cs[j]? = some u) : ∃ b o, p = some ⟨b, o, none⟩ := by
  obtain ⟨b, o, c', e, _⟩ := h.get hu
  simp only [Value.slice.injEq] at e
  exact ⟨b, o, e.1⟩
theorem RO.cell {w : World} {b o n c size n' cs} (h : RO w (.slice (some ⟨b, o, none⟩) n c) size n' cs) {j : Nat} {u : Value} (hu : cs[j]? = some u) : w.cell? ⟨b, o + j, none⟩ = some u := by
  obtain ⟨b', o', c', e, hc⟩ := h.get hu
  simp only [Value.slice.injEq, Option.some.injEq, Addr.mk.injEq, and_true] at e
  obtain ⟨⟨rfl, rfl⟩, _⟩ := e
  exact hc
theorem RO.form {w : World} {v size n cs} (h : RO w v size n cs) : ∃ p c, v = .slice p n c := by
  obtain ⟨h1, p, c, rfl, h3⟩ := h; exact ⟨p, c, rfl⟩
theorem rem_neg (i : Int) (n : Nat) (hn : 0 < n) (h : i.tmod n < 0) : i.tmod n + n = i % n := by
  have h1 : i.tmod n = i - n * i.tdiv n := Int.tmod_def i n
  have h3 : -(n : Int) < i.tmod n := by have := Int.lt_tmod_of_pos i (b := n) (by omega); omega
  have e : i = (i.tmod n + n) + n * (i.tdiv n - 1) := by rw [Int.mul_sub]; omega
  have h4 : 0 ≤ i.tmod n + n := by omega
  have h5 : i.tmod n + n < n := by omega
  generalize i.tmod n + (n : Int) = r at *
  generalize i.tdiv n - 1 = q at *
  subst e
  rw [Int.add_mul_emod_self_left, Int.emod_eq_of_lt h4 h5]
theorem rem_pos (i : Int) (n : Nat) (hn : 0 < n) (h : 0 ≤ i.tmod n) : i.tmod n = i % n := by
  have h1 : i.tmod n = i - n * i.tdiv n := Int.tmod_def i n
  have h3 : i.tmod n < n := Int.tmod_lt_of_pos i (by omega)
  have e : i = i.tmod n + n * (i.tdiv n) := by omega
  generalize i.tmod n = r at *
  generalize i.tdiv n = q at *
  subst e
  rw [Int.add_mul_emod_self_left, Int.emod_eq_of_lt h h3]
def Blk (w : World) (b : Nat) (t : TypeId) (l : List Value) : Prop := w.heap[b]? = some (.cells l.toArray t (0, 0))
theorem Blk.cell {w : World} {b t l} (h : Blk w b t l) {i : Nat} {u : Value} (hu : l[i]? = some u) : w.cell? ⟨b, i, none⟩ = some u := by
  unfold Blk at h; simp [World.cell?, h, hu]
theorem Blk.frz {w : World} {b t l} (h : Blk w b t l) (i : Nat) : w.frozen? ⟨b, i, none⟩ = false := by unfold Blk at h; simp [World.frozen?, h]
theorem Blk.lt {w : World} {b t l} (h : Blk w b t l) : b < w.heap.size := some_lt h
theorem Blk.set {w : World} {b t l} (h : Blk w b t l) (i : Nat) (u : Value) : Blk (w.setCell ⟨b, i, none⟩ u) b t (l.set i u) := by
  unfold Blk at *; simp [World.setCell, Array.getElem?_modify, h]
theorem Blk.other {w : World} {b t l} (h : Blk w b t l) {a : Addr} (u : Value) (hn : b ≠ a.block) : Blk (w.setCell a u) b t l := by
  unfold Blk at *; rw [Below.heap_setCell _ _ _ _ hn]; exact h
theorem Blk.below {w w' : World} {b t l} (h : Blk w b t l) {B : Nat} (hb : Below B w w') (hB : b < B) : Blk w' b t l := by
  unfold Blk at *; rw [hb.block b hB]; exact h
theorem Blk.alloc {w : World} {b t l} (h : Blk w b t l) (o : Obj) : Blk (w.alloc o) b t l := by
  have := h.lt
  unfold Blk at *; rw [heap_alloc_old _ _ this]; exact h
theorem Blk.new {w : World} (t : TypeId) (l : List Value) : Blk (w.alloc (.cells l.toArray t)) w.heap.size t l := heap_alloc_new w _
theorem Blk.own {w : World} {b t l} (h : Blk w b t l) {n size : Nat} (hl : l.length = n * size) (hm : n ≤ maxLen) (base : Nat) (hb : base ≤ b) : w.ownsRow base t size (.slice (some ⟨b, 0, none⟩) n n) n l :=
  ⟨hl, .inr ⟨b, n, _, rfl, hb, h, Nat.le_refl _, hm, by simpa using hl, by rw [← hl]; simp⟩⟩
def bools (l : List Bool) : List Value := l.map .bool
theorem bools_getElem? (l : List Bool) (i : Nat) : (bools l)[i]? = l[i]?.map .bool := by simp [bools]
theorem ints_getElem? (l : List Int) (i : Nat) : (ints l)[i]? = l[i]?.map (.int .i64 ·) := by simp [ints]
theorem bools_set (l : List Bool) (i : Nat) (b : Bool) : (bools l).set i (.bool b) = bools (l.set i b) := by simp [bools, List.map_set]
theorem bools_at (l : List Bool) (i : Nat) (h : i < l.length) : (bools l)[i]? = some (.bool (l.getD i false)) := by
  rw [bools, List.getElem?_map, List.getD, List.getElem?_eq_getElem h]; rfl
theorem ints_at (l : List Int) (i : Nat) (h : i < l.length) : (ints l)[i]? = some (.int .i64 (l.getD i 0)) := by
  rw [ints, List.getElem?_map, List.getD, List.getElem?_eq_getElem h]; rfl
theorem getD_set_int (l : List Int) (i j : Nat) (b : Int) : (l.set i b).getD j 0 = if i = j ∧ i < l.length then b else l.getD j 0 := by
  simp only [List.getD, List.getElem?_set]
  by_cases h : i = j
  · subst h
    by_cases h2 : i < l.length
    · simp [h2]
    · simp [h2]
  · simp [h]
theorem ints_set (l : List Int) (i : Nat) (b : Int) : (ints l).set i (.int .i64 b) = ints (l.set i b) := by simp [ints, List.map_set]
theorem bools_snoc (l : List Bool) (b : Bool) : bools (l ++ [b]) = bools l ++ [.bool b] := by simp [bools]
structure SlTy (P : Program) (t e size bytes : Nat) (z : Value) : Prop where
  u : P.underlying t = some (.slice e)
  i : ∃ i, P.info? e = some i ∧ i.zero = some z ∧ i.size = size ∧ i.bytes = bytes
  zs : z.cells.size = size
  sz : 0 < size
theorem SlTy.of {P : Program} {t e size bytes : Nat} {z : Value} (u : P.underlying t = some (.slice e)) (h : (P.info? e).map (fun i => (i.zero, i.size, i.bytes)) = some (some z, size, bytes)) (zs : z.cells.size = size) (sz : 0 < size) : SlTy P t e size bytes z :=
  ⟨u, by obtain ⟨i0, hi, hz0, hz1, hz2⟩ := info_parts h; exact ⟨i0, hi, hz0, hz1, hz2⟩, zs, sz⟩
structure App (base e size : Nat) (w : World) (v : Value) (n m : Nat) (all : List Value) (g cap : Nat) (w' : World) : Prop where
  own : w'.ownsRow base e size (.slice (some ⟨g, 0, none⟩) (n + m) cap) (n + m) all
  grown : w.grownBy w' v.ownBlock
  at_ : v.ownBlock = some g ∨ g = w.heap.size
  lt : g < w'.heap.size
theorem App.old {base e size w v n m all g cap w'} (h : App base e size w v n m all g cap w') {k : Nat} (hk : k < w.heap.size) (hn : v.ownBlock ≠ some k) : w'.heap[k]? = w.heap[k]? :=
  h.grown.block k hk (Ne.symm hn)
theorem App.below {base e size w v n m all g cap w' B w0} (h : App base e size w v n m all g cap w') (hb : Below B w0 w) (hB : B ≤ w.heap.size) (hv : ∀ k, v.ownBlock = some k → B ≤ k) : Below B w0 w' :=
  hb.grown h.grown hB hv
theorem seg_row {w : World} {k : Nat} {t : TypeId} {cs : Array Value} (h : w.heap[k]? = some (.cells cs t (0, 0))) {l : List Value} (hl : cs.toList = l) : ∀ j u, l[j]? = some u → w.cell? ((⟨k, 0, none⟩ : Addr).add j) = some u := by
  subst hl; exact seg_one h
theorem new_at (w : World) (o : Obj) (k : Nat) (h : w.heap.size = k) : (w.alloc o).heap[k]? = some o := h ▸ heap_alloc_new w o
theorem wpList_app {P : Program} {w : World} {ops : Array Oper} {rest : List Oper} {o : Oper} {a : Act} {Q : Exit → Act → World → Prop} (hgd : o.guard = none) (s x : Operand) (t : TypeId)
    (ho : o.op = .call { callee := .builtin .append, args := #[s, x], argTypes := #[t, t] })
    {e size bytes : Nat} {z : Value} (T : SlTy P t e size bytes z) (base : Nat)
    (v : Value) (n : Nat) (xs : List Value) (hs : a.eval s = v) (hown : w.ownsRow base e size v n xs)
    (b m c : Nat) (news : List Value) (hx : a.eval x = .slice (some ⟨b, 0, none⟩) m c) (cs : Array Value) (hb : w.heap[b]? = some (.cells cs e (0, 0))) (hcs : cs.toList = news) (hl : news.length = m * size) (h1 : ∀ u ∈ news, u.oneCell' = true)
    (hm : 0 < m) (hbytes : (n + m) * bytes ≤ 140737488355328) (h63 : n + m ≤ 140737488355328) (hbase : base ≤ w.heap.size)
    (h : ∀ g cap w', App base e size w v n m (xs ++ news) g cap w' → wpList P ops Q rest (a.put o.dst (.slice (some ⟨g, 0, none⟩) (n + m) cap)) w') : wpList P ops Q (o :: rest) a w := by
  obtain ⟨i, hi, hz, hsz, hby⟩ := T.i
  exact wpList_append_lies w hgd s x t ho base e i z size bytes T.u hi hz hsz hby T.zs T.sz v n xs hs hown ⟨b, 0, none⟩ m c news hx hl (seg_row hb hcs) h1 hm (by simp only [maxLen]; omega) hbytes hbase _ rfl
    fun g cap w' h2 h3 h4 h5 => h g cap w' ⟨h2, h3, h4, h5⟩
theorem flatMap_at {α : Type} (f : α → List Value) (size : Nat) (hs : 0 < size) (hf : ∀ y, (f y).length = size) : ∀ (l : List α) (j : Nat), (l.flatMap f)[j]? = (l[j / size]?).bind fun y => (f y)[j % size]?
  | [], j => by simp
  | y :: l, j => by
    rw [List.flatMap_cons]
    by_cases h : j < size
    · rw [List.getElem?_append_left (by rw [hf]; exact h), Nat.div_eq_of_lt h, Nat.mod_eq_of_lt h]; rfl
    · rw [List.getElem?_append_right (by rw [hf]; omega), hf, flatMap_at f size hs hf l (j - size)]
      have h1 : j / size = (j - size) / size + 1 := by rw [← Nat.add_div_right _ hs]; congr 1; omega
      have h2 : j % size = (j - size) % size := by rw [← Nat.add_mod_right (j - size) size]; congr 1; omega
      rw [h1, h2, List.getElem?_cons_succ]
theorem flatMap_len {α : Type} (f : α → List Value) (size : Nat) (hf : ∀ y, (f y).length = size) : ∀ (l : List α), (l.flatMap f).length = l.length * size
  | [] => by simp
  | y :: l => by rw [List.flatMap_cons, List.length_append, hf, flatMap_len f size hf l, List.length_cons, Nat.add_mul]; omega
theorem ro_open {α : Type} [Inhabited α] {H : Type} {enc : TypeId × Value → H} {P : Program} {w : World} {t e size : Nat} {v : Value} {d : DataW H} {ps : List MemPlace} {r : Reach} {b0 : Nat}
    (ht : P.underlying t = some (.slice e)) (hc : P.cellsOf e = size) (hs : 0 < size) (f : α → List Value) (hf : ∀ y, (f y).length = size)
    (hval : Value.okWide P w r b0 t v) (h : DataW.Trod enc P w 0 (fun _ => true) true t v d ps)
    (hg : ∀ fuel cs x, DataW.trod enc P w 0 (fun _ => true) true fuel e cs = some x → cs.length = size → ∃ y : α, cs = f y) :
    ∃ l : List α, RO w v size l.length (l.flatMap f) ∧ l.length ≤ maxLen := by
  obtain ⟨a0, len0, cap0, rfl⟩ := okWide_slice ht hval
  obtain ⟨fuel, hfu⟩ := h
  rcases open_slice ht hfu with ⟨hcs, _⟩ | ⟨a, len, cap, m, n, D, Pl, hcs, _, hl, hm, hmm, _, hel⟩
  · simp [Value.cells] at hcs
    obtain ⟨rfl, rfl, rfl⟩ := hcs
    exact ⟨[], ⟨by simp, none, 0, rfl, by simp⟩, by simp [maxLen]⟩
  · simp [Value.cells] at hcs
    obtain ⟨rfl, rfl, rfl⟩ := hcs
    have hlm : len0 ≤ m := by simpa using (by simpa using hmm : m = cap0) ▸ hl
    rw [hc] at hel
    have hch : ∀ i, i < len0 → ∃ y : α, ∀ r, r < size → w.cell? ((a.add (i * size)).add r) = (f y)[r]? := by
      intro i hi
      obtain ⟨cs', h1, h2⟩ := hel i (by omega)
      obtain ⟨_, h3, h4⟩ := World.cells?_some h1
      obtain ⟨y, rfl⟩ := hg _ _ _ h2 h3
      exact ⟨y, h4⟩
    obtain ⟨g, hgg⟩ := choose_lt hch
    refine ⟨(List.range len0).map g, ⟨flatMap_len f size hf _, some a, cap0, by simp, ?_⟩, by simp; omega⟩
    intro j u hu
    rw [flatMap_at f size hs hf] at hu
    simp only [List.getElem?_map, Option.bind_eq_some_iff] at hu
    obtain ⟨y, hy, hu⟩ := hu
    rw [Option.map_eq_some_iff] at hy
    obtain ⟨i, hi, rfl⟩ := hy
    have hjl : j / size < len0 := by
      rcases Nat.lt_or_ge (j / size) len0 with h | h
      · exact h
      · rw [List.getElem?_eq_none (by simpa using h)] at hi; cases hi
    rw [List.getElem?_range hjl] at hi
    obtain rfl : j / size = i := by simpa using hi
    have hc0 := hgg 0 (Nat.lt_of_le_of_lt (Nat.zero_le _) hjl) 0 hs
    have hsp : a.spot = none := by
      have h0 : (a.add (0 * size)).add 0 = a := by simp [Addr.add]
      rw [h0, List.getElem?_eq_getElem (by rw [hf]; exact hs)] at hc0
      exact World.cell?_spot hc0
    obtain ⟨b, o, s⟩ := a
    simp only at hsp
    subst hsp
    refine ⟨b, o, rfl, ?_⟩
    have := hgg (j / size) hjl (j % size) (Nat.mod_lt _ hs)
    rw [hu, Addr.add_add] at this
    rw [show j / size * size + j % size = j by rw [Nat.mul_comm]; exact Nat.div_add_mod j size] at this
    rw [← this]
    congr 1
    unfold Addr.add
    split <;> simp_all
theorem ro_bools {H : Type} {enc : TypeId × Value → H} {P : Program} {w : World} {t e : Nat} {v : Value} {d : DataW H} {ps : List MemPlace} {r : Reach} {b0 : Nat}
    (ht : P.underlying t = some (.slice e)) (he : P.underlying e = some .bool) (hc : P.cellsOf e = 1)
    (hval : Value.okWide P w r b0 t v) (h : DataW.Trod enc P w 0 (fun _ => true) true t v d ps) :
    ∃ l : List Bool, RO w v 1 l.length (bools l) ∧ l.length ≤ maxLen := by
  obtain ⟨l, h1, h2⟩ := ro_open ht hc Nat.one_pos (fun b : Bool => [.bool b]) (fun _ => rfl) hval h (fun fuel cs x hx _ => by
    obtain ⟨b, hb, _⟩ := DataW.trod_bool he hx
    exact ⟨b, hb⟩)
  refine ⟨l, ?_, h2⟩
  have : bools l = l.flatMap fun b => [.bool b] := by clear h1 h2; induction l <;> simp_all [bools]
  rw [this]; exact h1
theorem ro_ints {H : Type} {enc : TypeId × Value → H} {P : Program} {w : World} {t e : Nat} {v : Value} {d : DataW H} {ps : List MemPlace} {r : Reach} {b0 : Nat}
    (ht : P.underlying t = some (.slice e)) (he : P.underlying e = some (.int .i64)) (hc : P.cellsOf e = 1)
    (hval : Value.okWide P w r b0 t v) (h : DataW.Trod enc P w 0 (fun _ => true) true t v d ps) :
    ∃ l : List Int, RO w v 1 l.length (ints l) ∧ l.length ≤ maxLen := by
  obtain ⟨l, h1, h2⟩ := ro_open ht hc Nat.one_pos (fun b : Int => [.int .i64 b]) (fun _ => rfl) hval h (fun fuel cs x hx _ => by
    obtain ⟨b, hb, _⟩ := DataW.trod_int he hx
    exact ⟨b, hb⟩)
  refine ⟨l, ?_, h2⟩
  have : ints l = l.flatMap fun b => [.int .i64 b] := by clear h1 h2; induction l <;> simp_all [ints]
  rw [this]; exact h1
structure AppR (base e size : Nat) (w : World) (v : Value) (n : Nat) (all : List Value) (v' : Value) (w' : World) : Prop where
  own : w'.ownsRow base e size v' n all
  grown : w.grownBy w' v.ownBlock
  at_ : v'.ownBlock = v.ownBlock ∨ v'.ownBlock = some w.heap.size
theorem AppR.below {base e size w v n all v' w' B w0} (h : AppR base e size w v n all v' w') (hb : Below B w0 w) (hB : B ≤ w.heap.size) (hv : ∀ k, v.ownBlock = some k → B ≤ k) : Below B w0 w' :=
  hb.grown h.grown hB hv
theorem run_append_nothing {P : Program} {w : World} (t ty e size : Nat) (ht : P.underlying t = some (.slice e)) {i : TypeInfo} (hi : P.info? e = some i) (p : Option Addr) (n c c' : Nat) (hn : n ≤ c) :
    (Builtin.append_ #[t, t] ty #[.slice p n c, .slice none 0 c']).run P w = .ok (.slice p n c) w := by
  cases p with
  | none => simp [Builtin.append_, run_underlying ht, sizeOf, typeInfo, hi, Builtin.lenOf, Builtin.firstCells, hn]
  | some a => simp [Builtin.append_, run_underlying ht, sizeOf, typeInfo, hi, Builtin.lenOf, Builtin.firstCells, hn, storeCells]
theorem ownsRow_le {w : World} {base e size n : Nat} {v : Value} {xs : List Value} (h : w.ownsRow base e size v n xs) : ∃ p c, v = .slice p n c ∧ n ≤ c := by
  rcases h.2 with ⟨rfl, rfl⟩ | ⟨g, cap, cur, rfl, _, _, h1, _⟩
  · exact ⟨_, _, rfl, Nat.le_refl _⟩
  · exact ⟨_, _, rfl, h1⟩
theorem wpList_appR {P : Program} {w : World} {ops : Array Oper} {rest : List Oper} {o : Oper} {a : Act} {Q : Exit → Act → World → Prop} (hgd : o.guard = none) (s x : Operand) (t : TypeId)
    (ho : o.op = .call { callee := .builtin .append, args := #[s, x], argTypes := #[t, t] })
    {e size bytes : Nat} {z : Value} (T : SlTy P t e size bytes z) (base : Nat)
    (v : Value) (n : Nat) (xs : List Value) (hs : a.eval s = v) (hown : w.ownsRow base e size v n xs)
    (y : Value) (m : Nat) (news : List Value) (hx : a.eval x = y) (hy : RO w y size m news) (h1 : ∀ u ∈ news, u.oneCell' = true)
    (hbytes : (n + m) * bytes ≤ 140737488355328) (h63 : n + m ≤ 140737488355328) (hbase : base ≤ w.heap.size)
    (h : ∀ v' w', AppR base e size w v (n + m) (xs ++ news) v' w' → wpList P ops Q rest (a.put o.dst v') w') : wpList P ops Q (o :: rest) a w := by
  obtain ⟨i, hi, hz, hsz, hby⟩ := T.i
  have hml : n + m ≤ maxLen := by simp only [maxLen]; omega
  refine wpList_plain hgd fun K hK => ?_
  obtain ⟨hl, p, c, rfl, hcell⟩ := hy
  have hrun : ∃ v' w', (Builtin.append_ #[t, t] o.type #[v, .slice p m c]).run P w = .ok v' w' ∧ AppR base e size w v (n + m) (xs ++ news) v' w' := by
    cases p with
    | none =>
      have hnil : news = [] := by
        cases news with
        | nil => rfl
        | cons u r => obtain ⟨b, o', hb, _⟩ := hcell 0 u rfl; cases hb
      subst hnil
      have hm : m = 0 := by
        have h0 := T.sz
        have h1 : m * size = 0 := by simpa using hl.symm
        rcases Nat.mul_eq_zero.1 h1 with h2 | h2
        · exact h2
        · omega
      subst hm
      obtain ⟨p', c', rfl, hle⟩ := ownsRow_le hown
      exact ⟨_, w, run_append_nothing t o.type e size T.u hi p' n c' c hle, by simpa using hown, ⟨rfl, rfl, rfl, Nat.le_refl _, fun _ _ _ => rfl⟩, .inl rfl⟩
    | some ad =>
      have hc : ∀ j u, news[j]? = some u → w.cell? (ad.add j) = some u := by
        intro j u hu
        obtain ⟨b, o', hb, hc⟩ := hcell j u hu
        obtain rfl : ad = ⟨b, o', none⟩ := by simpa using hb
        have hadd : (⟨b, o', none⟩ : Addr).add j = ⟨b, o' + j, none⟩ := by unfold Addr.add; split <;> simp_all
        rw [hadd]; exact hc
      obtain ⟨v', w', hr, h2, h3, _, h5⟩ := run_append_own_at (P := P) w base t o.type e i z size bytes T.u hi hz hsz hby T.zs T.sz v n xs hown ad m c news hl hc h1 hml hbytes hbase
      exact ⟨v', w', hr, h2, h3, h5⟩
  obtain ⟨v', w', hr, hA⟩ := hrun
  unfold Oper.wp execOp
  simp only [ho, resolve, invoke, builtin, Sem.run_bind, Sem.run_pure, Result.andThen_ok, List.map_toArray, List.map_cons, List.map_nil, hs, hx, hr]
  exact hK _ _ (h v' w' hA)
theorem Below.then {B : Nat} {a b c : World} (h : Below B a b) (k : Below b.heap.size b c) (hB : B ≤ a.heap.size) : Below B a c := h.trans (k.mono (Nat.le_trans hB h.size))
theorem ownsRow_below {w w' : World} {base e size v n xs} (h : w.ownsRow base e size v n xs) (hb : Below w.heap.size w w') : w'.ownsRow base e size v n xs :=
  ownsRow_keep h fun k hk => hb.block k (h.lt k hk).2
theorem ints_one (l : List Int) : ∀ u ∈ ints l, u.oneCell' = true := by
  intro u hu
  simp only [ints, List.mem_map] at hu
  obtain ⟨x, _, rfl⟩ := hu; rfl
theorem ints_len (l : List Int) : (ints l).length = l.length := by simp [ints]
theorem bools_one (l : List Bool) : ∀ u ∈ bools l, u.oneCell' = true := by
  intro u hu
  simp only [bools, List.mem_map] at hu
  obtain ⟨x, _, rfl⟩ := hu; rfl
theorem reach_le {H : Type} {enc : TypeId × Value → H} {P : Program} {w : World} {t e size n bytes j : Nat} {v : Value} {d : DataW H} {ps : List MemPlace} {cells : List Value} {ts : List TypeId} {ds : List (DataW H)}
    (hz : (DataW.weightsEach P ts ds).all (· ≤ reachBytes) = true) (htj : ts[j]? = some t) (hdj : ds[j]? = some d)
    (ht : P.underlying t = some (.slice e)) (hb : P.bytesOf e = bytes) (ho : RO w v size n cells) (h : DataW.Trod enc P w 0 (fun _ => true) true t v d ps) : n * bytes ≤ reachBytes := by
  obtain ⟨p, c, rfl⟩ := ho.form
  obtain ⟨fuel, hfu⟩ := h
  rcases open_slice ht hfu with ⟨hcs, _⟩ | ⟨a, len, cap, m, n', D, Pl, hcs, _, hl, hm, hmm, hx, hel⟩
  · simp [Value.cells] at hcs
    rw [hcs.2.1]; omega
  · simp [Value.cells] at hcs
    obtain ⟨rfl, rfl, rfl⟩ := hcs
    simp only [Prod.mk.injEq] at hx
    obtain ⟨rfl, _⟩ := hx
    have := sized_slice hz htj hdj ht
    rw [hb, List.length_map, List.length_range, Nat.add_mul] at this
    omega
end Go.Proofs.YtcjfelndnnhgjaaGreatDoor
namespace Go.Proofs.YtcjfelndnnhgjaaGreatDoor
set_option linter.unusedVariables false
open Go.RowKit
theorem nan_any (a : Int) (w : World) : Calls Tryz.prog 84 #[.int .i64 a] w fun e w' => e = .returned (.bool false) ∧ w = w' := by
  go_enter Tryz.func84, Tryz.ntmps84
  go_wp2_with fail
  go_ret
  exact ⟨by simp, rfl⟩
def cmpI (a b : Int) : Int := if a < b then -1 else if b < a then 1 else 0
/-- the first that is not 0 -/
def orI : List Int → Int
  | [] => 0
  | a :: l => if a = 0 then orI l else a
theorem orI_skip (l : List Int) : ∀ k, (∀ i, i < k → l.getD i 0 = 0) → k ≤ l.length → orI l = orI (l.drop k)
  | 0, _, _ => rfl
  | k + 1, h, hk => by
    rw [orI_skip l k (fun i hi => h i (by omega)) (by omega), List.drop_eq_getElem_cons (by omega)]
    have := h k (by omega)
    rw [List.getD, List.getElem?_eq_getElem (by omega)] at this
    simp only [Option.getD_some] at this
    rw [orI, if_pos this]
end Go.Proofs.YtcjfelndnnhgjaaGreatDoor
namespace Go.Proofs.YtcjfelndnnhgjaaGreatDoor
set_option linter.unusedVariables false
open Go.RowKit
set_option maxRecDepth 100000 in
theorem ixl_any (s : ByteArray) (c : Int) (w : World) : Calls Tryz.prog 41 #[.string s, .int .u8 c] w fun e w' => e = .returned (.int .i64 (Lib.indexByte s.data.toList c.toNat.toUInt8)) ∧ w = w' := by
  go_enter Tryz.func41, Tryz.ntmps41
  go_wp2_with fail
  rw [run_callFunc_extern Tryz.func59 (by kernel_rfl) (by kernel_rfl) (by kernel_rfl) (e := Extern.BytealgIndexByte.indexByte) (by kernel_rfl), Lib.run_indexByteString]
  simp only [Result.andThen]
  rw [Oper.upon_value]
  go_wp2
  go_ret
  exact ⟨rfl, rfl⟩
theorem ix_any (s : ByteArray) (c : Int) (w : World) : Calls Tryz.prog 29 #[.string s, .int .u8 c] w fun e w' => e = .returned (.int .i64 (Lib.indexByte s.data.toList c.toNat.toUInt8)) ∧ w = w' := by
  have H := Lib.hid (ixl_any s c w)
  go_enter Tryz.func29, Tryz.ntmps29
  go_wp2_with fail
  refine H.out.mono ?_; rintro e w' ⟨rfl, rfl⟩
  go_wp2_with fail
  go_ret
  exact ⟨rfl, rfl⟩
def isLetter (c : Nat) : Bool := decide (97 ≤ c ∧ c ≤ 122 ∨ 65 ≤ c ∧ c ≤ 90 ∨ 48 ≤ c ∧ c ≤ 57 ∨ c = 95 ∨ c = 45 ∨ c = 46)
set_option maxRecDepth 100000 in
theorem signs_ix (c : Nat) (hc : c < 256) : 0 ≤ Lib.indexByte ({ data := #[95, 45, 46] } : ByteArray).data.toList (c : Int).toNat.toUInt8 ↔ (c = 95 ∨ c = 45 ∨ c = 46) := by
  rw [Int.toNat_natCast]
  have h : ∀ d : Nat, d < 256 → (0 ≤ Lib.indexByte ({ data := #[95, 45, 46] } : ByteArray).data.toList d.toUInt8 ↔ (d = 95 ∨ d = 45 ∨ d = 46)) := by decide
  exact h c hc
theorem letter_any (c : Nat) (hc : c < 256) (w : World) : Calls Tryz.prog 23 #[.int .u8 c] w fun e w' => e = .returned (.bool (isLetter c)) ∧ w = w' := by
  have HI := Lib.hid (ix_any { data := #[95, 45, 46] } c w)
  have hs := signs_ix c hc
  generalize Lib.indexByte ({ data := #[95, 45, 46] } : ByteArray).data.toList (c : Int).toNat.toUInt8 = r at *
  have HS := Lib.hid hs
  clear hs
  obtain ⟨b, hb⟩ : ∃ b, isLetter c = b := ⟨_, rfl⟩
  rw [hb]
  have HB := Lib.hid hb
  have HC := Lib.hid hc
  clear hb hc
  have tail : ∀ b', (0 ≤ r ↔ b' = true) → (c < 97 ∨ 122 < c) → (c < 65 ∨ 90 < c) → (c < 48 ∨ 57 < c) → b' = b := by
    intro b' h1 h2 h3 h4
    rw [← HB.out]
    rw [HS.out] at h1
    unfold isLetter
    cases b' <;> simp at h1 ⊢ <;> omega
  have head : (97 ≤ c ∧ c ≤ 122 ∨ 65 ≤ c ∧ c ≤ 90 ∨ 48 ≤ c ∧ c ≤ 57) → b = true := by
    intro h; rw [← HB.out]; unfold isLetter; simp; omega
  have HT := Lib.hid (And.intro tail head)
  clear tail head
  go_enter Tryz.func23, Tryz.ntmps23
  by_cases h1 : 97 ≤ (c : Int) ∧ (c : Int) ≤ 122
  · obtain ⟨h1, h2⟩ := h1
    go_wp2_with fail
    go_ret
    exact ⟨by rw [HT.out.2 (.inl ⟨by omega, by omega⟩)]; rfl, rfl⟩
  · by_cases h2 : 65 ≤ (c : Int) ∧ (c : Int) ≤ 90
    · obtain ⟨h2, h3⟩ := h2
      have h4 : (c : Int) < 97 := by omega
      clear h1
      go_wp2_with fail
      go_ret
      exact ⟨by rw [HT.out.2 (.inr (.inl ⟨by omega, by omega⟩))]; rfl, rfl⟩
    · by_cases h3 : 48 ≤ (c : Int) ∧ (c : Int) ≤ 57
      · obtain ⟨h3, h4⟩ := h3
        have h5 : (c : Int) < 97 := by omega
        have h6 : (c : Int) < 65 := by omega
        clear h1 h2
        go_wp2_with fail
        go_ret
        exact ⟨by rw [HT.out.2 (.inr (.inr ⟨by omega, by omega⟩))]; rfl, rfl⟩
      · have HT2 : Hid (∀ b', (0 ≤ r ↔ b' = true) → b' = b) := Lib.hid fun b' h => HT.out.1 b' h (by omega) (by omega) (by omega)
        by_cases hr : 0 ≤ r
        · have e : b = true := (HT2.out true ⟨fun _ => rfl, fun _ => hr⟩).symm
          subst e
          rcases (show 122 < (c : Int) ∨ (90 < (c : Int) ∧ (c : Int) < 97) ∨ (57 < (c : Int) ∧ (c : Int) < 65) ∨ (c : Int) < 48 by omega) with h4 | ⟨h4, h5⟩ | ⟨h4, h5⟩ | h4
          all_goals
            have g1 : (c : Int) < 97 ∨ 97 ≤ (c : Int) := by omega
            clear h1 h2 h3 g1
          · have h6 : 97 ≤ (c : Int) := by omega
            have h7 : 65 ≤ (c : Int) := by omega
            have h8 : 48 ≤ (c : Int) := by omega
            have h9 : 90 < (c : Int) := by omega
            have h10 : 57 < (c : Int) := by omega
            go_wp2_with fail
            refine HI.out.mono ?_; rintro e w' ⟨rfl, rfl⟩
            go_wp2_with fail
            go_ret
            exact ⟨rfl, rfl⟩
          · have h7 : 65 ≤ (c : Int) := by omega
            have h8 : 48 ≤ (c : Int) := by omega
            have h10 : 57 < (c : Int) := by omega
            go_wp2_with fail
            refine HI.out.mono ?_; rintro e w' ⟨rfl, rfl⟩
            go_wp2_with fail
            go_ret
            exact ⟨rfl, rfl⟩
          · have h7 : (c : Int) < 97 := by omega
            have h8 : 48 ≤ (c : Int) := by omega
            go_wp2_with fail
            refine HI.out.mono ?_; rintro e w' ⟨rfl, rfl⟩
            go_wp2_with fail
            go_ret
            exact ⟨rfl, rfl⟩
          · have h7 : (c : Int) < 97 := by omega
            have h8 : (c : Int) < 65 := by omega
            go_wp2_with fail
            refine HI.out.mono ?_; rintro e w' ⟨rfl, rfl⟩
            go_wp2_with fail
            go_ret
            exact ⟨rfl, rfl⟩
        · have e : b = false := (HT2.out false ⟨fun h => absurd h hr, fun h => nomatch h⟩).symm
          subst e
          have hr' : r < 0 := by omega
          rcases (show 122 < (c : Int) ∨ (90 < (c : Int) ∧ (c : Int) < 97) ∨ (57 < (c : Int) ∧ (c : Int) < 65) ∨ (c : Int) < 48 by omega) with h4 | ⟨h4, h5⟩ | ⟨h4, h5⟩ | h4
          all_goals
            clear h1 h2 h3 hr
          · have h6 : 97 ≤ (c : Int) := by omega
            have h7 : 65 ≤ (c : Int) := by omega
            have h8 : 48 ≤ (c : Int) := by omega
            have h9 : 90 < (c : Int) := by omega
            have h10 : 57 < (c : Int) := by omega
            go_wp2_with fail
            refine HI.out.mono ?_; rintro e w' ⟨rfl, rfl⟩
            go_wp2_with fail
            go_ret
            exact ⟨congrArg (fun b => Ending.returned (Value.bool b)) (by simp; omega), rfl⟩
          · have h7 : 65 ≤ (c : Int) := by omega
            have h8 : 48 ≤ (c : Int) := by omega
            have h10 : 57 < (c : Int) := by omega
            go_wp2_with fail
            refine HI.out.mono ?_; rintro e w' ⟨rfl, rfl⟩
            go_wp2_with fail
            go_ret
            exact ⟨congrArg (fun b => Ending.returned (Value.bool b)) (by simp; omega), rfl⟩
          · have h7 : (c : Int) < 97 := by omega
            have h8 : 48 ≤ (c : Int) := by omega
            go_wp2_with fail
            refine HI.out.mono ?_; rintro e w' ⟨rfl, rfl⟩
            go_wp2_with fail
            go_ret
            exact ⟨congrArg (fun b => Ending.returned (Value.bool b)) (by simp; omega), rfl⟩
          · have h7 : (c : Int) < 97 := by omega
            have h8 : (c : Int) < 65 := by omega
            go_wp2_with fail
            refine HI.out.mono ?_; rintro e w' ⟨rfl, rfl⟩
            go_wp2_with fail
            go_ret
            exact ⟨congrArg (fun b => Ending.returned (Value.bool b)) (by simp; omega), rfl⟩
end Go.Proofs.YtcjfelndnnhgjaaGreatDoor
namespace Go.Proofs.YtcjfelndnnhgjaaGreatDoor
set_option linter.unusedVariables false
open Go.RowKit
theorem takeS_snoc (s : ByteArray) (k : Nat) (h : k < s.size) : s.data.toList.take (k + 1) = s.data.toList.take k ++ [s[k]] := by
  rw [List.take_succ_eq_append_getElem (by simpa using h)]; rfl
def lets (l : List UInt8) : Bool := l.all fun c => isLetter c.toNat
theorem lets_snoc (l : List UInt8) (c : UInt8) : lets (l ++ [c]) = (lets l && isLetter c.toNat) := by simp [lets]
theorem lets_take (l : List UInt8) (k : Nat) (h : lets (l.take k) = false) : lets l = false := by
  rw [← List.take_append_drop k l]
  unfold lets at *
  rw [List.all_append, h, Bool.false_and]
def isName (s : ByteArray) : Bool := lets s.data.toList && decide (1 ≤ s.size ∧ s.size ≤ 40)
theorem size_eq_zero (s : ByteArray) (h : s.size = 0) : s = { data := #[] } := by
  obtain ⟨d⟩ := s
  have : d.size = 0 := h
  simp [Array.size_eq_zero_iff.1 this]
theorem named_any (s : ByteArray) (w : World) (hs : s.size ≤ maxLen) : Calls Tryz.prog 14 #[.string s] w fun e w' => e = .returned (.bool (isName s)) ∧ w = w' := by
  unfold maxLen at hs
  go_enter Tryz.func14, Tryz.ntmps14
  go_wp2_with fail
  go_loop [6] (fun i => ∃ k : Nat, k ≤ s.size ∧ i = .int .i64 k ∧ lets (s.data.toList.take k) = true) (fun i => s.size - (intOf i).toNat)
  case atStart => exact ⟨0, Nat.zero_le _, rfl, rfl⟩
  case round =>
    obtain ⟨k, hk, rfl, hl⟩ := hrel
    by_cases hlt : k < s.size
    · have hsn := lets_snoc (s.data.toList.take k) s[k]
      rw [← takeS_snoc s k hlt, hl, Bool.true_and] at hsn
      have HC := Lib.hid (letter_any s[k].toNat s[k].toNat_lt w)
      obtain ⟨b, hb⟩ : ∃ b, isLetter s[k].toNat = b := ⟨_, rfl⟩
      rw [hb] at HC hsn
      have HS := Lib.hid hsn
      clear hsn hb hl
      go_wp2_with fail
      refine HC.out.mono ?_; rintro e w' ⟨rfl, rfl⟩
      cases b
      · go_wp2_with fail
        go_ret
        exact ⟨by rw [isName, lets_take _ _ HS.out]; rfl, rfl⟩
      · go_wp2_with fail
        go_round
        case rel => exact ⟨k + 1, by omega, by go_num, HS.out⟩
        case measure => simp [intOf]; omega
    · obtain rfl : k = s.size := by omega
      rw [List.take_of_length_le (by simp)] at hl
      have HL := Lib.hid hl
      clear hl
      by_cases h0 : s.size = 0
      · have he := size_eq_zero s h0
        have hnl : s.toList = [] := by rw [he, ByteArray.toList_eq]
        have H0 := Lib.hid h0
        clear h0 he hlt
        go_wp2_with fail
        go_ret
        exact ⟨by rw [isName, decide_eq_false (fun h => by have := H0.out; omega), Bool.and_false]; rfl, rfl⟩
      · have hnl : ¬ s.toList = [] := by
          intro e
          rw [ByteArray.toList_eq] at e
          exact h0 (by have := congrArg List.length e; simpa using this)
        have H0 := Lib.hid h0
        clear h0 hlt
        by_cases h40 : (s.size : Int) ≤ 40
        · go_wp2_with fail
          go_ret
          exact ⟨congrArg (fun b => Ending.returned (Value.bool b)) (by rw [isName, HL.out, decide_eq_true ⟨by have := H0.out; omega, by omega⟩]; simp [hnl]), rfl⟩
        · have h40' : decide ((s.size : Int) ≤ 40) = false := by simpa using h40
          have H40 := Lib.hid h40
          clear h40
          go_wp2_with fail
          go_ret
          exact ⟨congrArg (fun b => Ending.returned (Value.bool b)) (by rw [isName, HL.out, decide_eq_false (fun h => by have := H40.out; omega)]; simp), rfl⟩
end Go.Proofs.YtcjfelndnnhgjaaGreatDoor
namespace Go.Proofs.YtcjfelndnnhgjaaGreatDoor
set_option linter.unusedVariables false
open Go.RowKit
theorem Tryz.info3 : (Tryz.prog.info? 3).map (fun i => (i.zero, i.size, i.bytes)) = some (some (.int .i64 0), 1, 8) := by kernel_rfl
theorem Tryz.T63 : SlTy Tryz.prog 56 3 1 8 (.int .i64 0) := SlTy.of Tryz.underlying56 Tryz.info3 rfl Nat.one_pos
/-- where the lines begin, of the first k bytes -/
def stTo (l : List UInt8) : Nat → List Int
  | 0 => [0]
  | k + 1 => if l.getD k 0 = 10 then stTo l k ++ [((k + 1 : Nat) : Int)] else stTo l k
theorem stTo_succ (l : List UInt8) (k : Nat) : stTo l (k + 1) = if l.getD k 0 = 10 then stTo l k ++ [((k + 1 : Nat) : Int)] else stTo l k := rfl
theorem stTo_length (l : List UInt8) : ∀ k, 0 < (stTo l k).length ∧ (stTo l k).length ≤ k + 1
  | 0 => ⟨Nat.one_pos, Nat.le_refl _⟩
  | k + 1 => by
    have := stTo_length l k
    rw [stTo_succ]; split
    · rw [List.length_append]; exact ⟨by omega, by simp; omega⟩
    · omega
def starts (s : ByteArray) : List Int := stTo s.data.toList s.size
theorem getS (s : ByteArray) (k : Nat) (h : k < s.size) : s.data.toList.getD k 0 = s[k] := by
  rw [List.getD, List.getElem?_eq_getElem (by simpa using h)]; rfl
theorem u8_ten (c : UInt8) : c = 10 ↔ (c.toNat : Int) = 10 := by
  constructor
  · rintro rfl; rfl
  · intro h; apply UInt8.toNat_inj.1; show c.toNat = 10; omega
set_option maxHeartbeats 1000000 in
theorem lines_own (s : ByteArray) (w : World) (hs : s.size ≤ 1000000) : Calls Tryz.prog 16 #[.string s] w fun e w' => ∃ v, e = .returned v ∧ w'.ownsRow w.heap.size 3 1 v (starts s).length (ints (starts s)) ∧ Below w.heap.size w w' := by
  have hs' : (s.size : Int) ≤ 1000000 := by omega
  go_enter Tryz.func16, Tryz.ntmps16
  go_wp2_with fail
  generalize hB : w.heap.size = B at *
  go_loopw [3, 8] (fun v i wr => ∃ k : Nat, k ≤ s.size ∧ i = .int .i64 k ∧ wr.ownsRow B 3 1 v (stTo s.data.toList k).length (ints (stTo s.data.toList k)) ∧ Below B w wr) (fun _ i _ => s.size - (intOf i).toNat)
  case atStart =>
    have hb : Blk (w.alloc (.cells #[.int .i64 0] 3)) B 3 [.int .i64 0] := hB ▸ Blk.new 3 [.int .i64 0]
    exact ⟨0, Nat.zero_le _, rfl, hb.own (by rfl) (by decide) B (Nat.le_refl _), (Below.refl _ _).alloc (Nat.le_of_eq hB.symm) _⟩
  case round =>
    obtain ⟨k, hk, rfl, hown, hbel⟩ := hrel
    have hBw : B ≤ wr.heap.size := hB ▸ hbel.size
    by_cases hlt : k < s.size
    · have hsucc := stTo_succ s.data.toList k
      have hln := stTo_length s.data.toList k
      have hg := getS s k hlt
      have hu := u8_ten s[k]
      rw [hg] at hsucc
      have HS := Lib.hid (And.intro hsucc hu)
      have HR := Lib.hid (And.intro hown hbel)
      clear hsucc hg hu hown hbel
      by_cases h10 : (s[k].toNat : Int) = 10
      · have h10b : ((s[k].toNat : Int) == 10) = true := by simp [h10]
        have H10 := Lib.hid h10
        clear h10
        go_wp2_with (at_builtin; go_must ((refine wpList_app rfl _ _ 56 rfl Tryz.T63 B _ _ _ rfl (HR.out.1.alloc (Obj.cells #[Value.int IntKind.i64 ((k : Int) + 1)] 3)) _ 1 1 [_] rfl _ (new_at _ _ _ rfl) rfl rfl (by simp [Value.oneCell']) Nat.one_pos (by omega) (by omega) (by simp only [World.size_alloc]; omega) ?_); intro gk cap w4 happ; have HP := Lib.hid happ; clear happ))
        go_roundw
        case rel =>
          refine ⟨k + 1, by omega, by go_num, ?_, HP.out.below (HR.out.2.alloc hBw _) (by simp only [World.size_alloc]; omega) (fun k hk => (HR.out.1.lt k hk).1)⟩
          rw [HS.out.1, if_pos (HS.out.2.2 H10.out), ints_snoc, List.length_append]
          exact HP.out.own
        case measure => simp [intOf]; omega
      · have h10b : ((s[k].toNat : Int) == 10) = false := by simp [h10]
        have H10 := Lib.hid h10
        clear h10
        go_wp2_with fail
        go_roundw
        case rel =>
          refine ⟨k + 1, by omega, by go_num, ?_, HR.out.2⟩
          rw [HS.out.1, if_neg (fun h => H10.out (HS.out.2.1 h))]
          exact HR.out.1
        case measure => simp [intOf]; omega
    · obtain rfl : k = s.size := by omega
      have HR := Lib.hid (And.intro hown hbel)
      clear hown hbel hlt
      go_wp2_with fail
      go_ret
      exact ⟨_, rfl, hB ▸ HR.out.1, hB ▸ HR.out.2⟩
end Go.Proofs.YtcjfelndnnhgjaaGreatDoor
namespace Go.Proofs.YtcjfelndnnhgjaaGreatDoor
set_option linter.unusedVariables false
open Go.RowKit
/-- a part: its name, its text, its starts -/
structure Part where
  name : ByteArray
  text : ByteArray
  sp : Option Addr
  sn : Nat
  sc : Nat
instance : Inhabited Part := ⟨⟨.empty, .empty, none, 0, 0⟩⟩
def Part.st (p : Part) : Value := .slice p.sp p.sn p.sc
def partCells (l : List Part) : List Value := l.flatMap fun p => [.string p.name, .string p.text, p.st]
theorem parts_at (l : List Part) (i : Nat) (h : i < l.length) : (partCells l)[i * 3]? = some (.string (l.getD i default).name) ∧ (partCells l)[i * 3 + 1]? = some (.string (l.getD i default).text) ∧ (partCells l)[i * 3 + 2]? = some (l.getD i default).st := by
  induction l generalizing i with
  | nil => simp at h
  | cons p l ih =>
    cases i with
    | zero => simp [partCells]
    | succ i =>
      have := ih i (by simpa using h)
      simp only [partCells, List.flatMap_cons, List.getD_cons_succ] at *
      rw [show (i + 1) * 3 = i * 3 + 3 by omega, show i * 3 + 3 + 1 = i * 3 + 1 + 3 by omega, show i * 3 + 3 + 2 = i * 3 + 2 + 3 by omega]
      simpa using this
def Tab (w : World) (bt : Nat) (ps : List Part) : Prop := ∃ v, w.cell? ⟨bt, 0, none⟩ = some v ∧ RO w v 3 ps.length (partCells ps)
theorem Tab.below {w w' bt ps} (h : Tab w bt ps) (hb : Below w.heap.size w w') : Tab w' bt ps := by
  obtain ⟨v, hc, hr⟩ := h
  exact ⟨v, (hb.cell (World.block_lt_of_cell? _ _ hc)).trans hc, hr.below hb⟩
def partV (p : Part) : Value := .agg #[.string p.name, .string p.text, p.st]
theorem one_in {w : World} {bt ps} (h : Tab w bt ps) (n : Nat) (hn : n < ps.length) (hl : ps.length ≤ 100000) :
    Calls Tryz.prog 19 #[.pointer (some ⟨bt, 0, none⟩), .int .i64 ((n : Int) + 1)] w fun e w' => e = .returned (.tuple #[partV (ps.getD n default), .int .i64 0]) ∧ Below w.heap.size w w' := by
  obtain ⟨v, hc, hr⟩ := h
  obtain ⟨p, c, rfl⟩ := hr.form
  obtain ⟨b, o, rfl⟩ := hr.sl (parts_at ps n hn).1
  have h0 := hr.cell (parts_at ps n hn).1
  have h1 := hr.cell (parts_at ps n hn).2.1
  have h2 := hr.cell (parts_at ps n hn).2.2
  rw [← Nat.add_assoc] at h1 h2
  have hb := World.block_lt_of_cell? _ _ h0
  have hb2 := World.block_lt_of_cell? _ _ hc
  have hn' : (n : Int) < ps.length := by omega
  have hl' : (ps.length : Int) ≤ 100000 := by omega
  generalize ps.getD n default = P at *
  obtain ⟨nm, tx, sp, sn, sc⟩ := P
  dsimp only [Part.st] at h0 h1 h2
  clear hr hn hl
  go_enter Tryz.func19, Tryz.ntmps19
  go_wp2_with fail
  refine bodyPost_ret (v := .tuple #[partV ⟨nm, tx, sp, sn, sc⟩, .int .i64 0]) ?_ rfl ⟨rfl, (((Below.refl _ _).alloc (Nat.le_refl _) _))⟩
  simp [results, Tryz.results19, go_sem, partV, Part.st]
theorem one_out {w : World} {bt ps} (h : Tab w bt ps) (n : Int) (hn : n < 1 ∨ (ps.length : Int) < n) (hl : ps.length ≤ 100000) :
    Calls Tryz.prog 19 #[.pointer (some ⟨bt, 0, none⟩), .int .i64 n] w fun e w' => e = .returned (.tuple #[partV default, .int .i64 21]) ∧ Below w.heap.size w w' := by
  obtain ⟨v, hc, hr⟩ := h
  obtain ⟨p, c, rfl⟩ := hr.form
  have hb2 := World.block_lt_of_cell? _ _ hc
  have hl' : (ps.length : Int) ≤ 100000 := by omega
  clear hr hl
  go_enter Tryz.func19, Tryz.ntmps19
  rcases hn with hn | hn
  · go_wp2_with fail
    refine bodyPost_ret (v := .tuple #[partV default, .int .i64 21]) ?_ rfl ⟨rfl, (((Below.refl _ _).alloc (Nat.le_refl _) _))⟩
    simp [results, Tryz.results19, go_sem, partV, Part.st]
    exact ⟨rfl, rfl, rfl, rfl, rfl⟩
  · have hn1 : 1 ≤ n := by omega
    go_wp2_with fail
    refine bodyPost_ret (v := .tuple #[partV default, .int .i64 21]) ?_ rfl ⟨rfl, (((Below.refl _ _).alloc (Nat.le_refl _) _))⟩
    simp [results, Tryz.results19, go_sem, partV, Part.st]
    exact ⟨rfl, rfl, rfl, rfl, rfl⟩
theorem get_in {w : World} {bt ps} (h : Tab w bt ps) (n : Nat) (hn : n < ps.length) (hl : ps.length ≤ 100000) :
    Calls Tryz.prog 10 #[.pointer (some ⟨bt, 0, none⟩), .int .i64 ((n : Int) + 1)] w fun e w' => e = .returned (.tuple #[.agg #[.string (ps.getD n default).name, .string (ps.getD n default).text], .int .i64 0]) ∧ Below w.heap.size w w' := by
  have HO := fun w h => Lib.hid (one_in (w := w) (bt := bt) (ps := ps) h n hn hl)
  have hT : Hid (∀ o : Obj, Tab (w.alloc o) bt ps) := Lib.hid fun o => h.below ((Below.refl _ _).alloc (Nat.le_refl _) _)
  generalize ps.getD n default = P at *
  obtain ⟨nm, tx, sp, sn, sc⟩ := P
  have HO := Lib.hid HO
  clear h hn hl
  go_enter Tryz.func10, Tryz.ntmps10
  go_wp2_with fail
  refine (HO.out _ (hT.out _)).out.mono ?_; rintro e w1 ⟨rfl, hb⟩
  have hsz := hb.size
  rw [World.size_alloc] at hsz
  have hk : Blk w1 w.heap.size 43 [.string { data := #[] }, .string { data := #[] }] := by
    have := hb.block w.heap.size (by rw [World.size_alloc]; omega)
    rw [heap_alloc_new] at this
    exact this
  have hb' : Below w.heap.size w w1 := ((Below.refl w.heap.size w).alloc (Nat.le_refl _) _).trans (hb.mono (by rw [World.size_alloc]; omega))
  have HB := Lib.hid (And.intro hb' hk)
  have hlt1 : w.heap.size < w1.heap.size := by omega
  have c0 := hk.cell (i := 0) (u := .string { data := #[] }) rfl
  have c1 := hk.cell (i := 1) (u := .string { data := #[] }) rfl
  have f0 := hk.frz 0
  have f1 := hk.frz 1
  clear hb hb' hk HO
  dsimp only [partV, Part.st]
  go_wp2_with fail
  have hk2 : Blk (((w1.setCell ⟨w.heap.size, 0, none⟩ (Value.string nm)).setCell ⟨w.heap.size, 1, none⟩ (Value.string tx)).alloc (Obj.cells #[Value.string nm, Value.string tx, Value.slice sp sn sc] 58)) w.heap.size 43 [.string nm, .string tx] := ((HB.out.2.set 0 _).set 1 _).alloc _
  have hbel : Below w.heap.size w (((w1.setCell ⟨w.heap.size, 0, none⟩ (Value.string nm)).setCell ⟨w.heap.size, 1, none⟩ (Value.string tx)).alloc (Obj.cells #[Value.string nm, Value.string tx, Value.slice sp sn sc] 58)) :=
    ((HB.out.1.setCell (Nat.le_refl _) _).setCell (Nat.le_refl _) _).alloc (by simp only [World.size_setCell]; exact HB.out.1.size) _
  have e0 := hk2.cell (i := 0) (u := .string nm) rfl
  have e1 := hk2.cell (i := 1) (u := .string tx) rfl
  refine bodyPost_ret (v := .tuple #[.agg #[.string nm, .string tx], .int .i64 0]) ?_ rfl ⟨rfl, hbel⟩
  generalize ((w1.setCell ⟨w.heap.size, 0, none⟩ (Value.string nm)).setCell ⟨w.heap.size, 1, none⟩ (Value.string tx)).alloc (Obj.cells #[Value.string nm, Value.string tx, Value.slice sp sn sc] 58) = W at *
  simp [results, Tryz.results10, go_sem, e0, e1]
theorem get_out {w : World} {bt ps} (h : Tab w bt ps) (n : Int) (hn : n < 1 ∨ (ps.length : Int) < n) (hl : ps.length ≤ 100000) :
    Calls Tryz.prog 10 #[.pointer (some ⟨bt, 0, none⟩), .int .i64 n] w fun e w' => e = .returned (.tuple #[.agg #[.string { data := #[] }, .string { data := #[] }], .int .i64 21]) ∧ Below w.heap.size w w' := by
  have HO := fun w h => Lib.hid (one_out (w := w) (bt := bt) (ps := ps) h n hn hl)
  have hT : Hid (∀ o : Obj, Tab (w.alloc o) bt ps) := Lib.hid fun o => h.below ((Below.refl _ _).alloc (Nat.le_refl _) _)
  have HO := Lib.hid HO
  clear h hn hl
  go_enter Tryz.func10, Tryz.ntmps10
  go_wp2_with fail
  refine (HO.out _ (hT.out _)).out.mono ?_; rintro e w1 ⟨rfl, hb⟩
  have hsz := hb.size
  rw [World.size_alloc] at hsz
  have hk : Blk w1 w.heap.size 43 [.string { data := #[] }, .string { data := #[] }] := by
    have := hb.block w.heap.size (by rw [World.size_alloc]; omega)
    rw [heap_alloc_new] at this
    exact this
  have hb' : Below w.heap.size w w1 := ((Below.refl w.heap.size w).alloc (Nat.le_refl _) _).trans (hb.mono (by rw [World.size_alloc]; omega))
  have HB := Lib.hid (And.intro hb' hk)
  have hlt1 : w.heap.size < w1.heap.size := by omega
  have c0 := hk.cell (i := 0) (u := .string { data := #[] }) rfl
  have c1 := hk.cell (i := 1) (u := .string { data := #[] }) rfl
  have f0 := hk.frz 0
  have f1 := hk.frz 1
  clear hb hb' hk HO
  have hd : partV default = .agg #[.string { data := #[] }, .string { data := #[] }, .slice none 0 0] := rfl
  rw [hd]
  go_wp2_with fail
  have hk2 : Blk (((w1.setCell ⟨w.heap.size, 0, none⟩ (Value.string { data := #[] })).setCell ⟨w.heap.size, 1, none⟩ (Value.string { data := #[] })).alloc (Obj.cells #[Value.string { data := #[] }, Value.string { data := #[] }, Value.slice none 0 0] 58)) w.heap.size 43 [.string { data := #[] }, .string { data := #[] }] := ((HB.out.2.set 0 _).set 1 _).alloc _
  have hbel : Below w.heap.size w (((w1.setCell ⟨w.heap.size, 0, none⟩ (Value.string { data := #[] })).setCell ⟨w.heap.size, 1, none⟩ (Value.string { data := #[] })).alloc (Obj.cells #[Value.string { data := #[] }, Value.string { data := #[] }, Value.slice none 0 0] 58)) :=
    ((HB.out.1.setCell (Nat.le_refl _) _).setCell (Nat.le_refl _) _).alloc (by simp only [World.size_setCell]; exact HB.out.1.size) _
  have e0 := hk2.cell (i := 0) (u := .string { data := #[] }) rfl
  have e1 := hk2.cell (i := 1) (u := .string { data := #[] }) rfl
  refine bodyPost_ret (v := .tuple #[.agg #[.string { data := #[] }, .string { data := #[] }], .int .i64 21]) ?_ rfl ⟨rfl, hbel⟩
  generalize ((w1.setCell ⟨w.heap.size, 0, none⟩ (Value.string { data := #[] })).setCell ⟨w.heap.size, 1, none⟩ (Value.string { data := #[] })).alloc (Obj.cells #[Value.string { data := #[] }, Value.string { data := #[] }, Value.slice none 0 0] 58) = W at *
  simp [results, Tryz.results10, go_sem, e0, e1]
end Go.Proofs.YtcjfelndnnhgjaaGreatDoor
namespace Go.Proofs.YtcjfelndnnhgjaaGreatDoor
set_option linter.unusedVariables false
open Go.RowKit
theorem bounds_out (w : World) (nm tx : ByteArray) (sp : Option Addr) (sn sc : Nat) (n : Int) (hn : n < 1 ∨ (sn : Int) < n) (hs : sn ≤ 1000000) :
    Calls Tryz.prog 20 #[.agg #[.string nm, .string tx, .slice sp sn sc], .int .i64 n] w fun e w' => e = .returned (.tuple #[.int .i64 0, .int .i64 0, .int .i64 3]) ∧ Below w.heap.size w w' := by
  have hs' : (sn : Int) ≤ 1000000 := by omega
  go_enter Tryz.func20, Tryz.ntmps20
  rcases hn with hn | hn
  · go_wp2_with fail
    go_ret3
    exact ⟨rfl, (Below.refl _ _).alloc (Nat.le_refl _) _⟩
  · have hn1 : 1 ≤ n := by omega
    go_wp2_with fail
    go_ret3
    exact ⟨rfl, (Below.refl _ _).alloc (Nat.le_refl _) _⟩
/-- where line k + 1 ends -/
def endOf (L : List Int) (size : Nat) (k : Nat) : Int := if k + 1 = L.length then size else L.getD (k + 1) 0 - 1
set_option maxHeartbeats 1000000 in
theorem bounds_in (w : World) (nm tx : ByteArray) (sp : Option Addr) (sc : Nat) (L : List Int) (k : Nat) (hk : k < L.length) (hs : L.length ≤ 1000000) (hr : RO w (.slice sp L.length sc) 1 L.length (ints L))
    (htx : tx.size ≤ maxLen) (hLb : ∀ i, i < L.length → 0 ≤ L.getD i 0 ∧ L.getD i 0 ≤ 1000000) :
    Calls Tryz.prog 20 #[.agg #[.string nm, .string tx, .slice sp L.length sc], .int .i64 ((k : Int) + 1)] w fun e w' => e = .returned (.tuple #[.int .i64 (L.getD k 0), .int .i64 (endOf L tx.size k), .int .i64 0]) ∧ Below w.heap.size w w' := by
  unfold maxLen at htx
  have hs' : (L.length : Int) ≤ 1000000 := by omega
  have hki : (k : Int) < L.length := by omega
  obtain ⟨b, o, rfl⟩ := hr.sl (ints_at L k hk)
  have hc := hr.cell (ints_at L k hk)
  have hbl := World.block_lt_of_cell? _ _ hc
  by_cases hlast : k + 1 = L.length
  · have he : endOf L tx.size k = tx.size := by rw [endOf, if_pos hlast]
    have hla : (k : Int) + 1 = L.length := by omega
    have HE := Lib.hid he
    generalize L.getD k 0 = X at *
    clear hr hLb he hlast
    have hla1 : ((k : Int) + 1 == L.length) = true := by simp; omega
    have hla2 : decide ((L.length : Int) < (k : Int) + 1) = false := by simp; omega
    have hla3 : (k : Int) + 1 ≤ L.length := by omega
    clear hla hk
    go_enter Tryz.func20, Tryz.ntmps20
    go_wp2_with fail
    go_quiet (fail)
    go_wp2_with fail
    go_ret3
    exact ⟨by rw [HE.out]; rfl, ((Below.refl _ _).alloc (Nat.le_refl _) _).trans (below_drewN _)⟩
  · have he : endOf L tx.size k = L.getD (k + 1) 0 - 1 := by rw [endOf, if_neg hlast]
    have hla : (k : Int) + 1 < L.length := by omega
    have hne : ((k : Int) + 1 == L.length) = false := by simp; omega
    have HE := Lib.hid he
    have hc2 := hr.cell (ints_at L (k + 1) (by omega))
    have hc3 := hc2
    rw [← Nat.add_assoc] at hc3
    have hY := hLb (k + 1) (by omega)
    generalize L.getD k 0 = X at *
    generalize L.getD (k + 1) 0 = Y at *
    obtain ⟨hY0, hY1⟩ := hY
    clear hr hLb he hlast
    go_enter Tryz.func20, Tryz.ntmps20
    go_wp2_with fail
    go_quiet (fail)
    go_wp2_with fail
    go_ret3
    exact ⟨by rw [HE.out]; rfl, ((Below.refl _ _).alloc (Nat.le_refl _) _).trans (below_drewN _)⟩
end Go.Proofs.YtcjfelndnnhgjaaGreatDoor
namespace Go.Proofs.YtcjfelndnnhgjaaGreatDoor
set_option linter.unusedVariables false
open Go.RowKit
theorem RO.count {w : World} {p : Option Addr} {n c size n' : Nat} {cs} (h : RO w (.slice p n c) size n' cs) : n = n' := by
  obtain ⟨_, p', c', e, _⟩ := h
  simp only [Value.slice.injEq] at e
  exact e.2.1
/-- what is known of a part: its starts, and their bounds -/
structure Known (w : World) (P : Part) (L : List Int) : Prop where
  ro : RO w P.st 1 L.length (ints L)
  len : L.length ≤ 1000000
  tx : P.text.size ≤ 1000000
  bd : ∀ i, i < L.length → 0 ≤ L.getD i 0 ∧ L.getD i 0 ≤ endOf L P.text.size i ∧ endOf L P.text.size i ≤ P.text.size
theorem Known.below {w w' P L} (h : Known w P L) (hb : Below w.heap.size w w') : Known w' P L := ⟨h.ro.below hb, h.len, h.tx, h.bd⟩
end Go.Proofs.YtcjfelndnnhgjaaGreatDoor
namespace Go.Proofs.YtcjfelndnnhgjaaGreatDoor
set_option linter.unusedVariables false
open Go.RowKit
/-- a block made in w, behind what keeps the blocks of w.alloc o -/
theorem kept_new {w w1 : World} {t : TypeId} {l : List Value} (hb : Below (w.alloc (.cells l.toArray t)).heap.size (w.alloc (.cells l.toArray t)) w1) : Blk w1 w.heap.size t l ∧ Below w.heap.size w w1 ∧ w.heap.size < w1.heap.size := by
  refine ⟨(Blk.new t l).below hb (by rw [World.size_alloc]; omega), ((Below.refl w.heap.size w).alloc (Nat.le_refl _) _).trans (hb.mono (by rw [World.size_alloc]; omega)), ?_⟩
  have := hb.size
  rw [World.size_alloc] at this; omega
theorem offset_nofile {w : World} {bt ps} (h : Tab w bt ps) (f l c : Int) (hn : f < 1 ∨ (ps.length : Int) < f) (hl : ps.length ≤ 100000) :
    Calls Tryz.prog 9 #[.pointer (some ⟨bt, 0, none⟩), .agg #[.int .i64 f, .int .i64 l, .int .i64 c]] w fun e w' => e = .returned (.tuple #[.int .i64 0, .int .i64 21]) ∧ Below w.heap.size w w' := by
  have HO := Lib.hid (fun o => one_out (h.below ((Below.refl w.heap.size w).alloc (Nat.le_refl _) o)) f hn hl)
  clear h hn hl
  go_enter Tryz.func9, Tryz.ntmps9
  go_wp2_with fail
  refine (HO.out _).mono ?_; rintro e w1 ⟨rfl, hb⟩
  obtain ⟨_, hb1, _⟩ := kept_new (l := [.int .i64 f, .int .i64 l, .int .i64 c]) hb
  have HB := Lib.hid hb1
  clear hb hb1
  have hd : partV default = .agg #[.string { data := #[] }, .string { data := #[] }, .slice none 0 0] := rfl
  rw [hd]
  go_wp2_with fail
  go_ret2
  exact ⟨rfl, HB.out.alloc HB.out.size _⟩
set_option maxHeartbeats 1000000 in
theorem offset_noline {w : World} {bt ps} (h : Tab w bt ps) (n : Nat) (l c : Int) (hn : n < ps.length) (hl : ps.length ≤ 100000) {L : List Int} (hK : Known w (ps.getD n default) L) (hm : l < 1 ∨ (L.length : Int) < l) :
    Calls Tryz.prog 9 #[.pointer (some ⟨bt, 0, none⟩), .agg #[.int .i64 ((n : Int) + 1), .int .i64 l, .int .i64 c]] w fun e w' => e = .returned (.tuple #[.int .i64 0, .int .i64 3]) ∧ Below w.heap.size w w' := by
  have HO := Lib.hid (fun o => one_in (h.below ((Below.refl w.heap.size w).alloc (Nat.le_refl _) o)) n hn hl)
  generalize ps.getD n default = P at *
  obtain ⟨nm, tx, sp, sn, sc⟩ := P
  have hsn : sn = L.length := hK.ro.count
  subst hsn
  have HB : Hid (∀ w, Calls Tryz.prog 20 #[.agg #[.string nm, .string tx, .slice sp L.length sc], .int .i64 l] w fun e w' => e = .returned (.tuple #[.int .i64 0, .int .i64 0, .int .i64 3]) ∧ Below w.heap.size w w') := Lib.hid fun w => bounds_out w nm tx sp L.length sc l hm hK.len
  clear h hn hl hK hm
  go_enter Tryz.func9, Tryz.ntmps9
  go_wp2_with fail
  refine (HO.out _).mono ?_; rintro e w1 ⟨rfl, hb⟩
  obtain ⟨hk, hb1, hlt⟩ := kept_new (l := [.int .i64 ((n : Int) + 1), .int .i64 l, .int .i64 c]) hb
  have HB1 := Lib.hid hb1
  have c1 := hk.cell (i := 1) (u := .int .i64 l) rfl
  have c2 := hk.cell (i := 2) (u := .int .i64 c) rfl
  clear hb hb1 hk
  dsimp only [partV, Part.st]
  go_wp2_with fail
  refine (HB.out _).mono ?_; rintro e w2 ⟨rfl, hb⟩
  have HB2 := Lib.hid (Below.then (HB1.out.alloc HB1.out.size _) hb (Nat.le_refl _))
  clear hb
  go_wp2_with fail
  go_ret2
  exact ⟨rfl, HB2.out⟩
/-- a column of line k + 1 -/
def colOk (L : List Int) (size k : Nat) (c : Int) : Prop := 1 ≤ c ∧ c ≤ 1 + endOf L size k - L.getD k 0
set_option maxHeartbeats 2000000 in
theorem offset_at {w : World} {bt ps} (h : Tab w bt ps) (n k : Nat) (c : Int) (hn : n < ps.length) (hl : ps.length ≤ 100000) {L : List Int} (hK : Known w (ps.getD n default) L) (hk : k < L.length) (hcb : -9223372036854775808 ≤ c ∧ c ≤ 9223372036854775807) :
    Calls Tryz.prog 9 #[.pointer (some ⟨bt, 0, none⟩), .agg #[.int .i64 ((n : Int) + 1), .int .i64 ((k : Int) + 1), .int .i64 c]] w fun e w' =>
      (colOk L (ps.getD n default).text.size k c ∧ e = .returned (.tuple #[.int .i64 (L.getD k 0 + c - 1), .int .i64 0]) ∨ ¬ colOk L (ps.getD n default).text.size k c ∧ e = .returned (.tuple #[.int .i64 0, .int .i64 3])) ∧ Below w.heap.size w w' := by
  have HO := Lib.hid (fun o => one_in (h.below ((Below.refl w.heap.size w).alloc (Nat.le_refl _) o)) n hn hl)
  generalize ps.getD n default = P at *
  obtain ⟨nm, tx, sp, sn, sc⟩ := P
  have hsn : sn = L.length := hK.ro.count
  subst hsn
  have hbd := hK.bd k hk
  have htx := hK.tx
  have HB : Hid (∀ w', Below w.heap.size w w' → Calls Tryz.prog 20 #[.agg #[.string nm, .string tx, .slice sp L.length sc], .int .i64 ((k : Int) + 1)] w' fun e w'' => e = .returned (.tuple #[.int .i64 (L.getD k 0), .int .i64 (endOf L tx.size k), .int .i64 0]) ∧ Below w'.heap.size w' w'') :=
    Lib.hid fun w' hb => bounds_in w' nm tx sp sc L k hk hK.len (hK.ro.below hb) (by have := hK.tx; simp only [maxLen]; dsimp only at this; omega) (fun i hi => by have := hK.bd i hi; have := hK.tx; dsimp only at *; omega)
  dsimp only at hbd htx ⊢
  unfold colOk
  generalize L.getD k 0 = X at *
  generalize endOf L tx.size k = Y at *
  obtain ⟨h0, h1, h2⟩ := hbd
  obtain ⟨hc0, hc1⟩ := hcb
  have htx' : (tx.size : Int) ≤ 1000000 := by omega
  clear h hn hl hK hk htx
  go_enter Tryz.func9, Tryz.ntmps9
  go_wp2_with fail
  refine (HO.out _).mono ?_; rintro e w1 ⟨rfl, hb⟩
  obtain ⟨hk, hb1, hlt⟩ := kept_new (l := [.int .i64 ((n : Int) + 1), .int .i64 ((k : Int) + 1), .int .i64 c]) hb
  have HB1 := Lib.hid hb1
  have c1 := hk.cell (i := 1) (u := .int .i64 ((k : Int) + 1)) rfl
  have c2 := hk.cell (i := 2) (u := .int .i64 c) rfl
  have HK := Lib.hid hk
  clear hb hb1 hk
  dsimp only [partV, Part.st]
  go_wp2_with fail
  refine (HB.out _ (HB1.out.alloc HB1.out.size _)).mono ?_; rintro e w2 ⟨rfl, hb⟩
  have hk2 := (HK.out.alloc (Obj.cells #[Value.string nm, Value.string tx, Value.slice sp L.length sc] 58)).below hb (by rw [World.size_alloc]; omega)
  have d2 := hk2.cell (i := 2) (u := .int .i64 c) rfl
  have HB2 := Lib.hid (Below.then (HB1.out.alloc HB1.out.size _) hb (Nat.le_refl _))
  clear hb hk2 c1 c2
  by_cases g1 : 1 ≤ c
  · by_cases g2 : c ≤ 1 + Y - X
    · go_wp2_with fail
      go_ret2
      exact ⟨.inl ⟨⟨g1, g2⟩, rfl⟩, HB2.out⟩
    · have g2' : 1 + Y - X < c := by omega
      have G2 := Lib.hid g2
      clear g2
      go_wp2_with fail
      go_ret2
      exact ⟨.inr ⟨fun h => by have := G2.out; have := h.2; omega, rfl⟩, HB2.out⟩
  · have g1' : c < 1 := by omega
    have G1 := Lib.hid g1
    clear g1
    go_wp2_with fail
    go_ret2
    exact ⟨.inr ⟨fun h => by have := G1.out; have := h.1; omega, rfl⟩, HB2.out⟩
end Go.Proofs.YtcjfelndnnhgjaaGreatDoor
namespace Go.Proofs.YtcjfelndnnhgjaaGreatDoor
set_option linter.unusedVariables false
open Go.RowKit
theorem snan_any (a : Int) (w : World) : Calls Tryz.prog 58 #[.int .i64 a] w fun e w' => e = .returned (.bool false) ∧ w = w' := by
  go_enter Tryz.func58, Tryz.ntmps58
  go_wp2_with fail
  go_ret
  exact ⟨by simp, rfl⟩
theorem less_int (a b : Int) (w : World) : Calls Tryz.prog 57 #[.int .i64 a, .int .i64 b] w fun e w' => e = .returned (.bool (decide (a < b))) ∧ w = w' := by
  have HA := Lib.hid (nan_any a w)
  have HB := Lib.hid (nan_any b w)
  go_enter Tryz.func57, Tryz.ntmps57
  go_wp2_with fail
  refine HA.out.mono ?_; rintro e w' ⟨rfl, rfl⟩
  go_wp2_with fail
  go_ret
  exact ⟨rfl, rfl⟩
/-- where t belongs -/
structure Lower (L : List Int) (t : Int) (i : Nat) : Prop where
  le : i ≤ L.length
  lo : ∀ a, a < i → L.getD a 0 < t
  hi : ∀ a, i ≤ a → a < L.length → t ≤ L.getD a 0
def foundB (L : List Int) (t : Int) (i : Nat) : Bool := decide (i < L.length ∧ L.getD i 0 = t)
set_option maxHeartbeats 2000000 in
theorem search_any (w : World) (v : Value) (L : List Int) (t : Int) (hv : RO w v 1 L.length (ints L)) (hl : L.length ≤ 1000000) (hs : ∀ a b, a ≤ b → b < L.length → L.getD a 0 ≤ L.getD b 0) :
    Calls Tryz.prog 40 #[v, .int .i64 t] w fun e w' => ∃ i, Lower L t i ∧ e = .returned (.tuple #[.int .i64 i, .bool (foundB L t i)]) ∧ w = w' := by
  obtain ⟨p, c, rfl⟩ := hv.form
  have hl' : (L.length : Int) ≤ 1000000 := by omega
  have H := Lib.hid (And.intro hv hs)
  clear hv hs hl
  go_enter Tryz.func40, Tryz.ntmps40
  go_wp2_with fail
  go_loop [7, 8] (fun i j => ∃ a b : Nat, a ≤ b ∧ b ≤ L.length ∧ i = .int .i64 a ∧ j = .int .i64 b ∧ (∀ x, x < a → L.getD x 0 < t) ∧ (∀ x, b ≤ x → x < L.length → t ≤ L.getD x 0)) (fun i j => (intOf j).toNat - (intOf i).toNat)
  case atStart => exact ⟨0, L.length, Nat.zero_le _, Nat.le_refl _, rfl, rfl, fun x hx => absurd hx (Nat.not_lt_zero _), fun x h1 h2 => absurd h2 (by omega)⟩
  case round =>
    obtain ⟨a, b, hab, hb, rfl, rfl, hlo, hhi⟩ := hrel
    have HR := Lib.hid (And.intro hlo hhi)
    clear hlo hhi
    by_cases hlt : a < b
    · have hm : (a + b) / 2 < L.length := by omega
      obtain ⟨bb, o, rfl⟩ := H.out.1.sl (ints_at L _ hm)
      have hc := H.out.1.cell (ints_at L _ hm)
      have hai : (a : Int) < b := by omega
      obtain ⟨X, hX⟩ : ∃ X, L.getD ((a + b) / 2) 0 = X := ⟨_, rfl⟩
      rw [hX] at hc
      have HX := Lib.hid hX
      have HL := Lib.hid (less_int X t w)
      clear hX
      go_wp2_with fail
      refine HL.out.mono ?_; rintro e w' ⟨rfl, rfl⟩
      by_cases hXt : X < t
      · have HT := Lib.hid hXt
        go_wp2_with fail
        go_round
        case rel =>
          refine ⟨(a + b) / 2 + 1, b, by omega, hb, congrArg (Value.int .i64) (by omega), rfl, fun x hx => ?_, HR.out.2⟩
          have := H.out.2 x ((a + b) / 2) (by omega) hm
          have := HX.out; have := HT.out; omega
        case measure => simp [intOf]; omega
      · have hXt' : t ≤ X := by omega
        have HT := Lib.hid hXt'
        clear hXt
        go_wp2_with fail
        go_round
        case rel =>
          refine ⟨a, (a + b) / 2, by omega, by omega, rfl, congrArg (Value.int .i64) (by omega), HR.out.1, fun x hx hxl => ?_⟩
          have := H.out.2 ((a + b) / 2) x hx hxl
          have := HX.out; have := HT.out; omega
        case measure => simp [intOf]; omega
    · obtain rfl : a = b := by omega
      have HLow : Hid (Lower L t a) := Lib.hid ⟨hb, HR.out.1, HR.out.2⟩
      clear hlt hab
      by_cases hin : a < L.length
      · obtain ⟨bb, o, rfl⟩ := H.out.1.sl (ints_at L _ hin)
        have hc := H.out.1.cell (ints_at L _ hin)
        obtain ⟨X, hX⟩ : ∃ X, L.getD a 0 = X := ⟨_, rfl⟩
        rw [hX] at hc
        have HX := Lib.hid (And.intro hX hin)
        have hin' : (a : Int) < L.length := by omega
        have HN := Lib.hid (snan_any X w)
        clear hX hb
        by_cases hXt : X = t
        · subst hXt
          go_wp2_with fail
          go_ret2
          exact ⟨a, HLow.out, congrArg (fun b => Ending.returned (Value.tuple #[.int .i64 a, .bool b])) (decide_eq_true (p := a < L.length ∧ L.getD a 0 = X) ⟨HX.out.2, HX.out.1⟩).symm, rfl⟩
        · have hd : (X == t) = false := by simp [hXt]
          have HT := Lib.hid hd
          clear hXt
          go_wp2_with fail
          refine HN.out.mono ?_; rintro e w' ⟨rfl, rfl⟩
          go_wp2_with fail
          go_ret2
          exact ⟨a, HLow.out, congrArg (fun b => Ending.returned (Value.tuple #[.int .i64 a, .bool b])) (decide_eq_false (p := a < L.length ∧ L.getD a 0 = t) (fun h => by have h1 := HT.out; have h2 := HX.out.1; have h3 := h.2; rw [← h2, h3] at h1; simp at h1)).symm, rfl⟩
      · have hin' : (L.length : Int) ≤ a := by omega
        have HX := Lib.hid hin
        clear hin hb
        go_wp2_with fail
        go_ret2
        exact ⟨a, HLow.out, congrArg (fun b => Ending.returned (Value.tuple #[.int .i64 a, .bool b])) (decide_eq_false (p := a < L.length ∧ L.getD a 0 = t) (fun h => by have := h.1; omega)).symm, rfl⟩
end Go.Proofs.YtcjfelndnnhgjaaGreatDoor
