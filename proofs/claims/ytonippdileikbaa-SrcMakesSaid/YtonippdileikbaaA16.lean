import Derived.Test.YtonippdileikbaaA13
import Derived.Test.YtonippdileikbaaA14
import Derived.Test.YtonippdileikbaaA15
import Derived.Deep.RegionLaw
namespace Go.Proofs.Ytonippdileikbaa
set_option linter.unusedVariables false
open Go.RowKit

theorem step_app {P : Program} {w : World} {ops : Array Oper} {o : Oper} {a : Act} {K : Act → World → Prop} {Q : Exit → Act → World → Prop} {E : Prop} (hgd : o.guard = none) (s x : Operand) (t : TypeId)
    (ho : o.op = .call { callee := .builtin .append, args := #[s, x], argTypes := #[t, t] })
    {e size bytes : Nat} {z : Value} (T : SlTy P t e size bytes z) (base : Nat)
    (v : Value) (n : Nat) (xs : List Value) (hs : a.eval s = v) (hown : w.ownsRow base e size v n xs)
    (b m c : Nat) (news : List Value) (hx : a.eval x = .slice (some ⟨b, 0, none⟩) m c) (cs : Array Value) (hb : w.heap[b]? = some (.cells cs e (0, 0))) (hcs : cs.toList = news) (hl : news.length = m * size) (h1 : ∀ u ∈ news, u.oneCell' = true)
    (hm : 0 < m) (hbytes : (n + m) * bytes ≤ 140737488355328) (h63 : n + m ≤ 140737488355328) (hbase : base ≤ w.heap.size)
    (h : ∀ g cap w', App base e size w v n m (xs ++ news) g cap w' → K (a.put o.dst (.slice (some ⟨g, 0, none⟩) (n + m) cap)) w') : if Region.wanted o (yielded ops a.tmps) = true then Oper.wp P o a w K Q else E := by
  obtain ⟨i, hi, hz, hsz, hby⟩ := T.i
  exact step_append_lies w hgd s x t ho base e i z size bytes T.u hi hz hsz hby T.zs T.sz v n xs hs hown ⟨b, 0, none⟩ m c news hx hl (seg_row hb hcs) h1 hm (by simp only [maxLen]; omega) hbytes hbase _ rfl
    fun g cap w' h2 h3 h4 h5 => h g cap w' ⟨h2, h3, h4, h5⟩

def partOf (f : Fil) : Part := ⟨f.name, f.text, none, 0, 0⟩
def rawParts (fs : List Fil) : List Part := fs.map partOf
theorem partCells_snoc (ps : List Part) (p : Part) : partCells (ps ++ [p]) = partCells ps ++ [.string p.name, .string p.text, p.st] := by simp [partCells]
theorem partCells_length (ps : List Part) : (partCells ps).length = ps.length * 3 := flatMap_len _ 3 (fun _ => rfl) ps
def total (fs : List Fil) : Nat := (fs.map fun f => f.text.size).sum
def dupIn (fs : List Fil) (n : Nat) : Prop := ∃ i j, j < i ∧ i < n ∧ sameS (fs.getD j default).name (fs.getD i default).name = true
def badName (fs : List Fil) : Prop := ∃ i, i < fs.length ∧ isName (fs.getD i default).name = false
/-- the error that New gives -/
def NewErr (fs : List Fil) (e : Int) : Prop :=
  (16 < fs.length ∧ e = 19) ∨ (fs.length ≤ 16 ∧ badName fs ∧ e = 9) ∨ (fs.length ≤ 16 ∧ ¬ badName fs ∧ dupIn fs fs.length ∧ e = 10) ∨
  (fs.length ≤ 16 ∧ ¬ badName fs ∧ ¬ dupIn fs fs.length ∧ 32768 < total fs ∧ e = 4) ∨ (fs.length ≤ 16 ∧ ¬ badName fs ∧ ¬ dupIn fs fs.length ∧ total fs ≤ 32768 ∧ e = 0)
theorem NewErr.one {fs : List Fil} {e e' : Int} (h : NewErr fs e) (h' : NewErr fs e') : e = e' := by
  unfold NewErr at h h'
  by_cases a : fs.length ≤ 16
  · by_cases b : badName fs
    · simp [a, b, Nat.not_lt.2 a] at h h'; omega
    · by_cases c : dupIn fs fs.length
      · simp [a, b, c, Nat.not_lt.2 a] at h h'; omega
      · simp [a, b, c, Nat.not_lt.2 a] at h h'; omega
  · simp [a] at h h'; omega
theorem total_take (fs : List Fil) (k : Nat) (h : k < fs.length) : total (fs.take (k + 1)) = total (fs.take k) + (fs.getD k default).text.size := by
  rw [List.take_succ_eq_append_getElem h, total, total, List.map_append, List.sum_append, List.getD, List.getElem?_eq_getElem h]; simp
theorem text_le (fs : List Fil) (k : Nat) (h : k < fs.length) : (fs.getD k default).text.size ≤ total fs := by
  induction fs generalizing k with
  | nil => simp at h
  | cons f fs ih =>
    cases k with
    | zero => simp [total]
    | succ k =>
      have := ih k (by simpa using h)
      simp only [total, List.map_cons, List.sum_cons, List.getD_cons_succ] at *
      omega
theorem raw_take (fs : List Fil) (k : Nat) (h : k < fs.length) : rawParts (fs.take (k + 1)) = rawParts (fs.take k) ++ [partOf (fs.getD k default)] := by
  rw [List.take_succ_eq_append_getElem h, rawParts, rawParts, List.map_append, List.getD, List.getElem?_eq_getElem h]; rfl
theorem raw_len (fs : List Fil) (k : Nat) (h : k ≤ fs.length) : (rawParts (fs.take k)).length = k := by simp [rawParts]; omega
theorem raw_get (fs : List Fil) (k j : Nat) (h : k ≤ fs.length) (hj : j < k) : (rawParts (fs.take k)).getD j default = partOf (fs.getD j default) := by
  rw [List.getD, List.getD, rawParts, List.getElem?_map, List.getElem?_take_of_lt hj, List.getElem?_eq_getElem (by omega)]; rfl

/-- the table that holds the parts ps, behind which nothing of before has changed -/
structure TabOwn (B bt : Nat) (v : Value) (ps : List Part) (w : World) : Prop where
  blk : Blk w bt 62 [v]
  own : w.ownsRow B 65 3 v ps.length (partCells ps)
  ne : v.ownBlock ≠ some bt
theorem TabOwn.tab {B bt v ps w} (h : TabOwn B bt v ps w) : Tab w bt ps := ⟨v, h.blk.cell (i := 0) rfl, RO.own h.own⟩
theorem TabOwn.below {B bt v ps w w'} (h : TabOwn B bt v ps w) (hb : Below w.heap.size w w') : TabOwn B bt v ps w' := ⟨h.blk.below hb h.blk.lt, ownsRow_below h.own hb, h.ne⟩

/-- what New's first loop has done behind k files -/
structure New1 (w : World) (B bt : Nat) (fs : List Fil) (k : Nat) (wr : World) : Prop where
  tab : ∃ v, TabOwn B bt v (rawParts (fs.take k)) wr
  bel : Below B w wr
  lt : B ≤ bt
  nodup : ∀ i j, j < i → i < k → sameS (fs.getD j default).name (fs.getD i default).name = false

theorem Try.info65 : (Try.prog.info? 65).map (fun i => (i.zero, i.size, i.bytes)) = some (some (.agg #[.string { data := #[] }, .string { data := #[] }, .slice none 0 0]), 3, 56) := by kernel_rfl
theorem Try.T60 : SlTy Try.prog 60 65 3 56 (.agg #[.string { data := #[] }, .string { data := #[] }, .slice none 0 0]) := SlTy.of Try.underlying60 Try.info65 rfl (by decide)

theorem New1.step {w w2 w3 : World} {B bt : Nat} {fs : List Fil} {k : Nat} {u : Value} {nm tx : ByteArray} {g cap : Nat} (hk : k < fs.length) (hP : fs.getD k default = ⟨nm, tx⟩)
    (hT : TabOwn B bt u (rawParts (fs.take k)) w2) (hb : Below B w w2) (hBt : B ≤ bt) (hnd : ∀ i j, j < i → i < k → sameS (fs.getD j default).name (fs.getD i default).name = false)
    (hnk : ∀ j, j < k → sameS ((rawParts (fs.take k)).getD j default).name nm = false)
    (happ : App B 65 3 (w2.alloc (Obj.cells #[.string nm, .string tx, .slice none 0 0] 65)).drew u k 1 (partCells (rawParts (fs.take k)) ++ [.string nm, .string tx, .slice none 0 0]) g cap w3) :
    New1 w B bt fs (k + 1) (w3.setCell ⟨bt, 0, none⟩ (.slice (some ⟨g, 0, none⟩) (k + 1) cap)) := by
  have hbt := hT.blk.lt
  have hBw : B ≤ w2.heap.size := by omega
  have e3 : w3.heap[bt]? = w2.heap[bt]? := (happ.old (by show bt < (w2.alloc _).heap.size; rw [World.size_alloc]; omega) hT.ne).trans (heap_alloc_old _ _ hbt)
  have hg : g ≠ bt := by
    rcases happ.at_ with h | h
    · intro e; exact hT.ne (e ▸ h)
    · rw [h]; show (w2.alloc _).heap.size ≠ bt; rw [World.size_alloc]; omega
  have hb3 : Below B w w3 := happ.below (hb.alloc hBw _).drew (by show B ≤ (w2.alloc _).heap.size; rw [World.size_alloc]; omega) (fun j hj => (hT.own.lt j hj).1)
  refine ⟨⟨.slice (some ⟨g, 0, none⟩) (k + 1) cap, ?_, ?_, ?_⟩, hb3.setCell hBt _, hBt, ?_⟩
  · have hk3 : Blk w3 bt 62 [u] := by unfold Blk; rw [e3]; exact hT.blk
    exact hk3.set 0 _
  · rw [raw_len fs (k + 1) (by omega), raw_take fs k hk, partCells_snoc, hP]
    exact ownsRow_keep happ.own fun j hj => by
      have : j = g := by simpa [Value.ownBlock, eq_comm] using hj
      subst this
      exact Below.heap_setCell _ _ _ _ hg
  · simp only [Value.ownBlock]; intro e; exact hg (by simpa using e)
  · intro i j hj hi
    rcases Nat.lt_or_ge i k with h | h
    · exact hnd i j hj h
    · obtain rfl : i = k := by omega
      have := hnk j hj
      rw [raw_get fs i j (by omega) hj] at this
      rw [hP]; exact this

theorem ownsRow_setIn {w : World} {base e size n g cap : Nat} {xs : List Value} (h : w.ownsRow base e size (.slice (some ⟨g, 0, none⟩) n cap) n xs) (j : Nat) (hj : j < xs.length) (u : Value) :
    (w.setCell ⟨g, j, none⟩ u).ownsRow base e size (.slice (some ⟨g, 0, none⟩) n cap) n (xs.set j u) := by
  obtain ⟨h1, h2⟩ := h
  rcases h2 with ⟨h2, _⟩ | ⟨g', cap', cur, h2, h3, h4, h5, h6, h7, h8⟩
  · cases h2
  · simp only [Value.slice.injEq, Option.some.injEq, Addr.mk.injEq, and_true, true_and] at h2
    obtain ⟨rfl, rfl⟩ := h2
    refine ⟨by simpa using h1, .inr ⟨g, cap, cur.setIfInBounds j u, rfl, h3, ?_, h5, h6, by simpa using h7, ?_⟩⟩
    · simp [World.setCell, Array.getElem?_modify, h4]
    · rw [Array.toList_setIfInBounds, ← h8, List.take_set]
theorem ownsRow_setCell_far {w : World} {base e size n : Nat} {v : Value} {xs : List Value} (h : w.ownsRow base e size v n xs) {a : Addr} (ha : v.ownBlock ≠ some a.block) (u : Value) : (w.setCell a u).ownsRow base e size v n xs :=
  ownsRow_keep h fun k hk => Below.heap_setCell _ _ _ _ (fun e => ha (e ▸ hk))

theorem partCells_set (ps : List Part) (k : Nat) (p' : Part) (h : k < ps.length) (hn : p'.name = (ps.getD k default).name) (ht : p'.text = (ps.getD k default).text) : (partCells ps).set (k * 3 + 2) p'.st = partCells (ps.set k p') := by
  induction ps generalizing k with
  | nil => simp at h
  | cons q ps ih =>
    cases k with
    | zero =>
      simp only [List.getD_cons_zero] at hn ht
      simp [partCells, hn, ht]
    | succ k =>
      simp only [List.getD_cons_succ] at hn ht
      have := ih k (by simpa using h) hn ht
      simp only [partCells, List.flatMap_cons, List.set_cons_succ] at *
      rw [show (k + 1) * 3 + 2 = (k * 3 + 2) + 1 + 1 + 1 by omega, ← this]
      simp only [List.cons_append, List.nil_append, List.set_cons_succ]
theorem getD_set (ps : List Part) (k i : Nat) (p' : Part) (h : k < ps.length) : (ps.set k p').getD i default = if i = k then p' else ps.getD i default := by
  simp only [List.getD, List.getElem?_set]
  by_cases e : k = i
  · subst e; simp [h]
  · simp [e, Ne.symm e]

/-- what New's second loop has done behind k files -/
structure New2 (w : World) (B bt : Nat) (v : Value) (fs : List Fil) (k : Nat) (wr : World) : Prop where
  bel : Below B w wr
  lt : B ≤ bt
  ex : ∃ ps, TabOwn B bt v ps wr ∧ ps.length = fs.length ∧ (∀ i, i < fs.length → (ps.getD i default).name = (fs.getD i default).name ∧ (ps.getD i default).text = (fs.getD i default).text) ∧
    ∀ i, i < k → wr.ownsRow B 3 1 (ps.getD i default).st (starts (fs.getD i default).text).length (ints (starts (fs.getD i default).text)) ∧ (ps.getD i default).st.ownBlock ≠ some bt ∧ ((ps.getD i default).st.ownBlock = v.ownBlock → v.ownBlock = none)

theorem New2.start {w wr : World} {B bt : Nat} {v : Value} {fs : List Fil} (hb : Below B w wr) (hBt : B ≤ bt) (hT : TabOwn B bt v (rawParts fs) wr) : New2 w B bt v fs 0 wr := by
  refine ⟨hb, hBt, rawParts fs, hT, by simp [rawParts], fun i hi => ?_, fun i hi => absurd hi (Nat.not_lt_zero _)⟩
  have := raw_get fs fs.length i (Nat.le_refl _) hi
  rw [List.take_length] at this
  rw [this]; exact ⟨rfl, rfl⟩

theorem st_of {w : World} {base n : Nat} {v : Value} {xs : List Value} (h : w.ownsRow base 3 1 v n xs) (nm tx : ByteArray) : ∃ p c, v = .slice p n c ∧ (⟨nm, tx, p, n, c⟩ : Part).st = v := by
  obtain ⟨p, c, rfl⟩ := ownsRow_form h
  exact ⟨p, c, rfl, rfl⟩

theorem New2.step {w wr w3 : World} {B bt g cap k : Nat} {fs : List Fil} (hk : k < fs.length) (h : New2 w B bt (.slice (some ⟨g, 0, none⟩) fs.length cap) fs k wr) (hb : Below wr.heap.size wr w3) {sv : Value}
    (hs : w3.ownsRow wr.heap.size 3 1 sv (starts (fs.getD k default).text).length (ints (starts (fs.getD k default).text))) :
    New2 w B bt (.slice (some ⟨g, 0, none⟩) fs.length cap) fs (k + 1) (w3.setCell ⟨g, k * 3 + 2, none⟩ sv) := by
  obtain ⟨h1, h2, ps, hT, hl, hn, hst⟩ := h
  have hT3 := hT.below hb
  have hbt := hT.blk.lt
  have hg : g ≠ bt := fun e => hT.ne (by simp [Value.ownBlock, e])
  have hgl : B ≤ g ∧ g < wr.heap.size := hT.own.lt g rfl
  obtain ⟨p, c, hsv, hst'⟩ := st_of hs (fs.getD k default).name (fs.getD k default).text
  have hkp : k < ps.length := by omega
  obtain ⟨hnk, htk⟩ := hn k hk
  have hfar : ∀ j, sv.ownBlock = some j → wr.heap.size ≤ j := fun j hj => (hs.lt j hj).1
  refine ⟨(h1.trans (hb.mono (by omega))).setCell hgl.1 _, h2, ps.set k ⟨(fs.getD k default).name, (fs.getD k default).text, p, (starts (fs.getD k default).text).length, c⟩, ⟨?_, ?_, hT.ne⟩, by simpa using hl, fun i hi => ?_, fun i hi => ?_⟩
  · exact hT3.blk.other _ (Ne.symm hg)
  · rw [List.length_set, ← partCells_set ps k _ hkp hnk.symm htk.symm, hst']
    have hown : w3.ownsRow B 65 3 (.slice (some ⟨g, 0, none⟩) fs.length cap) fs.length (partCells ps) := by have := hT3.own; rwa [hl] at this
    rw [hl]
    exact ownsRow_setIn hown _ (by rw [partCells_length]; omega) _
  · rw [getD_set _ _ _ _ hkp]
    split
    · rename_i e; subst e; exact ⟨rfl, rfl⟩
    · exact hn i hi
  · rw [getD_set _ _ _ _ hkp]
    split
    · rename_i e
      subst e
      have hne : sv.ownBlock ≠ some g := fun e => by have := hfar g e; omega
      rw [hst']
      refine ⟨?_, fun e => by have := hfar bt e; omega, fun e => absurd e hne⟩
      have hs' := ownsRow_setCell_far hs (a := ⟨g, i * 3 + 2, none⟩) hne sv
      refine ⟨hs'.1, hs'.2.imp id fun ⟨g', c', cu, e1, e2, e3⟩ => ⟨g', c', cu, e1, by omega, e3⟩⟩
    · obtain ⟨a1, a2, a3⟩ := hst i (by omega)
      refine ⟨ownsRow_setCell_far (ownsRow_below a1 hb) (fun e => ?_) _, a2, a3⟩
      have := a3 e
      simp [Value.ownBlock] at this

/-- what the table holds lies from block B on -/
def Far (B : Nat) (w : World) (bt : Nat) (ps : List Part) : Prop :=
  B ≤ bt ∧ (∃ v, w.cell? ⟨bt, 0, none⟩ = some v ∧ ∀ k, v.ownBlock = some k → B ≤ k) ∧ ∀ i, i < ps.length → ∀ k, (ps.getD i default).st.ownBlock = some k → B ≤ k

def NewPost (w : World) (fs : List Fil) (e : Ending) (w' : World) : Prop :=
  ∃ err p, NewErr fs err ∧ e = .returned (.tuple #[.pointer p, .int .i64 err]) ∧ Below w.heap.size w w' ∧ (err ≠ 0 → p = none) ∧
    (err = 0 → ∃ bt ps, p = some ⟨bt, 0, none⟩ ∧ Tab w' bt ps ∧ ps.length = fs.length ∧ Far w.heap.size w' bt ps ∧ ∀ i, i < fs.length → (ps.getD i default).name = (fs.getD i default).name ∧ (ps.getD i default).text = (fs.getD i default).text ∧ Known w' (ps.getD i default) (starts (fs.getD i default).text))

theorem getD_snoc (L : List Int) (a : Int) (i : Nat) : (L ++ [a]).getD i 0 = if i < L.length then L.getD i 0 else if i = L.length then a else 0 := by
  simp only [List.getD]
  by_cases h : i < L.length
  · rw [List.getElem?_append_left h, if_pos h]
  · rw [List.getElem?_append_right (by omega), if_neg h]
    by_cases e : i = L.length
    · subst e; simp
    · rw [if_neg e, List.getElem?_eq_none (by simp; omega)]; rfl
theorem stTo_facts (l : List UInt8) : ∀ k, (∀ i, i < (stTo l k).length → 0 ≤ (stTo l k).getD i 0 ∧ (stTo l k).getD i 0 ≤ k) ∧ (∀ i j, i < j → j < (stTo l k).length → (stTo l k).getD i 0 < (stTo l k).getD j 0) ∧ (stTo l k).getD 0 0 = 0
  | 0 => ⟨fun i hi => by
      obtain rfl : i = 0 := by simpa [stTo] using hi
      simp [stTo], fun i j hij hj => by simp [stTo] at hj; omega, rfl⟩
  | k + 1 => by
    obtain ⟨h1, h2, h3⟩ := stTo_facts l k
    have hlen := stTo_length l k
    rw [stTo_succ]
    split
    · refine ⟨fun i hi => ?_, fun i j hij hj => ?_, ?_⟩
      · rw [getD_snoc]
        split
        · rename_i h; have := h1 i h; omega
        · rw [if_pos (by simp at hi; omega)]; omega
      · rw [List.length_append] at hj
        rw [getD_snoc, getD_snoc, if_pos (by simp at hj; omega)]
        split
        · rename_i h; exact h2 i j hij h
        · rw [if_pos (by simp at hj; omega)]
          have := h1 i (by simp at hj; omega); omega
      · rw [getD_snoc, if_pos hlen.1, h3]
    · exact ⟨fun i hi => by have := h1 i hi; omega, h2, h3⟩
theorem starts_len (s : ByteArray) : 0 < (starts s).length ∧ (starts s).length ≤ s.size + 1 := stTo_length _ _
theorem known_of {w : World} {P : Part} {s : ByteArray} (ht : P.text = s) (hs : s.size ≤ 32768) (h : RO w P.st 1 (starts s).length (ints (starts s))) : Known w P (starts s) := by
  subst ht
  obtain ⟨h1, h2, h3⟩ := stTo_facts P.text.data.toList P.text.size
  have hl := starts_len P.text
  refine ⟨h, by omega, by omega, fun i hi => ⟨(h1 i hi).1, ?_, ?_⟩⟩
  · unfold endOf
    split
    · exact (h1 i hi).2
    · have := h2 i (i + 1) (by omega) (show i + 1 < (starts P.text).length by omega)
      show (stTo _ _).getD i 0 ≤ (stTo _ _).getD (i + 1) 0 - 1
      omega
  · unfold endOf
    split
    · exact Int.le_refl _
    · have := (h1 (i + 1) (show i + 1 < (starts P.text).length by omega)).2
      show (stTo _ _).getD (i + 1) 0 - 1 ≤ _
      omega
theorem ownsRow_mono {w : World} {base base' e size n : Nat} {v : Value} {xs : List Value} (h : w.ownsRow base e size v n xs) (hb : base' ≤ base) : w.ownsRow base' e size v n xs :=
  ⟨h.1, h.2.imp id fun ⟨g', c', cu, e1, e2, e3⟩ => ⟨g', c', cu, e1, by omega, e3⟩⟩
theorem New2.made {w wr : World} {B bt : Nat} {v : Value} {fs : List Fil} (h : New2 w B bt v fs fs.length wr) (htot : total fs ≤ 32768) :
    ∃ b ps, some (⟨bt, 0, none⟩ : Addr) = some ⟨b, 0, none⟩ ∧ Tab wr b ps ∧ ps.length = fs.length ∧ Far B wr b ps ∧ ∀ i, i < fs.length → (ps.getD i default).name = (fs.getD i default).name ∧ (ps.getD i default).text = (fs.getD i default).text ∧ Known wr (ps.getD i default) (starts (fs.getD i default).text) := by
  obtain ⟨_, hBt, ps, hT, hl, hn, hst⟩ := h
  exact ⟨bt, ps, rfl, hT.tab, hl, ⟨hBt, ⟨v, hT.blk.cell (i := 0) rfl, fun k hk => (hT.own.lt k hk).1⟩, fun i hi k hk => ((hst i (hl ▸ hi)).1.lt k hk).1⟩, fun i hi => ⟨(hn i hi).1, (hn i hi).2, known_of (hn i hi).2 (Nat.le_trans (text_le fs i hi) htot) (RO.own (hst i hi).1)⟩⟩

theorem FirstAt.none {f : Nat → Bool} {n : Nat} {r : Int} (h : FirstAt f n r) (hr : r < 0) : ∀ j, j < n → f j = false := by
  rcases h with ⟨i, _, _, _, rfl⟩ | ⟨h, _⟩
  · omega
  · exact h
theorem FirstAt.some {f : Nat → Bool} {n : Nat} {r : Int} (h : FirstAt f n r) (hr : 0 ≤ r) : ∃ j, j < n ∧ f j = true ∧ (∀ i, i < j → f i = false) ∧ r = j := by
  rcases h with ⟨i, h1, h2, h3, rfl⟩ | ⟨h, rfl⟩
  · exact ⟨i, h1, h2, h3, rfl⟩
  · omega

theorem new_many {w : World} (v : Value) (fs : List Fil) (hr : RO w v 2 fs.length (filCells fs)) (hl : fs.length ≤ 1000000) (hm : 16 < fs.length) : Calls Try.prog 10 #[v] w (NewPost w fs) := by
  obtain ⟨p, c, rfl⟩ := hr.form
  have h1 : (fs.length : Int) ≤ 1000000 := by omega
  have h2 : (16 : Int) < fs.length := by omega
  go_enter Try.func10, Try.ntmps10
  go_wp2_with fail
  go_ret2
  exact ⟨19, _, .inl ⟨hm, rfl⟩, rfl, Below.refl _ _, fun _ => rfl, fun h => by cases h⟩

theorem new_bad {w : World} (v : Value) (fs : List Fil) (hr : RO w v 2 fs.length (filCells fs)) (hl : fs.length ≤ 16) (hsz : ∀ i, i < fs.length → (fs.getD i default).name.size ≤ maxLen) (hbad : badName fs) : Calls Try.prog 10 #[v] w (NewPost w fs) := by
  have HC := Lib.hid (contains_any v fs hr (by omega) hsz)
  obtain ⟨p, c, rfl⟩ := hr.form
  have h1 : (fs.length : Int) ≤ 16 := by omega
  have HH := Lib.hid (And.intro hl hbad)
  clear hr hl hsz hbad
  go_enter Try.func10, Try.ntmps10
  go_wp2_with fail
  refine HC.out.mono ?_; rintro e w1 ⟨r, hf, rfl, hb⟩
  have hd : decide (0 ≤ r) = true := by
    rcases Int.lt_or_le r 0 with h | h
    · obtain ⟨i, hi, hb⟩ := HH.out.2
      have := hf.none h i hi
      rw [hb] at this; cases this
    · simpa using h
  rw [hd]
  have HB := Lib.hid hb
  clear hf hd hb
  go_wp2_with fail
  go_ret2
  exact ⟨9, _, .inr (.inl ⟨HH.out.1, HH.out.2, rfl⟩), rfl, HB.out, fun _ => rfl, fun h => by cases h⟩
end Go.Proofs.Ytonippdileikbaa
