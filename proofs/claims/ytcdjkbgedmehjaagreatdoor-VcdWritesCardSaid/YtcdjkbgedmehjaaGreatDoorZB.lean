/- Texts of this claim, one behind another: M1, M2. They state lemmas; each names its own conditions. -/
import Derived.Test.YtcdjkbgedmehjaaGreatDoorVK4
import Derived.Test.YtcdjkbgedmehjaaGreatDoorZA
namespace Go.Proofs.YtcdjkbgedmehjaaGreatDoor
set_option linter.unusedVariables false
open Go.RowKit Go.Sort

theorem i64_of {x : Int} (h : -9223372036854775808 ≤ x ∧ x ≤ 9223372036854775807) : IntKind.i64.wrap x = x := IntWalk.i64_in _ h
/-! # many rows of one's own, each in a block of its own (elements of any size) -/
abbrev RowV := Value × Nat × List Value
structure Mem {K : Type} (et es : K → Nat) (base b : Nat) (w : World) (R : K → RowV) : Prop where
  own : ∀ k, w.ownsRow base (et k) (es k) (R k).1 (R k).2.1 (R k).2.2
  ne : ∀ k k', k ≠ k' → ∀ g, (R k).1.ownBlock = some g → (R k').1.ownBlock ≠ some g
  nb : ∀ k, (R k).1.ownBlock ≠ some b
  hb : base ≤ b
  lt : b < w.heap.size
def upd {K : Type} [DecidableEq K] (R : K → RowV) (k : K) (r : RowV) : K → RowV := fun k' => if k' = k then r else R k'
theorem upd_same {K : Type} [DecidableEq K] (R : K → RowV) (k : K) (r) : upd R k r k = r := by simp [upd]
theorem upd_other {K : Type} [DecidableEq K] (R : K → RowV) {k k' : K} (r) (h : k' ≠ k) : upd R k r k' = R k' := by simp [upd, h]
theorem own_lt {w : World} {base e size n : Nat} {v : Value} {xs : List Value} (h : w.ownsRow base e size v n xs) : ∀ g, v.ownBlock = some g → base ≤ g ∧ g < w.heap.size := fun g hg => by
  rcases h.2 with ⟨rfl, _⟩ | ⟨g', cap, cur, rfl, h1, h2, _⟩
  · cases hg
  · cases hg; exact ⟨h1, some_lt h2⟩
section
variable {K : Type} {et es : K → Nat} {base b : Nat} {w w' : World} {R : K → RowV}
theorem Mem.lts (h : Mem et es base b w R) (k : K) : ∀ g, (R k).1.ownBlock = some g → base ≤ g ∧ g < w.heap.size := own_lt (h.own k)
/-- what leaves all rows' blocks alone -/
theorem Mem.keep (h : Mem et es base b w R) (hs : w.heap.size ≤ w'.heap.size) (hold : ∀ k g, (R k).1.ownBlock = some g → w'.heap[g]? = w.heap[g]?) : Mem et es base b w' R :=
  ⟨fun k => ownsRow_keep (h.own k) (fun g hg => hold k g hg), h.ne, h.nb, h.hb, Nat.lt_of_lt_of_le h.lt hs⟩
theorem Mem.below (h : Mem et es base b w R) (hb : Below w.heap.size w w') : Mem et es base b w' R :=
  h.keep hb.size fun k g hg => hb.block g (h.lts k g hg).2
/-- one row is another one: its old block, or a new one -/
theorem Mem.put [DecidableEq K] (h : Mem et es base b w R) (k : K) {v' : Value} {n : Nat} {xs : List Value} (hown : w'.ownsRow base (et k) (es k) v' n xs) (hs : w.heap.size ≤ w'.heap.size)
    (hat : ∀ g, v'.ownBlock = some g → (R k).1.ownBlock = some g ∨ w.heap.size ≤ g) (hold : ∀ g, g < w.heap.size → (R k).1.ownBlock ≠ some g → w'.heap[g]? = w.heap[g]?) : Mem et es base b w' (upd R k (v', n, xs)) := by
  refine ⟨fun k' => ?_, fun k1 k2 h12 g hg => ?_, fun k' hk' => ?_, h.hb, Nat.lt_of_lt_of_le h.lt hs⟩
  · by_cases hk : k' = k
    · subst hk; rw [upd_same]; exact hown
    · rw [upd_other R _ hk]
      exact ownsRow_keep (h.own k') fun g hg => hold g (h.lts k' g hg).2 (fun e => h.ne k' k hk g hg e)
  · by_cases h1 : k1 = k
    · subst h1
      rw [upd_same] at hg
      rw [upd_other R _ (Ne.symm h12)]
      intro e
      rcases hat g hg with hh | hh
      · exact h.ne k1 k2 h12 g hh e
      · have := (h.lts k2 g e).2; omega
    · rw [upd_other R _ h1] at hg
      by_cases h2 : k2 = k
      · subst h2
        rw [upd_same]
        intro e
        rcases hat g e with hh | hh
        · exact h.ne k1 k2 h12 g hg hh
        · have := (h.lts k1 g hg).2; omega
      · rw [upd_other R _ h2]; exact h.ne k1 k2 h12 g hg
  · by_cases hk : k' = k
    · subst hk
      rw [upd_same] at hk'
      rcases hat b hk' with hh | hh
      · exact h.nb k' hh
      · have := h.lt; omega
    · rw [upd_other R _ hk] at hk'; exact h.nb k' hk'
theorem Mem.app [DecidableEq K] (h : Mem et es base b w R) (k : K) {v' : Value} {n : Nat} {xs : List Value} (ha : AppR base (et k) (es k) w (R k).1 n xs v' w') : Mem et es base b w' (upd R k (v', n, xs)) :=
  h.put k ha.own ha.grown.size (fun g hg => by
    rcases ha.at_ with e | e
    · rw [e] at hg; exact .inl hg
    · rw [e] at hg; cases hg; exact .inr (Nat.le_refl _)) (fun g hg hn => ha.grown.block g hg (Ne.symm hn))
/-- a cell of a row -/
theorem Mem.at (h : Mem et es base b w R) (k : K) {i : Nat} {u : Value} (hu : (R k).2.2[i]? = some u) : ∃ g c, (R k).1 = .slice (some ⟨g, 0, none⟩) (R k).2.1 c ∧ w.cell? ⟨g, i, none⟩ = some u ∧ w.frozen? ⟨g, i, none⟩ = false ∧ base ≤ g ∧ g ≠ b := by
  have ho := h.own k
  have hi : i < (R k).2.2.length := (List.getElem?_eq_some_iff.1 hu).1
  rcases ho.2 with ⟨_, e⟩ | ⟨g, cap, cur, hv, hb, hg, hc, hm, hs, ht⟩
  · have := ho.1; rw [e, Nat.zero_mul] at this; omega
  · refine ⟨g, cap, hv, ?_, by simp [World.frozen?, hg], hb, fun e => h.nb k (by rw [hv, e]; rfl)⟩
    have : cur.toList[i]? = some u := by
      rw [← ht, List.getElem?_take] at hu
      by_cases hh : i < (R k).2.1 * es k
      · rw [if_pos hh] at hu; exact hu
      · rw [if_neg hh] at hu; exact absurd hu (by simp)
    have hk : Blk w g (et k) cur.toList := by unfold Blk; simpa using hg
    exact hk.cell this
/-- a cell of a row is written -/
theorem Mem.set [DecidableEq K] (h : Mem et es base b w R) (k : K) {i : Nat} (u : Value) (hi : i < (R k).2.2.length) {g n c : Nat} (hv : (R k).1 = .slice (some ⟨g, 0, none⟩) n c) : Mem et es base b (w.setCell ⟨g, i, none⟩ u) (upd R k ((R k).1, (R k).2.1, (R k).2.2.set i u)) := by
  have ho := h.own k
  refine h.put k ?_ (by simp) (fun g' hg' => .inl hg') (fun g' hg' hn => Below.heap_setCell _ _ _ _ (fun e => hn (by rw [hv, e]; rfl)))
  rcases ho.2 with ⟨e, e2⟩ | ⟨g', cap, cur, hv', hb, hg, hc, hm, hs, ht⟩
  · have := ho.1; rw [e2, Nat.zero_mul] at this; omega
  · rw [hv] at hv'
    cases hv'
    refine ⟨by rw [List.length_set]; exact ho.1, .inr ⟨g, _, (cur.toList.set i u).toArray, hv, hb, ?_, hc, hm, by simpa using hs, ?_⟩⟩
    · have hk : Blk w g (et k) cur.toList := by unfold Blk; simpa using hg
      exact hk.set i u
    · rw [List.toList_toArray, List.take_set, ht]
theorem Mem.appA [DecidableEq K] (h : Mem et es base b w R) (k : K) {n m g cap : Nat} {xs : List Value} (ha : App base (et k) (es k) w (R k).1 n m xs g cap w') : Mem et es base b w' (upd R k (.slice (some ⟨g, 0, none⟩) (n + m) cap, n + m, xs)) :=
  h.put k ha.own ha.grown.size (fun g' hg' => by
    cases hg'
    rcases ha.at_ with e | e
    · exact .inl e
    · exact .inr (Nat.le_of_eq e.symm)) (fun g hg hn => ha.grown.block g hg (Ne.symm hn))
end
end Go.Proofs.YtcdjkbgedmehjaaGreatDoor
namespace Go.Proofs.YtcdjkbgedmehjaaGreatDoor
set_option linter.unusedVariables false
open Go.RowKit Go.Sort

/-! # the reader in memory -/
abbrev Bs := List UInt8
def bstr (l : Bs) : ByteArray := ⟨l.toArray⟩
/-- a vector in a row: its width, where its words lie, its number -/
structure VecE where
  w : Nat
  p : Option Addr
  c : Nat
  x : Nat
deriving Inhabited
def vecV (e : VecE) : Value := .agg #[.int .i64 e.w, .slice e.p (wcount e.w) e.c]
structure RdS where
  toks : List (Bs × Nat)
  pos : Nat
  last : Nat
  top : Bs
  vars : List (Bs × Nat)
  ids : List Bs
  rows : List (List VecE)
inductive Key where | tok | ids | vars | vals | row (i : Nat)
deriving DecidableEq
def kt : Key → Nat
  | .tok => 97
  | .ids => 9
  | .vars => 51
  | .vals => 52
  | .row _ => 46
def ks : Key → Nat
  | .tok => 2
  | .ids => 1
  | .vars => 2
  | .vals => 1
  | .row _ => 2
def tokCells (l : List (Bs × Nat)) : List Value := (l.map fun t => [Value.string (bstr t.1), .int .i64 t.2]).flatten
def rowCells (l : List VecE) : List Value := (l.map fun t => [.int .i64 t.w, .slice t.p (wcount t.w) t.c]).flatten
def strCells (l : List Bs) : List Value := l.map fun t => .string (bstr t)
def Rof (S : RdS) (V : Key → Value) : Key → RowV
  | .tok => (V .tok, S.toks.length, tokCells S.toks)
  | .ids => (V .ids, S.ids.length, strCells S.ids)
  | .vars => (V .vars, S.vars.length, tokCells S.vars)
  | .vals => (V .vals, S.rows.length, (List.range S.rows.length).map fun i => V (.row i))
  | .row i => if i < S.rows.length then (V (.row i), (S.rows.getD i []).length, rowCells (S.rows.getD i [])) else (.slice none 0 0, 0, [])
def rdCells (S : RdS) (V : Key → Value) : List Value :=
  [V .tok, .int .i64 S.pos, .int .i64 S.last, .string (bstr S.top), V .vars, V .vals, V .ids, .int .i64 0, .int .i64 0]
/-- old blocks outside F are as they were -/
structure Only (F : Nat → Prop) (w w' : World) : Prop where
  os : w'.os = w.os
  tape : w'.tape = w.tape
  output : w'.output = w.output
  size : w.heap.size ≤ w'.heap.size
  block : ∀ k, k < w.heap.size → ¬ F k → w'.heap[k]? = w.heap[k]?
theorem Only.refl (F : Nat → Prop) (w : World) : Only F w w := ⟨rfl, rfl, rfl, Nat.le_refl _, fun _ _ _ => rfl⟩
theorem Only.trans {F : Nat → Prop} {a b c : World} (h : Only F a b) (k : Only F b c) : Only F a c :=
  ⟨k.os.trans h.os, k.tape.trans h.tape, k.output.trans h.output, Nat.le_trans h.size k.size, fun i hi hn => (k.block i (Nat.lt_of_lt_of_le hi h.size) hn).trans (h.block i hi hn)⟩
theorem Only.below {F : Nat → Prop} {a b c : World} {N : Nat} (h : Only F a b) (k : Below N b c) (hN : a.heap.size ≤ N) : Only F a c :=
  ⟨k.os.trans h.os, k.tape.trans h.tape, k.output.trans h.output, Nat.le_trans h.size k.size, fun i hi hn => (k.block i (Nat.lt_of_lt_of_le hi hN)).trans (h.block i hi hn)⟩
theorem Only.of {F : Nat → Prop} {a b : World} (h : Below a.heap.size a b) : Only F a b := (Only.refl F a).below h (Nat.le_refl _)
theorem Only.set {F : Nat → Prop} {a b : World} (h : Only F a b) {p : Addr} (hp : F p.block) (u : Value) : Only F a (b.setCell p u) :=
  h.trans ⟨rfl, rfl, rfl, by simp, fun k _ hn => Below.heap_setCell _ _ _ _ (fun e => hn (e ▸ hp))⟩
theorem Only.to {F : Nat → Prop} {a b : World} {B : Nat} (h : Only F a b) (hF : ∀ k, F k → B ≤ k) (hB : B ≤ a.heap.size) : Below B a b :=
  ⟨h.os, h.tape, h.output, h.size, fun k hk => h.block k (by omega) (fun hf => by have := hF k hf; omega)⟩
theorem Only.ro {F : Nat → Prop} {a b : World} {v : Value} {size n : Nat} {cs : List Value} (h : Only F a b) (hr : RO a v size n cs) (hF : ∀ k, v.ownBlock = some k → ¬ F k) : RO b v size n cs := by
  obtain ⟨h1, p, c, rfl, h3⟩ := hr
  refine ⟨h1, p, c, rfl, fun j u hj => ?_⟩
  obtain ⟨b', o, rfl, hc⟩ := h3 j u hj
  exact ⟨b', o, rfl, (World.cell?_of_block (h.block b' (World.block_lt_of_cell? _ _ hc) (hF b' rfl))).trans hc⟩
/-- a value's words lie in none of these blocks -/
def Sep (N : Nat) (R : Key → RowV) (b : Nat) (v : Value) : Prop := ∀ k p m c bo o, v = .agg #[k, .slice p m c] → p = some ⟨bo, o, none⟩ → bo < N ∧ bo ≠ b ∧ ∀ q, (R q).1.ownBlock ≠ some bo
theorem VR.keepB {w w' : World} {v : Value} {n x : Nat} (h : VR w v n x) (hk : ∀ k p m c bo o, v = .agg #[k, .slice p m c] → p = some ⟨bo, o, none⟩ → bo < w.heap.size → w'.heap[bo]? = w.heap[bo]?) : VR w' v n x := by
  obtain ⟨⟨p, c, rfl, hl, p2, c2, e2, hcs⟩, h2, h3⟩ := h
  cases e2
  refine ⟨⟨p, c, rfl, hl, p, c, rfl, fun j u' hj => ?_⟩, h2, h3⟩
  obtain ⟨b, o, hp, hc⟩ := hcs j u' hj
  refine ⟨b, o, hp, ?_⟩
  rw [World.cell?_of_block (hk _ _ _ _ _ _ rfl hp (World.block_lt_of_cell? _ _ hc))]
  exact hc
/-- the reader lies in block b; what its rows hold are vectors -/
structure Rdr (base b : Nat) (w : World) (S : RdS) (V : Key → Value) : Prop where
  mem : Mem kt ks base b w (Rof S V)
  blk : Blk w b 82 (rdCells S V)
  len : ∀ (i : Nat) (r : List VecE), S.rows[i]? = some r → r.length = S.vars.length
  vec : ∀ (i : Nat) (r : List VecE), S.rows[i]? = some r → ∀ (j : Nat) (p : VecE) (v : Bs × Nat), r[j]? = some p → S.vars[j]? = some v → p.w = v.2 ∧ VR w (vecV p) p.w p.x ∧ Sep w.heap.size (Rof S V) b (vecV p)
def updV (V : Key → Value) (k : Key) (v : Value) : Key → Value := fun k' => if k' = k then v else V k'
section
variable {base b : Nat} {w w' : World} {S S' : RdS} {V V' : Key → Value}
theorem Sep.mono {N N' : Nat} {R : Key → RowV} {v : Value} (h : Sep N R b v) (hN : N ≤ N') : Sep N' R b v := fun k p m c bo o e hp => ⟨Nat.lt_of_lt_of_le (h k p m c bo o e hp).1 hN, (h k p m c bo o e hp).2⟩
theorem VR.lts {v : Value} {n x : Nat} (h : VR w v n x) (hn : 0 < n) : ∀ k p m c bo o, v = .agg #[k, .slice p m c] → p = some ⟨bo, o, none⟩ → bo < w.heap.size := fun k p m c bo o e hp => by
  obtain ⟨b', o', c', e', hc⟩ := h.word (i := 0) (by unfold wcount; omega)
  rw [e] at e'
  simp only [Value.agg.injEq, Array.mk.injEq, List.cons.injEq, Value.slice.injEq, and_true] at e'
  obtain ⟨_, e2, _, _⟩ := e'
  rw [e2] at hp
  cases hp
  exact World.block_lt_of_cell? _ _ hc
theorem Rdr.below (h : Rdr base b w S V) (hb : Below w.heap.size w w') : Rdr base b w' S V :=
  ⟨h.mem.below hb, h.blk.next hb, h.len, fun i r hr j p v hp hv => ⟨(h.vec i r hr j p v hp hv).1, (h.vec i r hr j p v hp hv).2.1.below hb, (h.vec i r hr j p v hp hv).2.2.mono hb.size⟩⟩
theorem Rdr.cell (h : Rdr base b w S V) {i : Nat} {u : Value} (hu : (rdCells S V)[i]? = some u) : w.cell? ⟨b, i, none⟩ = some u := h.blk.cell hu
theorem Rdr.base_le (h : Rdr base b w S V) : base ≤ w.heap.size := Nat.le_trans h.mem.hb (Nat.le_of_lt h.mem.lt)
theorem Sep.of {R : Key → RowV} {v : Value} {n x : Nat} (hl : ∀ q g, (R q).1.ownBlock = some g → g < w.heap.size) (hb : b < w.heap.size) (hf : Far w v) (hv : VR w' v n x) (hn : 0 < n) : Sep w'.heap.size R b v := fun k p m c bo o e hp => by
  have := hf k p m c bo o e hp
  exact ⟨hv.lts hn k p m c bo o e hp, by omega, fun q e => by have := hl q bo e; omega⟩
/-- a vector stays what it is where own blocks alone are written -/
theorem Sep.vr {R : Key → RowV} {v : Value} {n x : Nat} (hs : Sep w.heap.size R b v) (hv : VR w v n x) (hold : ∀ g, g < w.heap.size → g ≠ b → (∀ q, (R q).1.ownBlock ≠ some g) → w'.heap[g]? = w.heap[g]?) : VR w' v n x :=
  hv.keepB fun k p m c bo o e hp hlt => hold bo hlt (hs k p m c bo o e hp).2.1 (hs k p m c bo o e hp).2.2
theorem Sep.turn {N N' : Nat} {R R' : Key → RowV} {v : Value} (h : Sep N R b v) (hN : N ≤ N') (hown : ∀ q g, (R' q).1.ownBlock = some g → (∃ q', (R q').1.ownBlock = some g) ∨ N ≤ g) : Sep N' R' b v := fun k p m c bo o e hp => by
  obtain ⟨h1, h2, h3⟩ := h k p m c bo o e hp
  refine ⟨Nat.lt_of_lt_of_le h1 hN, h2, fun q e' => ?_⟩
  rcases hown q bo e' with ⟨q', e''⟩ | hge
  · exact h3 q' e''
  · omega
/-- the rows' vectors are as they were; own blocks are the old ones or new -/
theorem Rdr.turn (h : Rdr base b w S V) (hm : Mem kt ks base b w' (Rof S' V')) (hb : Blk w' b 82 (rdCells S' V')) (hs : w.heap.size ≤ w'.heap.size) (hr : S'.rows = S.rows) (hv : S'.vars = S.vars ∨ S.rows = [])
    (hown : ∀ q g, (Rof S' V' q).1.ownBlock = some g → (∃ q', (Rof S V q').1.ownBlock = some g) ∨ w.heap.size ≤ g)
    (hold : ∀ g, g < w.heap.size → g ≠ b → (∀ q, (Rof S V q).1.ownBlock ≠ some g) → w'.heap[g]? = w.heap[g]?) : Rdr base b w' S' V' := by
  refine ⟨hm, hb, fun i r hi => ?_, fun i r hi j p v hp hvj => ?_⟩
  · rw [hr] at hi
    rcases hv with e | e
    · rw [e]; exact h.len i r hi
    · rw [e] at hi; simp at hi
  · rw [hr] at hi
    rcases hv with e | e
    · rw [e] at hvj
      have hh := h.vec i r hi j p v hp hvj
      exact ⟨hh.1, hh.2.2.vr hh.2.1 hold, hh.2.2.turn hs hown⟩
    · rw [e] at hi; simp at hi
/-- a field of the reader's box is another one -/
theorem Rdr.fld (h : Rdr base b w S V) (i : Nat) (u : Value) (hR : Rof S' V = Rof S V) (hc : (rdCells S V).set i u = rdCells S' V) (hr : S'.rows = S.rows) (hv : S'.vars = S.vars) : Rdr base b (w.setCell ⟨b, i, none⟩ u) S' V := by
  have hm := h.mem
  refine h.turn ?_ ?_ (by simp) hr (.inl hv) (fun q g hg => .inl ⟨q, by rw [← hR]; exact hg⟩) (fun g _ hg _ => Below.heap_setCell _ _ _ _ hg)
  · rw [hR]
    exact hm.keep (by simp) fun k g hg => Below.heap_setCell _ _ _ _ (fun e => hm.nb k (by rw [hg, e]))
  · rw [← hc]; exact h.blk.set i u
/-- another place in the words -/
theorem Rdr.at (h : Rdr base b w S V) (k : Nat) : Rdr base b (w.setCell ⟨b, 1, none⟩ (.int .i64 k)) { S with pos := k } V :=
  h.fld 1 _ (by funext q; cases q <;> rfl) rfl rfl rfl
theorem Rdr.setTop (h : Rdr base b w S V) (t : Bs) : Rdr base b (w.setCell ⟨b, 3, none⟩ (.string (bstr t))) { S with top := t } V :=
  h.fld 3 _ (by funext q; cases q <;> rfl) rfl rfl rfl
theorem Rdr.boxB (h : Rdr base b w S V) (i : Nat) (u : Value) : Below base w (w.setCell ⟨b, i, none⟩ u) :=
  (Below.refl base w).setCell (show base ≤ (⟨b, i, none⟩ : Addr).block from h.mem.hb) u
/-- the words -/
theorem Rdr.toks (h : Rdr base b w S V) : ∃ p c, V .tok = .slice p S.toks.length c ∧ RO w (.slice p S.toks.length c) 2 S.toks.length (tokCells S.toks) := by
  have ho := h.mem.own .tok
  obtain ⟨p, c, e⟩ := ownsRow_form ho
  have e' : V .tok = .slice p S.toks.length c := e
  exact ⟨p, c, e', by rw [← e']; exact RO.own ho⟩
/-- the reader, all of whose blocks lie below N -/
structure RdrN (base N b : Nat) (w : World) (S : RdS) (V : Key → Value) : Prop where
  r : Rdr base b w S V
  lt : ∀ q g, (Rof S V q).1.ownBlock = some g → g < N
  bN : b < N
  sep : ∀ (i : Nat) (r : List VecE), S.rows[i]? = some r → ∀ (j : Nat) (p : VecE) (v : Bs × Nat), r[j]? = some p → S.vars[j]? = some v → Sep N (Rof S V) b (vecV p)
theorem Rdr.lim (h : Rdr base b w S V) : RdrN base w.heap.size b w S V := ⟨h, fun q g hg => (h.mem.lts q g hg).2, h.mem.lt, fun i r hi j p v hp hv => (h.vec i r hi j p v hp hv).2.2⟩
theorem RdrN.below {N : Nat} (h : RdrN base N b w S V) (hb : Below N w w') : RdrN base N b w' S V := by
  refine ⟨⟨h.r.mem.keep hb.size fun q g hg => hb.block g (h.lt q g hg), ?_, h.r.len, fun i r hi j p v hp hv => ⟨(h.r.vec i r hi j p v hp hv).1, ?_, (h.r.vec i r hi j p v hp hv).2.2.mono hb.size⟩⟩, h.lt, h.bN, h.sep⟩
  · have := h.r.blk
    unfold Blk at this ⊢
    rw [hb.block b h.bN]; exact this
  · exact (h.r.vec i r hi j p v hp hv).2.1.keepB fun k p' m c bo o e hp' hlt => hb.block bo (h.sep i r hi j p v hp hv k p' m c bo o e hp').1
theorem RdrN.at {N : Nat} (h : RdrN base N b w S V) (k : Nat) : RdrN base N b (w.setCell ⟨b, 1, none⟩ (.int .i64 k)) { S with pos := k } V :=
  ⟨h.r.at k, fun q g hg => h.lt q g (by cases q <;> exact hg), h.bN, fun i r hi j p v hp hv k' p' m c bo o e hp' => by
    have hh := h.sep i r hi j p v hp hv k' p' m c bo o e hp'
    exact ⟨hh.1, hh.2.1, fun q e' => hh.2.2 q (by cases q <;> exact e')⟩⟩
end
theorem tokCells_at : ∀ (l : List (Bs × Nat)) (i : Nat) (t : Bs × Nat), l[i]? = some t → (tokCells l)[i * 2]? = some (.string (bstr t.1)) ∧ (tokCells l)[i * 2 + 1]? = some (.int .i64 t.2)
  | [], _, _, h => by simp at h
  | a :: l, 0, t, h => by
    simp at h; subst h
    exact ⟨rfl, rfl⟩
  | a :: l, i + 1, t, h => by
    have ih := tokCells_at l i t (by simpa using h)
    have e : tokCells (a :: l) = .string (bstr a.1) :: .int .i64 a.2 :: tokCells l := rfl
    rw [e, show (i + 1) * 2 = i * 2 + 1 + 1 by omega, List.getElem?_cons_succ, List.getElem?_cons_succ, List.getElem?_cons_succ]
    exact ⟨ih.1, ih.2⟩
end Go.Proofs.YtcdjkbgedmehjaaGreatDoor
