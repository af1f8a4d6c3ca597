import Derived.Test.YtcifiibpiooeiaaB6
import Derived.Test.YtcifiibpiooeiaaK4
namespace Go.Proofs.Ytcifiibpiooeiaa
set_option linter.unusedVariables false
open Go.RowKit Go.Sort

/-! # many rows of one's own, each in a block of its own -/
/-- the rows by key: a slice value and its elements; et: their types -/
structure Mem {K : Type} (et : K → Nat) (base b : Nat) (w : World) (R : K → Value × List Value) : Prop where
  own : ∀ k, w.ownsRow base (et k) 1 (R k).1 (R k).2.length (R k).2
  ne : ∀ k k', k ≠ k' → ∀ g, (R k).1.ownBlock = some g → (R k').1.ownBlock ≠ some g
  nb : ∀ k, (R k).1.ownBlock ≠ some b
  hb : base ≤ b
  lt : b < w.heap.size
def upd {K : Type} [DecidableEq K] (R : K → Value × List Value) (k : K) (r : Value × List Value) : K → Value × List Value := fun k' => if k' = k then r else R k'
theorem upd_same {K : Type} [DecidableEq K] (R : K → Value × List Value) (k : K) (r) : upd R k r k = r := by simp [upd]
theorem upd_other {K : Type} [DecidableEq K] (R : K → Value × List Value) {k k' : K} (r) (h : k' ≠ k) : upd R k r k' = R k' := by simp [upd, h]
theorem own_lt {w : World} {base e size n : Nat} {v : Value} {xs : List Value} (h : w.ownsRow base e size v n xs) : ∀ g, v.ownBlock = some g → base ≤ g ∧ g < w.heap.size := fun g hg => by
  rcases h.2 with ⟨rfl, _⟩ | ⟨g', cap, cur, rfl, h1, h2, _⟩
  · cases hg
  · cases hg; exact ⟨h1, some_lt h2⟩
section
variable {K : Type} {et : K → Nat} {base b : Nat} {w w' : World} {R : K → Value × List Value}
theorem Mem.lts (h : Mem et base b w R) (k : K) : ∀ g, (R k).1.ownBlock = some g → base ≤ g ∧ g < w.heap.size := own_lt (h.own k)
/-- what leaves all rows' blocks alone -/
theorem Mem.keep (h : Mem et base b w R) (hs : w.heap.size ≤ w'.heap.size) (hold : ∀ k g, (R k).1.ownBlock = some g → w'.heap[g]? = w.heap[g]?) : Mem et base b w' R :=
  ⟨fun k => ownsRow_keep (h.own k) (fun g hg => hold k g hg), h.ne, h.nb, h.hb, Nat.lt_of_lt_of_le h.lt hs⟩
theorem Mem.below (h : Mem et base b w R) (hb : Below w.heap.size w w') : Mem et base b w' R :=
  h.keep hb.size fun k g hg => hb.block g (h.lts k g hg).2
/-- one row is another one: its old block, or a new one -/
theorem Mem.put [DecidableEq K] (h : Mem et base b w R) (k : K) {v' : Value} {n : Nat} {xs : List Value} (hown : w'.ownsRow base (et k) 1 v' n xs) (hs : w.heap.size ≤ w'.heap.size)
    (hat : ∀ g, v'.ownBlock = some g → (R k).1.ownBlock = some g ∨ w.heap.size ≤ g) (hold : ∀ g, g < w.heap.size → (R k).1.ownBlock ≠ some g → w'.heap[g]? = w.heap[g]?) : Mem et base b w' (upd R k (v', xs)) := by
  have hn : xs.length = n := by have := hown.1; omega
  refine ⟨fun k' => ?_, fun k1 k2 h12 g hg => ?_, fun k' hk' => ?_, h.hb, Nat.lt_of_lt_of_le h.lt hs⟩
  · by_cases hk : k' = k
    · subst hk; rw [upd_same]; simp only [hn]; exact hown
    · rw [upd_other R _ hk]
      exact ownsRow_keep (h.own k') fun g hg => hold g (h.lts k' g hg).2 (fun e => h.ne k' k hk g hg e)
  · by_cases h1 : k1 = k
    · subst h1
      rw [upd_same] at hg
      rw [upd_other R _ (Ne.symm h12)]
      intro e
      rcases hat g hg with hh | hh
      · exact h.ne k1 k2 h12 g hh e
      · have := (h.lts k2 g e).2; omega
    · rw [upd_other R _ h1] at hg
      by_cases h2 : k2 = k
      · subst h2
        rw [upd_same]
        intro e
        rcases hat g e with hh | hh
        · exact h.ne k1 k2 h12 g hg hh
        · have := (h.lts k1 g hg).2; omega
      · rw [upd_other R _ h2]; exact h.ne k1 k2 h12 g hg
  · by_cases hk : k' = k
    · subst hk
      rw [upd_same] at hk'
      rcases hat b hk' with hh | hh
      · exact h.nb k' hh
      · have := h.lt; omega
    · rw [upd_other R _ hk] at hk'; exact h.nb k' hk'
/-- one row is nil -/
theorem Mem.drop [DecidableEq K] (h : Mem et base b w R) (k : K) : Mem et base b w (upd R k (.slice none 0 0, [])) :=
  h.put k (n := 0) (World.ownsRow_nil _ _ _ _) (Nat.le_refl _) (fun g hg => by cases hg) (fun _ _ _ => rfl)
theorem Mem.app [DecidableEq K] (h : Mem et base b w R) (k : K) {v' : Value} {n : Nat} {xs : List Value} (ha : AppR base (et k) 1 w (R k).1 n xs v' w') : Mem et base b w' (upd R k (v', xs)) :=
  h.put k ha.own ha.grown.size (fun g hg => by
    rcases ha.at_ with e | e
    · rw [e] at hg; exact .inl hg
    · rw [e] at hg; cases hg; exact .inr (Nat.le_refl _)) (fun g hg hn => ha.grown.block g hg (Ne.symm hn))
/-- a cell of a row -/
theorem Mem.at (h : Mem et base b w R) (k : K) {i : Nat} {u : Value} (hu : (R k).2[i]? = some u) : ∃ g c, (R k).1 = .slice (some ⟨g, 0, none⟩) (R k).2.length c ∧ w.cell? ⟨g, i, none⟩ = some u ∧ w.frozen? ⟨g, i, none⟩ = false ∧ base ≤ g ∧ g ≠ b := by
  have ho := h.own k
  have hi : i < (R k).2.length := (List.getElem?_eq_some_iff.1 hu).1
  rcases ho.2 with ⟨_, e⟩ | ⟨g, cap, cur, hv, hb, hg, hc, hm, hs, ht⟩
  · omega
  · refine ⟨g, cap, hv, ?_, by simp [World.frozen?, hg], hb, fun e => h.nb k (by rw [hv, e]; rfl)⟩
    have : cur.toList[i]? = some u := by
      rw [← ht, List.getElem?_take, Nat.mul_one] at hu
      simpa [hi] using hu
    have hk : Blk w g (et k) cur.toList := by unfold Blk; simpa using hg
    exact hk.cell this
/-- a cell of a row is written -/
theorem Mem.set [DecidableEq K] (h : Mem et base b w R) (k : K) {i : Nat} (u : Value) (hi : i < (R k).2.length) {g n c : Nat} (hv : (R k).1 = .slice (some ⟨g, 0, none⟩) n c) : Mem et base b (w.setCell ⟨g, i, none⟩ u) (upd R k ((R k).1, (R k).2.set i u)) := by
  have ho := h.own k
  refine h.put k (n := (R k).2.length) ?_ (by simp) (fun g' hg' => .inl hg') (fun g' hg' hn => Below.heap_setCell _ _ _ _ (fun e => hn (by rw [hv, e]; rfl)))
  rcases ho.2 with ⟨e, e2⟩ | ⟨g', cap, cur, hv', hb, hg, hc, hm, hs, ht⟩
  · omega
  · rw [hv] at hv'
    cases hv'
    refine ⟨by simp, .inr ⟨g, _, (cur.toList.set i u).toArray, hv, hb, ?_, hc, hm, by simpa using hs, ?_⟩⟩
    · have hk : Blk w g (et k) cur.toList := by unfold Blk; simpa using hg
      exact hk.set i u
    · rw [List.toList_toArray, List.take_set, ht]
end

/-! # the checker of rup -/
inductive Key where | cl | wt | sh | va | tr | kept | c (i : Nat) | w (s : Nat)
deriving DecidableEq
def kt : Key → Nat
  | .cl => 23
  | .wt => 23
  | _ => 3
/-- a checker's state, plainly -/
structure St where
  v : Nat
  m : Nat
  cl : Nat → List Int
  short : List Int
  wt : Nat → List Int
  val : List Int
  trail : List Int
  head : Nat
  kept : List Int
def Rof (S : St) (V : Key → Value) : Key → Value × List Value
  | .cl => (V .cl, (List.range S.m).map fun i => V (.c i))
  | .wt => (V .wt, (List.range (2 * S.v + 3)).map fun s => V (.w s))
  | .sh => (V .sh, ints S.short)
  | .va => (V .va, ints S.val)
  | .tr => (V .tr, ints S.trail)
  | .kept => (V .kept, ints S.kept)
  | .c i => (V (.c i), ints (S.cl i))
  | .w s => (V (.w s), ints (S.wt s))
def ckCells (S : St) (V : Key → Value) : List Value := [.int .i64 S.v, V .cl, V .sh, V .wt, V .va, V .tr, .int .i64 S.head]
structure Ck (base b : Nat) (w : World) (S : St) (V : Key → Value) : Prop where
  mem : Mem kt base b w (Rof S V)
  blk : Blk w b 78 (ckCells S V)
theorem Ck.below {base b : Nat} {w w' : World} {S : St} {V : Key → Value} (h : Ck base b w S V) (hb : Below w.heap.size w w') : Ck base b w' S V := ⟨h.mem.below hb, h.blk.next hb⟩
def updV (V : Key → Value) (k : Key) (v : Value) : Key → Value := fun k' => if k' = k then v else V k'
theorem Rof_va (S : St) (V : Key → Value) (l : List Int) : upd (Rof S V) .va (V .va, ints l) = Rof { S with val := l } V := by
  funext k; cases k <;> simp [upd, Rof]
theorem Rof_tr (S : St) (V : Key → Value) (l : List Int) (v : Value) : upd (Rof S V) .tr (v, ints l) = Rof { S with trail := l } (updV V .tr v) := by
  funext k; cases k <;> simp [upd, Rof, updV]
theorem Rof_kept (S : St) (V : Key → Value) (l : List Int) (v : Value) : upd (Rof S V) .kept (v, ints l) = Rof { S with kept := l } (updV V .kept v) := by
  funext k; cases k <;> simp [upd, Rof, updV]
theorem Rof_sh (S : St) (V : Key → Value) (l : List Int) (v : Value) : upd (Rof S V) .sh (v, ints l) = Rof { S with short := l } (updV V .sh v) := by
  funext k; cases k <;> simp [upd, Rof, updV]
theorem Rof_c (S : St) (V : Key → Value) (i : Nat) (l : List Int) : upd (Rof S V) (.c i) (V (.c i), ints l) = Rof { S with cl := fun j => if j = i then l else S.cl j } V := by
  funext k; cases k with
  | c j => by_cases h : j = i <;> simp [upd, Rof, h]
  | _ => simp [upd, Rof]
/-- the values are written at one place -/
theorem Ck.setva {base b : Nat} {w : World} {S : St} {V : Key → Value} (h : Ck base b w S V) {i : Nat} (u : Int) (hi : i < S.val.length) {g n c : Nat} (hv : V .va = .slice (some ⟨g, 0, none⟩) n c) : Ck base b (w.setCell ⟨g, i, none⟩ (.int .i64 u)) { S with val := S.val.set i u } V := by
  have hm := h.mem.set .va (i := i) (.int .i64 u) (by show i < (ints S.val).length; rw [ints_len]; exact hi) hv
  have e : ((Rof S V .va).1, (Rof S V .va).2.set i (.int .i64 u)) = (V .va, ints (S.val.set i u)) := by simp [Rof, ints_set]
  rw [e, Rof_va] at hm
  have hgb : g ≠ b := fun e => h.mem.nb .va (by show (V .va).ownBlock = _; rw [hv, e]; rfl)
  exact ⟨hm, h.blk.other (a := ⟨g, i, none⟩) _ (Ne.symm hgb)⟩
theorem Ck.appblk {base b : Nat} {w w1 : World} {S : St} {V : Key → Value} (h : Ck base b w S V) (k : Key) {e n : Nat} {v' : Value} {xs : List Value} (ha : AppR base e 1 w (V k) n xs v' w1) : Blk w1 b 78 (ckCells S V) := by
  have := h.blk
  unfold Blk at this ⊢
  have hk : (Rof S V k).1 = V k := by cases k <;> rfl
  rw [ha.grown.block b h.mem.lt (Ne.symm (by rw [← hk]; exact h.mem.nb k))]
  exact this
/-- the trail's row was appended to; its field is still to be written -/
theorem Ck.apptr {base b : Nat} {w w1 : World} {S : St} {V : Key → Value} (h : Ck base b w S V) {v' : Value} {n : Nat} {l : List Int} (ha : AppR base 3 1 w (V .tr) n (ints l) v' w1) : Ck base b (w1.setCell ⟨b, 5, none⟩ v') { S with trail := l } (updV V .tr v') := by
  have hm := h.mem.app .tr (v' := v') (n := n) (xs := ints l) ha
  rw [Rof_tr] at hm
  have hb1 : Blk w1 b 78 (ckCells S V) := by
    have := h.blk
    unfold Blk at this ⊢
    rw [ha.grown.block b h.mem.lt (Ne.symm (h.mem.nb .tr))]
    exact this
  refine ⟨hm.keep (by simp) fun k g hg => Below.heap_setCell _ _ _ _ (fun e => hm.nb k (by rw [hg]; exact congrArg some e)), ?_⟩
  have := hb1.set 5 v'
  have e : (ckCells S V).set 5 v' = ckCells { S with trail := l } (updV V .tr v') := by simp [ckCells, updV]
  rwa [e] at this
end Go.Proofs.Ytcifiibpiooeiaa
