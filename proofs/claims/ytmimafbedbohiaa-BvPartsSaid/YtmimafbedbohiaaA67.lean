import Derived.Test.YtmimafbedbohiaaA66
import Derived.Test.YtmimafbedbohiaaB7
import Derived.Maps.AppendAt
namespace Go.Proofs.Ytmimafbedbohiaa
set_option linter.unusedVariables false
open Go.RowKit Go.Shelf
attribute [local go_sem] Oper.semAt_some

/-- the bits that lie in the list when the vectors of l have come: none where one of them is empty or too wide -/
def catS (ns xs : Nat → Nat) (l : List Nat) : Option (List Bool) :=
  l.foldl (fun o j => o.bind fun a => if 1 ≤ ns j ∧ a.length + ns j ≤ 128 then some (a ++ bitsOf (ns j) (xs j)) else none) (some [])
def catL (ns xs : Nat → Nat) (l : List Nat) : List Bool := (catS ns xs l).getD []
theorem catS_snoc (ns xs : Nat → Nat) (l : List Nat) (j : Nat) : catS ns xs (l ++ [j]) = (catS ns xs l).bind fun a => if 1 ≤ ns j ∧ a.length + ns j ≤ 128 then some (a ++ bitsOf (ns j) (xs j)) else none := by
  simp [catS, List.foldl_append]
theorem snocI {α : Type} {p : List α → Prop} (h0 : p []) (h1 : ∀ l x, p l → p (l ++ [x])) (l : List α) : p l := by
  have : ∀ k (l : List α), l.length = k → p l := by
    intro k
    induction k with
    | zero => intro l hl; rw [List.length_eq_zero_iff.1 hl]; exact h0
    | succ k ih =>
      intro l hl
      have hn : l ≠ [] := fun e => by rw [e] at hl; cases hl
      rw [← List.dropLast_concat_getLast hn]
      exact h1 _ _ (ih _ (by rw [List.length_dropLast, hl]; rfl))
  exact this _ l rfl
theorem catS_none (ns xs : Nat → Nat) (l m : List Nat) (h : catS ns xs l = none) : catS ns xs (l ++ m) = none := by
  refine snocI (p := fun m => catS ns xs (l ++ m) = none) (by simpa using h) (fun m j ih => ?_) m
  show catS ns xs (l ++ (m ++ [j])) = none
  rw [← List.append_assoc, catS_snoc, ih]; rfl
theorem catS_hit {ns xs : Nat → Nat} {l : List Nat} {j : Nat} (h : (catS ns xs l).isSome = true) (h1 : 1 ≤ ns j) (h2 : (catL ns xs l).length + ns j ≤ 128) :
    (catS ns xs (l ++ [j])).isSome = true ∧ catL ns xs (l ++ [j]) = catL ns xs l ++ bitsOf (ns j) (xs j) := by
  unfold catL at *
  rw [catS_snoc]
  obtain ⟨a, ha⟩ := Option.isSome_iff_exists.1 h
  rw [ha] at h2 ⊢
  simp only [Option.getD_some, Option.bind_some] at h2 ⊢
  rw [if_pos ⟨h1, h2⟩]
  exact ⟨rfl, rfl⟩
theorem catS_miss {ns xs : Nat → Nat} {l : List Nat} {j : Nat} (h : ¬ (1 ≤ ns j ∧ (catL ns xs l).length + ns j ≤ 128)) : catS ns xs (l ++ [j]) = none := by
  unfold catL at h
  rw [catS_snoc]
  cases ha : catS ns xs l with
  | none => rfl
  | some a => rw [ha] at h; exact if_neg h
theorem catL_le (ns xs : Nat → Nat) (l : List Nat) : (catL ns xs l).length ≤ 128 := by
  refine snocI (p := fun l => (catL ns xs l).length ≤ 128) (by simp [catL, catS]) (fun l j ih => ?_) l
  show (catL ns xs (l ++ [j])).length ≤ 128
  · by_cases h : (catS ns xs l).isSome = true ∧ 1 ≤ ns j ∧ (catL ns xs l).length + ns j ≤ 128
    · rw [(catS_hit h.1 h.2.1 h.2.2).2, List.length_append, bitsOf_length]; exact h.2.2
    · have : catS ns xs (l ++ [j]) = none := by
        by_cases h1 : (catS ns xs l).isSome = true
        · exact catS_miss fun h2 => h ⟨h1, h2⟩
        · rw [catS_snoc]; rw [Option.not_isSome_iff_eq_none.1 h1]; rfl
      unfold catL; rw [this]; exact Nat.zero_le _

theorem blk_own {β : Type} (B : Nat) (t : TypeId) (l : List Value) : Own (fun (_ : β) W => Blk W B t l) := fun s X Y row hs hg hrow =>
  (hg.block B (Array.getElem?_eq_some_iff.1 hs).1 (fun e' => by obtain ⟨o, ho, hc⟩ := hrow B e'.symm; rw [show X.heap[B]? = _ from hs] at ho; cases ho; cases hc)).trans hs

theorem RO.turn {w w' : World} {p : Option Addr} {k c size n : Nat} {cs : List Value} (h : RO w (.slice p k c) size n cs) (hk : ∀ b o, p = some ⟨b, o, none⟩ → w'.heap[b]? = w.heap[b]?) : RO w' (.slice p k c) size n cs := by
  obtain ⟨h1, q, c', e, h3⟩ := h
  cases e
  refine ⟨h1, _, _, rfl, fun j u hu => ?_⟩
  obtain ⟨b, o, e, hc⟩ := h3 j u hu
  refine ⟨b, o, e, ?_⟩
  rw [← hc]; simp only [World.cell?, hk b o e]
theorem RO.add {w : World} {b o n c size n' : Nat} {cs : List Value} (h : RO w (.slice (some ⟨b, o, none⟩) n c) size n' cs) : ∀ j u, cs[j]? = some u → w.cell? ((⟨b, o, none⟩ : Addr).add j) = some u := by
  intro j u hu
  have h2 := h.cell hu
  by_cases hj : j = 0
  · subst hj; simpa [Addr.add] using h2
  · simpa [Addr.add, hj] using h2
theorem wanted_take {b : Bool} {A B : Prop} (hb : b = true) (h : A) : if b = true then A else B := by rw [if_pos hb]; exact h
theorem row_ge {w : World} {base e size n : Nat} {v : Value} {xs : List Value} (h : w.ownsRow base e size v n xs) : ∀ k, v.ownBlock = some k → base ≤ k ∧ ∃ o, w.heap[k]? = some o ∧ o.isCells = true := by
  intro k hk
  rcases h.2 with ⟨rfl, _⟩ | ⟨g, cap, cur, rfl, hg, hgb, _⟩
  · cases hk
  · cases hk; exact ⟨hg, _, hgb, rfl⟩
theorem opIn_append {F : Fence} {n : Nat} {P : Program} (w : World) {o : Oper} {a : Act} {K : Act → World → Prop} {Q : Exit → Act → World → Prop}
    (s x : Operand) (t : TypeId) (hop : o.op = Op.call { callee := Callee.builtin Builtin.append, args := #[s, x], argTypes := #[t, t] })
    (base : Nat) (e : TypeId) (size bytes : Nat) (z : Value) (T : SlTy P t e size bytes z)
    (v : Value) (k : Nat) (xs : List Value) (hs : a.eval s = v) (hown : w.ownsRow base e size v k xs) (ad : Addr) (m c : Nat) (news : List Value) (hx : a.eval x = .slice (some ad) m c) (hn : news.length = m * size)
    (hc : ∀ j u, news[j]? = some u → w.cell? (ad.add j) = some u) (h1c : ∀ u ∈ news, u.oneCell' = true) (b1 : k + m ≤ maxLen) (b2 : (k + m) * bytes ≤ 140737488355328) (b3 : base ≤ w.heap.size)
    (hK : ∀ v' w', w'.ownsRow base e size v' (k + m) (xs ++ news) → w.grownBy w' v.ownBlock → K (a.put o.dst v') w') : o.wpIn F n P a w K Q := by
  obtain ⟨i, h2, h3, h4, h5⟩ := T.i
  obtain ⟨v', w', hrun, r1, r2, r3⟩ := run_append_own (P := P) w base t o.type e i z size bytes T.u h2 h3 h4 h5 T.zs T.sz v k xs hown ad m c news hn hc h1c b1 b2 b3
  unfold Oper.wpIn
  refine ⟨by simp [Oper.about, hop, resolve, Target.leads, Sem.run_pure], ?_⟩
  rw [Oper.semAt_plain F _ _ (by rw [hop]; intro c hc'; cases hc')]
  simp [execOp, hop, resolve, invoke, builtin, hs, hx, hrun, Result.andThen]
  exact hK v' w' r1 r2
theorem KB_b {n₀ Bs : Nat} {w : World} (hn : n₀ ≤ w.heap.size) (hB : Bs < w.heap.size) (W : World) (l : Nat) (o o' : Obj) (hl : w.heap.size ≤ l) (h : W.heap[l]? = some o) (h1 : o.isCells = false) (h2 : o.isWalk = false) : KB n₀ Bs W (W.putObj l o') :=
  ⟨belowK_b hn W l o o' hl h h1 h2, World.putObj_heap_other (by omega)⟩
theorem KeepsOthers.of_below {W W' : World} (h : Below W.heap.size W W') : KeepsOthers W W' := ⟨h.size, fun k o hk _ => (h.block k (Array.getElem?_eq_some_iff.1 hk).1).trans hk⟩
theorem KB.of_below {n₀ Bs : Nat} {W W' : World} (h : Below W.heap.size W W') (hn : n₀ ≤ W.heap.size) (hB : Bs < W.heap.size) : KB n₀ Bs W W' := ⟨h.mono hn, h.block Bs hB⟩

/-- what Cat hands back -/
def CatR (w : World) (m : Nat) (ns xs : Nat → Nat) (e : Ending) (w' : World) : Prop :=
  if (catS ns xs (downs m m)).isSome = true ∧ 1 ≤ (catL ns xs (downs m m)).length then RetE w (catL ns xs (downs m m)).length (valB (catL ns xs (downs m m))) 0 e w' else RetE w 0 0 2 e w'
theorem CatR.bad {w : World} {m : Nat} {ns xs : Nat → Nat} {e : Ending} {w' : World} (h : catS ns xs (downs m m) = none) (k : RetE w 0 0 2 e w') : CatR w m ns xs e w' := by
  unfold CatR; rw [if_neg (by rw [h]; simp)]; exact k
theorem CatR.nil {w : World} {m : Nat} {ns xs : Nat → Nat} {e : Ending} {w' : World} (h : (catL ns xs (downs m m)).length = 0) (k : RetE w 0 0 2 e w') : CatR w m ns xs e w' := by
  unfold CatR; rw [if_neg (by omega)]; exact k
theorem CatR.good {w : World} {m : Nat} {ns xs : Nat → Nat} {e : Ending} {w' : World} (h : (catS ns xs (downs m m)).isSome = true) (h1 : 1 ≤ (catL ns xs (downs m m)).length) (k : RetE w (catL ns xs (downs m m)).length (valB (catL ns xs (downs m m))) 0 e w') : CatR w m ns xs e w' := by
  unfold CatR; rw [if_pos ⟨h, h1⟩]; exact k

set_option maxRecDepth 100000 in
set_option maxHeartbeats 4000000 in
theorem cat_any {w : World} {sv : Value} (m : Nat) (ns xs : Nat → Nat) (sl : Nat → Option Addr × Nat × Nat) (hm : (m : Int) ≤ 100)
    (hI : Vecs w.heap.size w sv m (fun j => (ns j : Int)) sl) (hv : ∀ j, j < m → VR w (.agg #[.int .i64 (ns j), .slice (sl j).1 (sl j).2.1 (sl j).2.2]) (ns j) (xs j)) :
    Calls Try.prog 35 #[sv] w (CatR w m ns xs) := by
  obtain ⟨sa, ca, hsv⟩ : ∃ (sa : Option Addr) (ca : Nat), sv = .slice sa m ca := by
    rcases hI with ⟨h, h'⟩ | ⟨b, off, cap, h, _⟩
    · subst h'; exact ⟨_, _, h⟩
    · exact ⟨_, _, h⟩
  subst hsv
  refine (callsIn_wide (n := 3)).1 ?_
  refine callsIn_of_wp_marks Try.func35 rfl trivial ?_ rfl
  simp only [Try.ntmps35, List.size_toArray, List.length_cons, List.length_nil, Nat.reduceAdd, Nat.reduceSub, Array.replicate_succ, Array.replicate_zero, List.push_toArray, List.append_toArray, List.nil_append, List.cons_append]
  have HI := Lib.hid hI
  have HV := Lib.hid hv
  clear hI hv
  gi_wp2_with (refine ⟨trivial, ?_⟩; gi_at_call 76; refine (backward_in Fence.wide 2 trivial rfl _ _ _ _).mono ?_; rintro e w' ⟨rfl, rfl⟩)
  have b2 := (((Blk.new (w := w) 26 [.int .i64 0, .slice none 0 0]).alloc (.cells #[.int .i64 0] 27)).alloc (.cells #[.slice none 0 0] 35)).alloc (.cells #[.slice sa m ca] 97)
  have b3 := ((Blk.new (w := w.alloc (.cells #[.int .i64 0, .slice none 0 0] 26)) 27 [.int .i64 0]).alloc (.cells #[.slice none 0 0] 35)).alloc (.cells #[.slice sa m ca] 97)
  have b4 := (Blk.new (w := (w.alloc (.cells #[.int .i64 0, .slice none 0 0] 26)).alloc (.cells #[.int .i64 0] 27)) 35 [.slice none 0 0]).alloc (.cells #[.slice sa m ca] 97)
  have bB := Blk.new (w := ((w.alloc (.cells #[.int .i64 0, .slice none 0 0] 26)).alloc (.cells #[.int .i64 0] 27)).alloc (.cells #[.slice none 0 0] 35)) 97 [.slice sa m ca]
  have hB0 : Below w.heap.size w ((((w.alloc (.cells #[.int .i64 0, .slice none 0 0] 26)).alloc (.cells #[.int .i64 0] 27)).alloc (.cells #[.slice none 0 0] 35)).alloc (.cells #[.slice sa m ca] 97)) :=
    ((((Below.refl _ w).alloc (Nat.le_refl _) _).alloc (by simp) _).alloc (by simp; omega) _).alloc (by simp; omega) _
  have hsz : ((((w.alloc (.cells #[.int .i64 0, .slice none 0 0] 26)).alloc (.cells #[.int .i64 0] 27)).alloc (.cells #[.slice none 0 0] 35)).alloc (.cells #[.slice sa m ca] 97)).heap.size = w.heap.size + 4 := by simp
  simp only [World.size_alloc] at b2 b3 b4 bB
  obtain ⟨W0, hW0⟩ : ∃ W0, (((w.alloc (.cells #[.int .i64 0, .slice none 0 0] 26)).alloc (.cells #[.int .i64 0] 27)).alloc (.cells #[.slice none 0 0] 35)).alloc (.cells #[.slice sa m ca] 97) = W0 := ⟨_, rfl⟩
  rw [hW0] at hB0 hsz ⊢
  replace b2 : Blk W0 w.heap.size 26 [.int .i64 0, .slice none 0 0] := hW0 ▸ b2
  replace b3 : Blk W0 (w.heap.size + 1) 27 [.int .i64 0] := hW0 ▸ b3
  replace b4 : Blk W0 (w.heap.size + 1 + 1) 35 [.slice none 0 0] := hW0 ▸ b4
  replace bB : Blk W0 (w.heap.size + 1 + 1 + 1) 97 [.slice sa m ca] := hW0 ▸ bB
  clear hW0
  refine wpIn_rangeFunc_ownH (F := Fence.wide) (n := 3) rfl (by decide) (gf := 91) (lb := #[.pointer (some ⟨w.heap.size + 1 + 1 + 1, 0, none⟩)]) rfl trivial (enters_of Try.func91 (by kernel_rfl) rfl)
    (back_stops Fence.wide 2 trivial rfl (by decide) (w.heap.size + 1 + 1 + 1) w.heap.size (.slice sa m ca) m (fun j => (ns j : Int)) sl hm W0 (by omega) (by omega) (bB.cell (i := 0) rfl) (HI.out.below hB0)) (fun h k => h.trans k) (KB_b (by omega) (by omega)) (Below.refl _ _) (fun _ => rfl)
    (fun pre W => ((∃ v, Boxed W (w.heap.size + 1 + 1) 35 v ∧ W.ownsRow (w.heap.size + 4) 4 1 v (catL ns xs (pre.map (·.1))).length (bools (catL ns xs (pre.map (·.1)))) ∧ (catS ns xs (pre.map (·.1))).isSome = true) ∧ (Blk W w.heap.size 26 [.int .i64 0, .slice none 0 0] ∧ Blk W (w.heap.size + 1) 27 [.int .i64 0])) ∧ Below w.heap.size w W ∧ w.heap.size + 4 ≤ W.heap.size)
    (fun c pre W => ((c = .ret ∧ catS ns xs (pre.map (·.1)) = none) ∧ (Blk W w.heap.size 26 [.int .i64 0, .slice none 0 0] ∧ Blk W (w.heap.size + 1) 27 [.int .i64 2])) ∧ Below w.heap.size w W)
    (OwnFrom.and (OwnFrom.and (Own.from (holdsRow_own (w.heap.size + 4) (w.heap.size + 1 + 1) 35 4 1 (fun pre : List (Fin m) => (catL ns xs (pre.map (·.1))).length) (fun pre => bools (catL ns xs (pre.map (·.1)))) (fun pre _ => (catS ns xs (pre.map (·.1))).isSome = true)) _) (OwnFrom.and (Own.from (blk_own _ _ _) _) (Own.from (blk_own _ _ _) _))) (OwnFrom.and (ownFrom_below (Nat.le_refl _) (by omega)) (fun _ X Y row hs hg _ => Nat.le_trans hs hg.size)))
    (fun c => OwnFrom.and (OwnFrom.and (ownFrom_pure _ (fun pre : List (Fin m) => c = .ret ∧ catS ns xs (pre.map (·.1)) = none)) (OwnFrom.and (Own.from (blk_own _ _ _) _) (Own.from (blk_own _ _ _) _))) (ownFrom_below (Nat.le_refl _) (by omega)))
    ⟨⟨⟨_, b4, World.ownsRow_nil _ _ _ _, rfl⟩, b2, b3⟩, hB0, by omega⟩
    (fun x a' W => ∃ Bx, w.heap.size + 4 ≤ Bx ∧ Blk W Bx 26 [.int .i64 (ns x.1), .slice (sl x.1).1 (sl x.1).2.1 (sl x.1).2.2] ∧ a' = { tmps := #[.slice sa m ca, undef, .pointer (some ⟨w.heap.size, 0, none⟩), .pointer (some ⟨w.heap.size + 1, 0, none⟩), .pointer (some ⟨w.heap.size + 1 + 1, 0, none⟩), undef, .pointer (some ⟨Bx, 0, none⟩), .slice sa m ca, .func (.func 91) #[] #[.pointer (some ⟨w.heap.size + 1 + 1 + 1, 0, none⟩)], .int .i64 (x.1 : Int), .agg #[.int .i64 (ns x.1), .slice (sl x.1).1 (sl x.1).2.1 (sl x.1).2.2], undef, undef, undef, undef, undef, undef, undef, undef, undef, undef, undef, undef, undef, undef, undef, undef, undef, undef, undef, undef], defers := [] })
    (fun x a' _ X Y row hs hg hr => by obtain ⟨Bx, h1, h2, h3⟩ := hs; exact ⟨Bx, h1, blk_own Bx 26 _ () X Y row h2 hg (fun r e => (hr r e).2), h3⟩)
    ?assign ?body ?done ?stop
  case assign =>
    rintro l pre x W K ⟨⟨⟨v, b41, row1, ok1⟩, b21, b31⟩, hB1, hW4⟩ hK
    gi_wp2
    have hbel := Below.new W (.cells #[.int .i64 (ns x.1), .slice (sl x.1).1 (sl x.1).2.1 (sl x.1).2.2] 26)
    have hsW := hB1.size
    have h4W : w.heap.size + 4 ≤ W.heap.size := hW4
    exact hK _ _ ((KeepsOthers.of_below hbel).from _) (KB.of_below hbel hsW (by omega)) ⟨⟨⟨v, Blk.next (l := [v]) b41 hbel, ownsRow_below row1 hbel, ok1⟩, b21.next hbel, b31.next hbel⟩, hB1.trans (hbel.mono hsW), Nat.le_trans hW4 hbel.size⟩
      ⟨W.heap.size, h4W, Blk.new 26 [.int .i64 (ns x.1), .slice (sl x.1).1 (sl x.1).2.1 (sl x.1).2.2], rfl⟩
  case body =>
    rintro l pre x a' W hl ⟨r, hr⟩ ⟨⟨⟨v, b41, row1, ok1⟩, b21, b31⟩, hB1, hW4⟩ ⟨Bx, hBx, bX, rfl⟩ hlt
    have hvx := HV.out x.1 x.2
    have hle := hvx.le
    have hKl := catL_le ns xs (pre.map (·.1))
    obtain ⟨pv, cv, rfl⟩ := ownsRow_form row1
    obtain ⟨nn, hnn⟩ : ∃ nn, ns x.1 = nn := ⟨_, rfl⟩
    obtain ⟨al, hal⟩ : ∃ al, catL ns xs (pre.map (·.1)) = al := ⟨_, rfl⟩
    obtain ⟨K, hKe⟩ : ∃ K, al.length = K := ⟨_, rfl⟩
    have hsW := hB1.size
    have hmiss := catS_miss (ns := ns) (xs := xs) (l := pre.map (·.1)) (j := x.1)
    have hhit := catS_hit (xs := xs) (j := x.1) ok1
    have hmap : (pre ++ [x]).map (·.1) = pre.map (·.1) ++ [x.1] := by simp
    simp only [hnn, hal, hKe] at *
    have HM := Lib.hid hmiss
    have HT := Lib.hid hhit
    have HP := Lib.hid hmap
    have HX := Lib.hid hvx
    have HE := Lib.hid (And.intro hnn (And.intro hal (And.intro hKe (And.intro ok1 hlt))))
    have hni : (nn : Int) ≤ 128 := by omega
    have hki : (K : Int) ≤ 128 := by omega
    have hw : IntKind.i64.wrap (128 - (nn : Int)) = 128 - nn := by unfold IntKind.wrap; simp [IntKind.bits, IntKind.signed]; omega
    have c0 := bX.cell (i := 0) rfl
    have c1 := bX.cell (i := 1) rfl
    have c4 := Blk.cell (i := 0) (l := [_]) b41 rfl
    have d20 := b21.cell (i := 0) rfl
    have d21 := b21.cell (i := 1) rfl
    have d3 := b31.cell (i := 0) rfl
    have f2 := b21.frz 0
    have f21 := b21.frz 1
    have f3 := b31.frz 0
    have f4 := Blk.frz (l := [_]) b41 0
    clear hmiss hhit hmap hvx hnn hal hKe ok1 hlt hle hKl
    by_cases hz : nn = 0
    · have hzi : (nn : Int) = 0 := by omega
      rw [hzi] at c0
      gi_wp2
      exact ⟨(((KeepsOthers.setCell _ _ _).trans (KeepsOthers.setCell _ _ _)).trans (KeepsOthers.setCell _ _ _)).from _,
        ⟨⟨rfl, by rw [HP.out]; exact HM.out (by omega)⟩, ((b21.set 0 _).set 1 _).other (a := ⟨w.heap.size + 1, 0, none⟩) _ (by simp), ((b31.other (a := ⟨w.heap.size, 0, none⟩) _ (by simp)).other (a := ⟨w.heap.size, 1, none⟩) _ (by simp)).set 0 _⟩,
        ((hB1.setCell (Nat.le_refl _) _).setCell (Nat.le_refl _) _).setCell (Nat.le_succ _) _⟩
    · have hzi : ¬ (nn : Int) = 0 := by omega
      by_cases hg : K + nn ≤ 128
      · have hgi : ¬ (128 - (nn : Int) < (K : Int)) := by omega
        have hmx : Try.prog.follows .mixedOrders = true := by kernel_rfl
        obtain ⟨i0, hi, hz0, hz1, hz2⟩ := Try.T35.i
        have HBt : Hid (∀ W', Below W.heap.size W W' → Calls Try.prog 59 #[.agg #[.int .i64 nn, .slice (sl x.1).1 (sl x.1).2.1 (sl x.1).2.2]] W' fun e w' => ∃ v, e = .returned v ∧ RO w' v 1 nn (bools (bitsOf nn (xs x.1))) ∧ Below W'.heap.size W' w') := Lib.hid fun W' hb => bits_any ((HX.out.below (hB1)).below hb)
        have hl0 : ∃ u, (bools (bitsOf nn (xs x.1)))[0]? = some u := ⟨_, bools_at _ 0 (by rw [bitsOf_length]; omega)⟩
        obtain ⟨u0, hu0⟩ := hl0
        have hone := bools_one (bitsOf nn (xs x.1))
        have hlen : (bools (bitsOf nn (xs x.1))).length = nn * 1 := by simp [bools, bitsOf_length]
        have HN := Lib.hid (And.intro hu0 (And.intro hone hlen))
        have HG := Lib.hid (And.intro hg hz)
        have hge := row_ge row1
        clear hu0 hone hlen hg hz
        gi_wp2
        refine wpIn_region_any hmx ?_
        change wpAnyIn _ _ _ _ _ _ _ _ _ (World.drew _)
        refine wpAnyIn_ready (rs := [0, 1]) (by kernel_rfl) (by simp) ?_
        refine AllReadyIn.cons rfl (fun K0 hK0 => ?_) ?_
        · go_simp
          refine hK0 _ _ ?_
          clear hK0 K0
          refine wpAnyIn_ready (rs := [1]) (by kernel_rfl) (by simp) ?_
          refine AllReadyIn.cons rfl (fun K0 hK0 => ?_) ?_
          · go_simp
            refine hK0 _ _ ?_
            clear hK0 K0
            refine wpAnyIn_ready (rs := [2]) (by kernel_rfl) (by simp) ?_
            refine AllReadyIn.cons rfl (fun K0 hK0 => ?_) ?_
            · go_simp
              gi_wp2_with (refine ⟨trivial, ?_⟩; gi_at_call 59; refine (CallsIn.inRound l (callsIn_wide.2 (HBt.out _ ((Below.refl _ W).drew)))).mono ?_; rintro e w1 ⟨bv, rfl, hrb, hbb⟩; obtain ⟨pb, cb, rfl⟩ := hrb.form; obtain ⟨bb, ob, rfl⟩ := hrb.sl HN.out.1; have hr1 := ownsRow_below (w := W.drew) row1 hbb; have b42 := Blk.next (l := [_]) (w := W.drew) b41 hbb; have c42 := b42.cell (i := 0) rfl; have hcb := hrb.add; clear hrb)
              refine wpAnyIn_ready (rs := [3]) (by kernel_rfl) (by simp) ?_
              refine AllReadyIn.cons rfl (fun K0 hK0 => ?_) ?_
              · refine wanted_take rfl ?_
                refine opIn_append w1 _ _ 35 rfl (w.heap.size + 4) 4 1 1 (.bool false) Try.T35 (.slice pv K cv) K _ rfl hr1 ⟨bb, ob, none⟩ nn cb (bools (bitsOf nn (xs x.1))) rfl HN.out.2.2 hcb HN.out.2.1 (by simp only [maxLen]; omega) (by omega) (by have := hbb.size; simp at this; omega) ?_
                intro v2 w2 hr2 hgr2
                obtain ⟨p2, k2, rfl⟩ := ownsRow_form hr2
                have b43 : Blk w2 (w.heap.size + 1 + 1) 35 [.slice pv K cv] := (hgr2.block _ b42.lt (fun e => by have := (hge _ e.symm).1; omega)).trans b42
                have c43 := b43.cell (i := 0) rfl
                have f43 := b43.frz 0
                refine hK0 _ _ ?_
                clear hK0 K0
                refine wpAnyIn_ready (rs := [4]) (by kernel_rfl) (by simp) ?_
                refine AllReadyIn.cons rfl (fun K0 hK0 => ?_) ?_
                · go_simp
                  refine hK0 _ _ ?_
                  clear hK0 K0
                  refine wpAnyIn_done (by kernel_rfl) ?_ _
                  gi_wp2
                  have hsz1 : w.heap.size + 4 ≤ w1.heap.size := Nat.le_trans hW4 hbb.size
                  have hKO : KeepsOthers W w1 := KeepsOthers.of_below (((Below.refl _ W).drew).trans hbb)
                  have hKO2 : KeepsOthers w1 w2 := KeepsOthers.of_grownBy hgr2 (fun j o ej hj => by obtain ⟨_, o', ho, hc⟩ := row_ge hr1 j ej; rw [ho] at hj; cases hj; exact hc)
                  have hbw : Below w.heap.size w1 w2 := (Below.refl _ _).grown hgr2 (by omega) (fun k e => by have := (hge k e).1; omega)
                  have hB2 : Below w.heap.size W w2 := ((((Below.refl _ W).drew).trans hbb).mono hsW).trans hbw
                  have hbox : ∀ k, k < w.heap.size + 4 → w2.heap[k]? = W.heap[k]? := fun k hk => (hgr2.block k (by omega) (fun e => by have := (hge k e.symm).1; omega)).trans ((((Below.refl _ W).drew).trans hbb).block k (Nat.lt_of_lt_of_le hk hW4))
                  have hB3 : Below w.heap.size W (w2.setCell ⟨w.heap.size + 1 + 1, 0, none⟩ (.slice p2 (K + nn) k2)) := hB2.setCell (p := ⟨w.heap.size + 1 + 1, 0, none⟩) (by show w.heap.size ≤ w.heap.size + 1 + 1; omega) _
                  obtain ⟨hg, hz⟩ := HG.out
                  have hT := HT.out (by omega) (by omega)
                  have hlenK : al.length = K := by have := row1.1; simpa [bools] using this
                  have hr3 : (w2.setCell ⟨w.heap.size + 1 + 1, 0, none⟩ (.slice p2 (K + nn) k2)).ownsRow (w.heap.size + 4) 4 1 (.slice p2 (K + nn) k2) (K + nn) (bools al ++ bools (bitsOf nn (xs x.1))) := ownsRow_keep hr2 (fun k hk => Below.heap_setCell _ _ _ _ (by have := (row_ge hr2 k hk).1; show k ≠ w.heap.size + 1 + 1; omega))
                  have hrr3 : (w2.setCell ⟨w.heap.size + 1 + 1, 0, none⟩ (.slice p2 (K + nn) k2)).ownsRow (w.heap.size + 4) 4 1 (.slice p2 (K + nn) k2) (catL ns xs ((pre ++ [x]).map (·.1))).length (bools (catL ns xs ((pre ++ [x]).map (·.1)))) := by
                    rw [HP.out, hT.2, ← bools_append, List.length_append, bitsOf_length, hlenK]; exact hr3
                  exact ⟨((hKO.trans hKO2).trans (KeepsOthers.setCell _ _ _)).from _, ⟨hB3, (Below.heap_setCell _ _ _ _ (by show w.heap.size + 1 + 1 + 1 ≠ w.heap.size + 1 + 1; omega)).trans (hbox _ (by omega))⟩,
                    ⟨⟨_, b43.set 0 _, hrr3, by rw [HP.out]; exact hT.1⟩, (Below.heap_setCell _ _ _ _ (by show w.heap.size ≠ w.heap.size + 1 + 1; omega)).trans ((hbox _ (by omega)).trans b21), (Below.heap_setCell _ _ _ _ (by show w.heap.size + 1 ≠ w.heap.size + 1 + 1; omega)).trans ((hbox _ (by omega)).trans b31)⟩,
                    hB1.trans hB3, Nat.le_trans hW4 hB3.size⟩
                exact AllReadyIn.nil
              exact AllReadyIn.nil
            exact AllReadyIn.nil
          exact AllReadyIn.nil
        refine AllReadyIn.cons rfl (fun K0 hK0 => ?_) ?_
        · go_simp
          refine hK0 _ _ ?_
          clear hK0 K0
          refine wpAnyIn_ready (rs := [0, 2]) (by kernel_rfl) (by simp) ?_
          refine AllReadyIn.cons rfl (fun K0 hK0 => ?_) ?_
          · go_simp
            refine hK0 _ _ ?_
            clear hK0 K0
            refine wpAnyIn_ready (rs := [2]) (by kernel_rfl) (by simp) ?_
            refine AllReadyIn.cons rfl (fun K0 hK0 => ?_) ?_
            · go_simp
              gi_wp2_with (refine ⟨trivial, ?_⟩; gi_at_call 59; refine (CallsIn.inRound l (callsIn_wide.2 (HBt.out _ ((Below.refl _ W).drew)))).mono ?_; rintro e w1 ⟨bv, rfl, hrb, hbb⟩; obtain ⟨pb, cb, rfl⟩ := hrb.form; obtain ⟨bb, ob, rfl⟩ := hrb.sl HN.out.1; have hr1 := ownsRow_below (w := W.drew) row1 hbb; have b42 := Blk.next (l := [_]) (w := W.drew) b41 hbb; have c42 := b42.cell (i := 0) rfl; have hcb := hrb.add; clear hrb)
              refine wpAnyIn_ready (rs := [3]) (by kernel_rfl) (by simp) ?_
              refine AllReadyIn.cons rfl (fun K0 hK0 => ?_) ?_
              · refine wanted_take rfl ?_
                refine opIn_append w1 _ _ 35 rfl (w.heap.size + 4) 4 1 1 (.bool false) Try.T35 (.slice pv K cv) K _ rfl hr1 ⟨bb, ob, none⟩ nn cb (bools (bitsOf nn (xs x.1))) rfl HN.out.2.2 hcb HN.out.2.1 (by simp only [maxLen]; omega) (by omega) (by have := hbb.size; simp at this; omega) ?_
                intro v2 w2 hr2 hgr2
                obtain ⟨p2, k2, rfl⟩ := ownsRow_form hr2
                have b43 : Blk w2 (w.heap.size + 1 + 1) 35 [.slice pv K cv] := (hgr2.block _ b42.lt (fun e => by have := (hge _ e.symm).1; omega)).trans b42
                have c43 := b43.cell (i := 0) rfl
                have f43 := b43.frz 0
                refine hK0 _ _ ?_
                clear hK0 K0
                refine wpAnyIn_ready (rs := [4]) (by kernel_rfl) (by simp) ?_
                refine AllReadyIn.cons rfl (fun K0 hK0 => ?_) ?_
                · go_simp
                  refine hK0 _ _ ?_
                  clear hK0 K0
                  refine wpAnyIn_done (by kernel_rfl) ?_ _
                  gi_wp2
                  have hsz1 : w.heap.size + 4 ≤ w1.heap.size := Nat.le_trans hW4 hbb.size
                  have hKO : KeepsOthers W w1 := KeepsOthers.of_below (((Below.refl _ W).drew).trans hbb)
                  have hKO2 : KeepsOthers w1 w2 := KeepsOthers.of_grownBy hgr2 (fun j o ej hj => by obtain ⟨_, o', ho, hc⟩ := row_ge hr1 j ej; rw [ho] at hj; cases hj; exact hc)
                  have hbw : Below w.heap.size w1 w2 := (Below.refl _ _).grown hgr2 (by omega) (fun k e => by have := (hge k e).1; omega)
                  have hB2 : Below w.heap.size W w2 := ((((Below.refl _ W).drew).trans hbb).mono hsW).trans hbw
                  have hbox : ∀ k, k < w.heap.size + 4 → w2.heap[k]? = W.heap[k]? := fun k hk => (hgr2.block k (by omega) (fun e => by have := (hge k e.symm).1; omega)).trans ((((Below.refl _ W).drew).trans hbb).block k (Nat.lt_of_lt_of_le hk hW4))
                  have hB3 : Below w.heap.size W (w2.setCell ⟨w.heap.size + 1 + 1, 0, none⟩ (.slice p2 (K + nn) k2)) := hB2.setCell (p := ⟨w.heap.size + 1 + 1, 0, none⟩) (by show w.heap.size ≤ w.heap.size + 1 + 1; omega) _
                  obtain ⟨hg, hz⟩ := HG.out
                  have hT := HT.out (by omega) (by omega)
                  have hlenK : al.length = K := by have := row1.1; simpa [bools] using this
                  have hr3 : (w2.setCell ⟨w.heap.size + 1 + 1, 0, none⟩ (.slice p2 (K + nn) k2)).ownsRow (w.heap.size + 4) 4 1 (.slice p2 (K + nn) k2) (K + nn) (bools al ++ bools (bitsOf nn (xs x.1))) := ownsRow_keep hr2 (fun k hk => Below.heap_setCell _ _ _ _ (by have := (row_ge hr2 k hk).1; show k ≠ w.heap.size + 1 + 1; omega))
                  have hrr3 : (w2.setCell ⟨w.heap.size + 1 + 1, 0, none⟩ (.slice p2 (K + nn) k2)).ownsRow (w.heap.size + 4) 4 1 (.slice p2 (K + nn) k2) (catL ns xs ((pre ++ [x]).map (·.1))).length (bools (catL ns xs ((pre ++ [x]).map (·.1)))) := by
                    rw [HP.out, hT.2, ← bools_append, List.length_append, bitsOf_length, hlenK]; exact hr3
                  exact ⟨((hKO.trans hKO2).trans (KeepsOthers.setCell _ _ _)).from _, ⟨hB3, (Below.heap_setCell _ _ _ _ (by show w.heap.size + 1 + 1 + 1 ≠ w.heap.size + 1 + 1; omega)).trans (hbox _ (by omega))⟩,
                    ⟨⟨_, b43.set 0 _, hrr3, by rw [HP.out]; exact hT.1⟩, (Below.heap_setCell _ _ _ _ (by show w.heap.size ≠ w.heap.size + 1 + 1; omega)).trans ((hbox _ (by omega)).trans b21), (Below.heap_setCell _ _ _ _ (by show w.heap.size + 1 ≠ w.heap.size + 1 + 1; omega)).trans ((hbox _ (by omega)).trans b31)⟩,
                    hB1.trans hB3, Nat.le_trans hW4 hB3.size⟩
                exact AllReadyIn.nil
              exact AllReadyIn.nil
            exact AllReadyIn.nil
          refine AllReadyIn.cons rfl (fun K0 hK0 => ?_) ?_
          · go_simp
            gi_wp2_with (refine ⟨trivial, ?_⟩; gi_at_call 59; refine (CallsIn.inRound l (callsIn_wide.2 (HBt.out _ ((Below.refl _ W).drew)))).mono ?_; rintro e w1 ⟨bv, rfl, hrb, hbb⟩; obtain ⟨pb, cb, rfl⟩ := hrb.form; obtain ⟨bb, ob, rfl⟩ := hrb.sl HN.out.1; have hr1 := ownsRow_below (w := W.drew) row1 hbb; have b42 := Blk.next (l := [_]) (w := W.drew) b41 hbb; have c42 := b42.cell (i := 0) rfl; have hcb := hrb.add; clear hrb)
            refine wpAnyIn_ready (rs := [0]) (by kernel_rfl) (by simp) ?_
            refine AllReadyIn.cons rfl (fun K0 hK0 => ?_) ?_
            · go_simp
              refine hK0 _ _ ?_
              clear hK0 K0
              refine wpAnyIn_ready (rs := [3]) (by kernel_rfl) (by simp) ?_
              refine AllReadyIn.cons rfl (fun K0 hK0 => ?_) ?_
              · refine wanted_take rfl ?_
                refine opIn_append w1 _ _ 35 rfl (w.heap.size + 4) 4 1 1 (.bool false) Try.T35 (.slice pv K cv) K _ rfl hr1 ⟨bb, ob, none⟩ nn cb (bools (bitsOf nn (xs x.1))) rfl HN.out.2.2 hcb HN.out.2.1 (by simp only [maxLen]; omega) (by omega) (by have := hbb.size; simp at this; omega) ?_
                intro v2 w2 hr2 hgr2
                obtain ⟨p2, k2, rfl⟩ := ownsRow_form hr2
                have b43 : Blk w2 (w.heap.size + 1 + 1) 35 [.slice pv K cv] := (hgr2.block _ b42.lt (fun e => by have := (hge _ e.symm).1; omega)).trans b42
                have c43 := b43.cell (i := 0) rfl
                have f43 := b43.frz 0
                refine hK0 _ _ ?_
                clear hK0 K0
                refine wpAnyIn_ready (rs := [4]) (by kernel_rfl) (by simp) ?_
                refine AllReadyIn.cons rfl (fun K0 hK0 => ?_) ?_
                · go_simp
                  refine hK0 _ _ ?_
                  clear hK0 K0
                  refine wpAnyIn_done (by kernel_rfl) ?_ _
                  gi_wp2
                  have hsz1 : w.heap.size + 4 ≤ w1.heap.size := Nat.le_trans hW4 hbb.size
                  have hKO : KeepsOthers W w1 := KeepsOthers.of_below (((Below.refl _ W).drew).trans hbb)
                  have hKO2 : KeepsOthers w1 w2 := KeepsOthers.of_grownBy hgr2 (fun j o ej hj => by obtain ⟨_, o', ho, hc⟩ := row_ge hr1 j ej; rw [ho] at hj; cases hj; exact hc)
                  have hbw : Below w.heap.size w1 w2 := (Below.refl _ _).grown hgr2 (by omega) (fun k e => by have := (hge k e).1; omega)
                  have hB2 : Below w.heap.size W w2 := ((((Below.refl _ W).drew).trans hbb).mono hsW).trans hbw
                  have hbox : ∀ k, k < w.heap.size + 4 → w2.heap[k]? = W.heap[k]? := fun k hk => (hgr2.block k (by omega) (fun e => by have := (hge k e.symm).1; omega)).trans ((((Below.refl _ W).drew).trans hbb).block k (Nat.lt_of_lt_of_le hk hW4))
                  have hB3 : Below w.heap.size W (w2.setCell ⟨w.heap.size + 1 + 1, 0, none⟩ (.slice p2 (K + nn) k2)) := hB2.setCell (p := ⟨w.heap.size + 1 + 1, 0, none⟩) (by show w.heap.size ≤ w.heap.size + 1 + 1; omega) _
                  obtain ⟨hg, hz⟩ := HG.out
                  have hT := HT.out (by omega) (by omega)
                  have hlenK : al.length = K := by have := row1.1; simpa [bools] using this
                  have hr3 : (w2.setCell ⟨w.heap.size + 1 + 1, 0, none⟩ (.slice p2 (K + nn) k2)).ownsRow (w.heap.size + 4) 4 1 (.slice p2 (K + nn) k2) (K + nn) (bools al ++ bools (bitsOf nn (xs x.1))) := ownsRow_keep hr2 (fun k hk => Below.heap_setCell _ _ _ _ (by have := (row_ge hr2 k hk).1; show k ≠ w.heap.size + 1 + 1; omega))
                  have hrr3 : (w2.setCell ⟨w.heap.size + 1 + 1, 0, none⟩ (.slice p2 (K + nn) k2)).ownsRow (w.heap.size + 4) 4 1 (.slice p2 (K + nn) k2) (catL ns xs ((pre ++ [x]).map (·.1))).length (bools (catL ns xs ((pre ++ [x]).map (·.1)))) := by
                    rw [HP.out, hT.2, ← bools_append, List.length_append, bitsOf_length, hlenK]; exact hr3
                  exact ⟨((hKO.trans hKO2).trans (KeepsOthers.setCell _ _ _)).from _, ⟨hB3, (Below.heap_setCell _ _ _ _ (by show w.heap.size + 1 + 1 + 1 ≠ w.heap.size + 1 + 1; omega)).trans (hbox _ (by omega))⟩,
                    ⟨⟨_, b43.set 0 _, hrr3, by rw [HP.out]; exact hT.1⟩, (Below.heap_setCell _ _ _ _ (by show w.heap.size ≠ w.heap.size + 1 + 1; omega)).trans ((hbox _ (by omega)).trans b21), (Below.heap_setCell _ _ _ _ (by show w.heap.size + 1 ≠ w.heap.size + 1 + 1; omega)).trans ((hbox _ (by omega)).trans b31)⟩,
                    hB1.trans hB3, Nat.le_trans hW4 hB3.size⟩
                exact AllReadyIn.nil
              exact AllReadyIn.nil
            exact AllReadyIn.nil
          exact AllReadyIn.nil
        exact AllReadyIn.nil
      · have hgi : 128 - (nn : Int) < (K : Int) := by omega
        gi_wp2
        exact ⟨(((KeepsOthers.setCell _ _ _).trans (KeepsOthers.setCell _ _ _)).trans (KeepsOthers.setCell _ _ _)).from _,
        ⟨⟨rfl, by rw [HP.out]; exact HM.out (by omega)⟩, ((b21.set 0 _).set 1 _).other (a := ⟨w.heap.size + 1, 0, none⟩) _ (by simp), ((b31.other (a := ⟨w.heap.size, 0, none⟩) _ (by simp)).other (a := ⟨w.heap.size, 1, none⟩) _ (by simp)).set 0 _⟩,
        ((hB1.setCell (Nat.le_refl _) _).setCell (Nat.le_refl _) _).setCell (Nat.le_succ _) _⟩
  case done =>
    rintro D ys W hD hys ⟨⟨⟨v, b41, row1, ok1⟩, b21, b31⟩, hB1, hW4⟩ hK
    rw [hys] at row1 ok1
    obtain ⟨al, hal⟩ : ∃ al, catL ns xs (downs m m) = al := ⟨_, rfl⟩
    have hle := catL_le ns xs (downs m m)
    have hro : RO W v 1 al.length (bools al) := by rw [← hal]; exact RO.own row1
    rw [hal] at hle
    obtain ⟨n', x', er, HC, hfin⟩ : ∃ (n' x' : Nat) (er : Int), Calls Try.prog 21 #[v] W (RetE W n' x' er) ∧ ∀ e w', RetE w n' x' er e w' → CatR w m ns xs e w' := by
      by_cases h0 : 1 ≤ al.length
      · exact ⟨_, _, _, of_good hro h0 hle, fun e w' h => by subst hal; exact CatR.good ok1 h0 h⟩
      · exact ⟨_, _, _, of_bad hro (by omega) (by omega), fun e w' h => by subst hal; exact CatR.nil (by omega) h⟩
    have c4 := Blk.cell (i := 0) (l := [v]) b41 rfl
    have HH := Lib.hid (And.intro b21 (And.intro b31 (And.intro hB1 (And.intro hW4 (And.intro hfin hys)))))
    clear b21 b31 hW4 hfin hle hro row1 ok1 hys b2 b3 b4
    gi_wp2_with (refine ⟨trivial, ?_⟩; gi_at_call 21; refine (callsIn_wide.2 HC).mono ?_; rintro e w1 ⟨rv, rfl, ⟨⟨pr, cr, rfl, hrr⟩, hlt1, hle1⟩, hbe, hfar⟩; have HX := Lib.hid (And.intro hrr (And.intro hlt1 (And.intro hle1 (And.intro hbe hfar)))); clear hlt1 hle1 hfar hrr; have d20 := ((HH.out.1.next hbe).cell (i := 0) rfl); have d21 := ((HH.out.1.next hbe).cell (i := 1) rfl); have d3 := ((HH.out.2.1.next hbe).cell (i := 0) rfl); have f2 := (HH.out.1.next hbe).frz 0; have f21 := (HH.out.1.next hbe).frz 1; have f3 := (HH.out.2.1.next hbe).frz 0; clear hbe)
    obtain ⟨b21, b31, hB1', hW4, hfin, hys⟩ := HH.out
    obtain ⟨hrr, hlt1, hle1, hbe, hfar⟩ := HX.out
    have hD' := (Array.getElem?_eq_some_iff.1 hK).1
    have e1 := b21.next hbe
    have e2 := ((e1.set 0 (.int .i64 n')).set 1 (.slice pr (wcount n') cr)).other (a := ⟨w.heap.size + 1, 0, none⟩) (.int .i64 er) (by simp)
    have e3 := (((b31.next hbe).other (a := ⟨w.heap.size, 0, none⟩) (.int .i64 n') (by simp)).other (a := ⟨w.heap.size, 1, none⟩) (.slice pr (wcount n') cr) (by simp)).set 0 (.int .i64 er)
    have hoth : ∀ k, k ≠ w.heap.size → k ≠ w.heap.size + 1 → (((w1.setCell ⟨w.heap.size, 0, none⟩ (.int .i64 n')).setCell ⟨w.heap.size, 1, none⟩ (.slice pr (wcount n') cr)).setCell ⟨w.heap.size + 1, 0, none⟩ (.int .i64 er)).heap[k]? = w1.heap[k]? := fun k h1 h2 => by
      rw [Below.heap_setCell _ _ _ _ h2, Below.heap_setCell _ _ _ _ h1, Below.heap_setCell _ _ _ _ h1]
    have hbel : Below w.heap.size w (((w1.setCell ⟨w.heap.size, 0, none⟩ (.int .i64 n')).setCell ⟨w.heap.size, 1, none⟩ (.slice pr (wcount n') cr)).setCell ⟨w.heap.size + 1, 0, none⟩ (.int .i64 er)) :=
      (((hB1.trans (hbe.mono hB1.size)).setCell (Nat.le_refl _) _).setCell (Nat.le_refl _) _).setCell (Nat.le_succ _) _
    have hK3 := (hoth D (by omega) (by omega)).trans ((hbe.block D hD').trans hK)
    refine ⟨by simp, .inl ⟨_, _, rfl, run_takeDeferred hK3, ?_⟩⟩
    have g20 := cell_kept (e2.cell (i := 0) rfl) (grownBy_putObj' _ D (.deferred none)) (fun r e => by cases e; exact ⟨_, hK3, rfl⟩)
    have g21 := cell_kept (e2.cell (i := 1) rfl) (grownBy_putObj' _ D (.deferred none)) (fun r e => by cases e; exact ⟨_, hK3, rfl⟩)
    have g3 := cell_kept (e3.cell (i := 0) rfl) (grownBy_putObj' _ D (.deferred none)) (fun r e => by cases e; exact ⟨_, hK3, rfl⟩)
    have hBe := hbel.trans (belowK_b (w := w) (Nat.le_refl _) _ D _ (.deferred none) (by omega) hK3 rfl rfl)
    refine ⟨.tuple #[.agg #[.int .i64 n', .slice pr (wcount n') cr], .int .i64 er], ?_, ?_⟩
    · simp [results, Try.f35, go_sem, g20, g21, g3]
    · refine hfin _ _ ⟨_, rfl, ⟨⟨_, _, rfl, hrr.turn fun b o e => ?_⟩, hlt1, hle1⟩, hBe, fun k p m' c b o e e' => Nat.le_trans hB1.size (hfar k p m' c b o e e')⟩
      have hb := hfar _ _ _ _ _ _ rfl e
      rw [World.putObj_heap_other (by omega)]
      exact hoth b (by omega) (by omega)
  case stop =>
    rintro D c pre W hD ⟨k, hk, hpre⟩ ⟨⟨⟨rfl, hno⟩, b21, b31⟩, hB1⟩ hK
    have hall : catS ns xs (downs m m) = none := by
      obtain ⟨t, ht⟩ : ∃ t, downs m m = downs m k ++ t := by
        refine ⟨(downs m m).drop k, ?_⟩
        have : downs m k = (downs m m).take k := by simp [downs, ← List.map_take, List.take_range, Nat.min_eq_left hk]
        rw [this, List.take_append_drop]
      rw [ht, ← hpre]; exact catS_none _ _ _ _ hno
    have c20 := b21.cell (i := 0) rfl
    have c21 := b21.cell (i := 1) rfl
    have c3 := b31.cell (i := 0) rfl
    gi_wp2
    refine ⟨by simp, .inl ⟨_, _, rfl, run_takeDeferred hK, ?_⟩⟩
    have d20 := cell_kept c20 (grownBy_putObj' _ D (.deferred none)) (fun r e => by cases e; exact ⟨_, hK, rfl⟩)
    have d21 := cell_kept c21 (grownBy_putObj' _ D (.deferred none)) (fun r e => by cases e; exact ⟨_, hK, rfl⟩)
    have d3 := cell_kept c3 (grownBy_putObj' _ D (.deferred none)) (fun r e => by cases e; exact ⟨_, hK, rfl⟩)
    have hBe := hB1.trans (belowK_b (w := w) (Nat.le_refl _) W D _ (.deferred none) (by omega) hK rfl rfl)
    refine ⟨.tuple #[.agg #[.int .i64 0, .slice none 0 0], .int .i64 2], ?_, ?_⟩
    · simp [results, Try.f35, go_sem, d20, d21, d3]
    · exact CatR.bad hall ⟨_, rfl, VR.zero _, hBe, Far.zero _ _⟩
end Go.Proofs.Ytmimafbedbohiaa
