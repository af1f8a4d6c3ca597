import Derived.Test.YtoccghbkfnalgaaL1
namespace Go.Proofs.Ytoccghbkfnalgaa
set_option linter.unusedVariables false
open Go.RowKit

/-- the world behind an append of what is read elsewhere -/
structure AppR (base e size : Nat) (w : World) (v : Value) (n : Nat) (all : List Value) (v' : Value) (w' : World) : Prop where
  own : w'.ownsRow base e size v' n all
  grown : w.grownBy w' v.ownBlock
  at_ : v'.ownBlock = v.ownBlock ∨ v'.ownBlock = some w.heap.size

theorem AppR.below {base e size w v n all v' w' B w0} (h : AppR base e size w v n all v' w') (hb : Below B w0 w) (hB : B ≤ w.heap.size) (hv : ∀ k, v.ownBlock = some k → B ≤ k) : Below B w0 w' :=
  hb.grown h.grown hB hv

theorem run_append_nothing {P : Program} {w : World} (t ty e size : Nat) (ht : P.underlying t = some (.slice e)) {i : TypeInfo} (hi : P.info? e = some i) (p : Option Addr) (n c c' : Nat) (hn : n ≤ c) :
    (Builtin.append_ #[t, t] ty #[.slice p n c, .slice none 0 c']).run P w = .ok (.slice p n c) w := by
  cases p with
  | none => simp [Builtin.append_, run_underlying ht, sizeOf, typeInfo, hi, Builtin.lenOf, Builtin.firstCells, hn]
  | some a => simp [Builtin.append_, run_underlying ht, sizeOf, typeInfo, hi, Builtin.lenOf, Builtin.firstCells, hn, storeCells]

theorem ownsRow_le {w : World} {base e size n : Nat} {v : Value} {xs : List Value} (h : w.ownsRow base e size v n xs) : ∃ p c, v = .slice p n c ∧ n ≤ c := by
  rcases h.2 with ⟨rfl, rfl⟩ | ⟨g, cap, cur, rfl, _, _, h1, _⟩
  · exact ⟨_, _, rfl, Nat.le_refl _⟩
  · exact ⟨_, _, rfl, h1⟩

/-- append of a slice that is read -/
theorem wpList_appR {P : Program} {w : World} {ops : Array Oper} {rest : List Oper} {o : Oper} {a : Act} {Q : Exit → Act → World → Prop} (hgd : o.guard = none) (s x : Operand) (t : TypeId)
    (ho : o.op = .call { callee := .builtin .append, args := #[s, x], argTypes := #[t, t] })
    {e size bytes : Nat} {z : Value} (T : SlTy P t e size bytes z) (base : Nat)
    (v : Value) (n : Nat) (xs : List Value) (hs : a.eval s = v) (hown : w.ownsRow base e size v n xs)
    (y : Value) (m : Nat) (news : List Value) (hx : a.eval x = y) (hy : RO w y size m news) (h1 : ∀ u ∈ news, u.oneCell' = true)
    (hbytes : (n + m) * bytes ≤ 140737488355328) (h63 : n + m ≤ 140737488355328) (hbase : base ≤ w.heap.size)
    (h : ∀ v' w', AppR base e size w v (n + m) (xs ++ news) v' w' → wpList P ops Q rest (a.put o.dst v') w') : wpList P ops Q (o :: rest) a w := by
  obtain ⟨i, hi, hz, hsz, hby⟩ := T.i
  have hml : n + m ≤ maxLen := by simp only [maxLen]; omega
  refine wpList_plain hgd fun K hK => ?_
  obtain ⟨hl, p, c, rfl, hcell⟩ := hy
  have hrun : ∃ v' w', (Builtin.append_ #[t, t] o.type #[v, .slice p m c]).run P w = .ok v' w' ∧ AppR base e size w v (n + m) (xs ++ news) v' w' := by
    cases p with
    | none =>
      have hnil : news = [] := by
        cases news with
        | nil => rfl
        | cons u r => obtain ⟨b, o', hb, _⟩ := hcell 0 u rfl; cases hb
      subst hnil
      have hm : m = 0 := by
        have h0 := T.sz
        have h1 : m * size = 0 := by simpa using hl.symm
        rcases Nat.mul_eq_zero.1 h1 with h2 | h2
        · exact h2
        · omega
      subst hm
      obtain ⟨p', c', rfl, hle⟩ := ownsRow_le hown
      exact ⟨_, w, run_append_nothing t o.type e size T.u hi p' n c' c hle, by simpa using hown, ⟨rfl, rfl, rfl, Nat.le_refl _, fun _ _ _ => rfl⟩, .inl rfl⟩
    | some ad =>
      have hc : ∀ j u, news[j]? = some u → w.cell? (ad.add j) = some u := by
        intro j u hu
        obtain ⟨b, o', hb, hc⟩ := hcell j u hu
        obtain rfl : ad = ⟨b, o', none⟩ := by simpa using hb
        have hadd : (⟨b, o', none⟩ : Addr).add j = ⟨b, o' + j, none⟩ := by unfold Addr.add; split <;> simp_all
        rw [hadd]; exact hc
      obtain ⟨v', w', hr, h2, h3, _, h5⟩ := run_append_own_at (P := P) w base t o.type e i z size bytes T.u hi hz hsz hby T.zs T.sz v n xs hown ad m c news hl hc h1 hml hbytes hbase
      exact ⟨v', w', hr, h2, h3, h5⟩
  obtain ⟨v', w', hr, hA⟩ := hrun
  unfold Oper.wp execOp
  simp only [ho, resolve, invoke, builtin, Sem.run_bind, Sem.run_pure, Result.andThen_ok, List.map_toArray, List.map_cons, List.map_nil, hs, hx, hr]
  exact hK _ _ (h v' w' hA)
end Go.Proofs.Ytoccghbkfnalgaa
