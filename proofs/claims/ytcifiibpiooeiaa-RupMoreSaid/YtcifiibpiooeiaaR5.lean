import Derived.Test.YtcifiibpiooeiaaRP4
namespace Go.Proofs.Ytcifiibpiooeiaa
set_option linter.unusedVariables false
open Go.RowKit Go.Sort

theorem step_appR {P : Program} {w : World} {ops : Array Oper} {o : Oper} {a : Act} {K : Act → World → Prop} {Q : Exit → Act → World → Prop} {E : Prop} (hgd : o.guard = none) (s x : Operand) (t : TypeId)
    (ho : o.op = .call { callee := .builtin .append, args := #[s, x], argTypes := #[t, t] })
    {e size bytes : Nat} {z : Value} (T : SlTy P t e size bytes z) (base : Nat)
    (v : Value) (n : Nat) (xs : List Value) (hs : a.eval s = v) (hown : w.ownsRow base e size v n xs)
    (y : Value) (m : Nat) (news : List Value) (hx : a.eval x = y) (hy : RO w y size m news) (h1 : ∀ u ∈ news, u.oneCell' = true)
    (hbytes : (n + m) * bytes ≤ 140737488355328) (h63 : n + m ≤ 140737488355328) (hbase : base ≤ w.heap.size)
    (h : ∀ v' w', AppR base e size w v (n + m) (xs ++ news) v' w' → K (a.put o.dst v') w') : if Region.wanted o (yielded ops a.tmps) = true then Oper.wp P o a w K Q else E := by
  have hw : Region.wanted o (yielded ops a.tmps) = true := by simp [Region.wanted, hgd]
  rw [if_pos hw]
  obtain ⟨i, hi, hz, hsz, hby⟩ := T.i
  have hml : n + m ≤ maxLen := by simp only [maxLen]; omega
  obtain ⟨hl, p, c, rfl, hcell⟩ := hy
  have hrun : ∃ v' w', (Builtin.append_ #[t, t] o.type #[v, .slice p m c]).run P w = .ok v' w' ∧ AppR base e size w v (n + m) (xs ++ news) v' w' := by
    cases p with
    | none =>
      have hnil : news = [] := by
        cases news with
        | nil => rfl
        | cons u r => obtain ⟨b, o', hb, _⟩ := hcell 0 u rfl; cases hb
      subst hnil
      have hm : m = 0 := by
        have h0 := T.sz
        have h1 : m * size = 0 := by simpa using hl.symm
        rcases Nat.mul_eq_zero.1 h1 with h2 | h2
        · exact h2
        · omega
      subst hm
      obtain ⟨p', c', rfl, hle⟩ := ownsRow_le hown
      exact ⟨_, w, run_append_nothing t o.type e size T.u hi p' n c' c hle, by simpa using hown, ⟨rfl, rfl, rfl, Nat.le_refl _, fun _ _ _ => rfl⟩, .inl rfl⟩
    | some ad =>
      have hc : ∀ j u, news[j]? = some u → w.cell? (ad.add j) = some u := by
        intro j u hu
        obtain ⟨b, o', hb, hc⟩ := hcell j u hu
        obtain rfl : ad = ⟨b, o', none⟩ := by simpa using hb
        have hadd : (⟨b, o', none⟩ : Addr).add j = ⟨b, o' + j, none⟩ := by unfold Addr.add; split <;> simp_all
        rw [hadd]; exact hc
      obtain ⟨v', w', hr, h2, h3, _, h5⟩ := run_append_own_at (P := P) w base t o.type e i z size bytes T.u hi hz hsz hby T.zs T.sz v n xs hown ad m c news hl hc h1 hml hbytes hbase
      exact ⟨v', w', hr, h2, h3, h5⟩
  obtain ⟨v', w', hr, hA⟩ := hrun
  unfold Oper.wp execOp
  simp only [ho, resolve, invoke, builtin, Sem.run_bind, Sem.run_pure, Result.andThen_ok, List.map_toArray, List.map_cons, List.map_nil, hs, hx, hr]
  exact h _ _ hA
section
variable {base b : Nat} {w w1 : World} {S : St} {V : Key → Value}
/-- the rest of a list of watches is kept: the row kept is the list's row now -/
theorem Ck.move (h : Ck base b w S V) {s : Nat} (hs : s < 2 * S.v + 3) : ∃ gw cw, V .wt = .slice (some ⟨gw, 0, none⟩) (2 * S.v + 3) cw ∧ w.cell? ⟨gw, s, none⟩ = some (V (.w s)) ∧ w.frozen? ⟨gw, s, none⟩ = false ∧ base ≤ gw ∧
    Ck base b (w.setCell ⟨gw, s, none⟩ (V .kept)) { setwt S s S.kept with kept := [] } (updV (updV V (.w s) (V .kept)) .kept (.slice none 0 0)) := by
  have hR2 : ∀ k, upd (upd (Rof S V) (.w s) (V .kept, ints S.kept)) .kept (.slice none 0 0, []) k = if k = .kept then (.slice none 0 0, []) else if k = .w s then (V .kept, ints S.kept) else Rof S V k := fun k => by
    simp only [upd]
  have hm2 : Mem kt base b w (upd (upd (Rof S V) (.w s) (V .kept, ints S.kept)) .kept (.slice none 0 0, [])) := by
    refine ⟨fun k => ?_, fun k k' hk g hg => ?_, fun k => ?_, h.mem.hb, h.mem.lt⟩
    · rw [hR2]
      by_cases e : k = .kept
      · rw [if_pos e]; exact World.ownsRow_nil _ _ _ _
      · rw [if_neg e]
        by_cases e2 : k = .w s
        · rw [if_pos e2, e2]; exact h.mem.own .kept
        · rw [if_neg e2]; exact h.mem.own k
    · rw [hR2] at hg ⊢
      by_cases e : k = .kept
      · rw [if_pos e] at hg; cases hg
      · rw [if_neg e] at hg
        by_cases e' : k' = .kept
        · rw [if_pos e']; intro h'; cases h'
        · rw [if_neg e']
          by_cases e2 : k = .w s
          · rw [if_pos e2] at hg
            rw [if_neg (fun e3 => hk (e2.trans e3.symm))]
            exact h.mem.ne .kept k' (Ne.symm e') g hg
          · rw [if_neg e2] at hg
            by_cases e3 : k' = .w s
            · rw [if_pos e3]; exact h.mem.ne k .kept e g hg
            · rw [if_neg e3]; exact h.mem.ne k k' hk g hg
    · rw [hR2]
      by_cases e : k = .kept
      · rw [if_pos e]; intro h'; cases h'
      · rw [if_neg e]
        by_cases e2 : k = .w s
        · rw [if_pos e2]; exact h.mem.nb .kept
        · rw [if_neg e2]; exact h.mem.nb k
  have hu : upd (upd (Rof S V) (.w s) (V .kept, ints S.kept)) .kept (.slice none 0 0, []) .wt = Rof S V .wt := by rw [hR2]; simp
  obtain ⟨gw, cw, e, hc, hf, hb, hn⟩ := h.wtc hs
  refine ⟨gw, cw, e, hc, hf, hb, ?_, ?_⟩
  · have hl : (Rof S V .wt).2.length = 2 * S.v + 3 := by simp [Rof]
    have h2 := hm2.set .wt (i := s) (V .kept) (by rw [hu, hl]; exact hs) (g := gw) (n := 2 * S.v + 3) (c := cw) (by rw [hu]; exact e)
    rw [hu] at h2
    have e4 : upd (upd (upd (Rof S V) (.w s) (V .kept, ints S.kept)) .kept (.slice none 0 0, [])) .wt ((Rof S V .wt).1, (Rof S V .wt).2.set s (V .kept)) = Rof { setwt S s S.kept with kept := [] } (updV (updV V (.w s) (V .kept)) .kept (.slice none 0 0)) := by
      funext k
      cases k with
      | w j => by_cases hj : j = s <;> simp [upd, Rof, updV, setwt, hj]
      | wt =>
        simp only [upd, Rof, updV, setwt, if_true]
        congr 1
        exact range_map_set _ _ _ _ _ fun j hj => by by_cases h : j = s <;> simp [h]
      | kept => simp [upd, Rof, updV, ints]
      | _ => simp [upd, Rof, updV, setwt]
    rw [e4] at h2
    exact h2
  · have := h.blk.other (a := ⟨gw, s, none⟩) (V .kept) (Ne.symm hn)
    have e3 : ckCells { setwt S s S.kept with kept := [] } (updV (updV V (.w s) (V .kept)) .kept (.slice none 0 0)) = ckCells S V := by simp [ckCells, updV, setwt]
    rw [e3]
    exact this
/-- kept is appended to -/
theorem Ck.appk (h : Ck base b w S V) {n : Nat} {v' : Value} {l : List Int} (ha : AppR base 3 1 w (V .kept) n (ints l) v' w1) : Ck base b w1 { S with kept := l } (updV V .kept v') := by
  have hm := h.mem.app .kept (v' := v') (n := n) (xs := ints l) ha
  rw [Rof_kept] at hm
  exact ⟨hm, by
    have := h.appblk .kept ha
    have e3 : ckCells { S with kept := l } (updV V .kept v') = ckCells S V := by simp [ckCells, updV]
    rw [e3]; exact this⟩
/-- the head is written -/
theorem Ck.sethd (h : Ck base b w S V) (n : Nat) : Ck base b (w.setCell ⟨b, 6, none⟩ (.int .i64 n)) { S with head := n } V := by
  refine ⟨h.mem.keep (by simp) fun k g hg => Below.heap_setCell _ _ _ _ (fun e => h.mem.nb k (by rw [hg]; exact congrArg some e)), ?_⟩
  have := h.blk.set 6 (.int .i64 n)
  have e : (ckCells S V).set 6 (.int .i64 n) = ckCells { S with head := n } V := by simp [ckCells]
  rwa [e] at this
end
end Go.Proofs.Ytcifiibpiooeiaa
