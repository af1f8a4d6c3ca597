import Derived.Test.YtcifiibpiooeiaaB2
namespace Go.Proofs.Ytcifiibpiooeiaa
set_option linter.unusedVariables false
open Go.RowKit

/-- the reference's list of clauses, read outside F -/
def RefC (F : Nat → Prop) (w : World) (sv : Value) (cls : List (List Int)) : Prop :=
  ∃ p c sls, sv = .slice p cls.length c ∧ sls.length = cls.length ∧ (∀ j u, (slvs sls)[j]? = some u → ∃ b o, p = some ⟨b, o, none⟩ ∧ ¬ F b ∧ w.cell? ⟨b, o + j, none⟩ = some u) ∧ ∀ i, i < cls.length → RC F w (sls.getD i default) (cls.getD i [])
theorem RefC.upd {F F' : Nat → Prop} {w w' : World} {sv cls} (h : RefC F w sv cls) (hu : Upd F F' w w') : RefC F' w' sv cls := by
  obtain ⟨p, c, sls, e, hl, hr, hi⟩ := h
  refine ⟨p, c, sls, e, hl, fun j u hj => ?_, fun i h => (hi i h).upd hu⟩
  obtain ⟨b, o, e, hn, hc⟩ := hr j u hj
  have hlt := World.block_lt_of_cell? _ _ hc
  refine ⟨b, o, e, fun hF => ?_, by rw [← hc]; exact World.cell?_of_block (hu.block b hlt hn)⟩
  rcases hu.sub b hF with h' | h'
  · exact hn h'
  · exact absurd hlt (by show ¬ b < _; omega)
theorem RefC.below {F : Nat → Prop} {w w' : World} {sv cls} (h : RefC F w sv cls) (hb : Below w.heap.size w w') : RefC F w' sv cls := h.upd (Upd.below hb)
theorem RefC.nil (F : Nat → Prop) (w : World) : RefC F w (.slice none 0 0) [] := ⟨none, 0, [], rfl, rfl, fun j u hj => by simp [slvs] at hj, fun i hi => absurd hi (by simp)⟩
theorem RefC.ro {F : Nat → Prop} {w : World} {p : Option Addr} {n c : Nat} {cls} (h : RefC F w (.slice p n c) cls) : ∃ sls, n = cls.length ∧ sls.length = n ∧ RO w (.slice p n c) 1 n (slvs sls) ∧ ∀ i, i < n → RC F w (sls.getD i default) (cls.getD i []) := by
  obtain ⟨p', c', sls, e, hl, hr, hi⟩ := h
  cases e
  refine ⟨sls, rfl, hl, ⟨by simp [slvs, hl], _, _, rfl, fun j u hj => ?_⟩, hi⟩
  obtain ⟨b, o, e, _, hc⟩ := hr j u hj
  exact ⟨b, o, e, hc⟩
theorem RefC.form {F : Nat → Prop} {w : World} {sv cls} (h : RefC F w sv cls) : ∃ p c, sv = .slice p cls.length c := by obtain ⟨p, c, _, e, _⟩ := h; exact ⟨p, c, e⟩

/-- a clause more, in memory of one's own -/
theorem ref_end {F : Nat → Prop} {w w' : World} {sls : List (Option Addr × Nat × Nat)} {cls : List (List Int)} (hF : ∀ k, F k → k < w.heap.size) (hl : sls.length = cls.length)
    (hi : ∀ i, i < cls.length → RC F w' (sls.getD i default) (cls.getD i [])) {pn : Option Addr} {m cn : Nat} {l : List Int} (hn : w'.ownsRow w.heap.size 3 1 (.slice pn m cn) m (ints l)) (hm : l.length = m)
    {v' : Value} (hown : w'.ownsRow w.heap.size 23 1 v' (cls.length + 1) (slvs sls ++ [.slice pn m cn])) : RefC F w' v' (cls ++ [l]) := by
  obtain ⟨p, c, rfl⟩ := ownsRow_form hown
  have hge : ∀ k, (Value.slice p (cls.length + 1) c).ownBlock = some k → w.heap.size ≤ k := by
    intro k hk
    rcases hown.2 with ⟨e, _⟩ | ⟨g, cap, cur, e, h1, _⟩
    · cases e
    · cases e; cases hk; exact h1
  have hgn : ∀ k, (Value.slice pn m cn).ownBlock = some k → w.heap.size ≤ k := by
    intro k hk
    rcases hn.2 with ⟨e, _⟩ | ⟨g, cap, cur, e, h1, _⟩
    · cases e; cases hk
    · cases e; cases hk; exact h1
  have hro := RO.own hown
  have hrn := RO.own hn
  refine ⟨p, c, sls ++ [(pn, m, cn)], by simp, by simp [hl], fun j u hj => ?_, fun i hi' => ?_⟩
  · rw [slvs_app] at hj
    obtain ⟨h1, q, d, e, hr⟩ := hro
    cases e
    obtain ⟨b, o, e, hc⟩ := hr j u hj
    refine ⟨b, o, e, fun hb => ?_, hc⟩
    have := hF b hb
    rcases hown.2 with ⟨e', _⟩ | ⟨g, cap, cur, e', h1, _⟩
    · cases e'
    · cases e'; cases e; omega
  · by_cases hlt : i < cls.length
    · have e1 : (cls ++ [l]).getD i [] = cls.getD i [] := by simp [List.getD, List.getElem?_append_left hlt]
      have e2 : (sls ++ [(pn, m, cn)]).getD i default = sls.getD i default := by simp [List.getD, List.getElem?_append_left (show i < sls.length by rw [hl]; exact hlt)]
      rw [e1, e2]; exact hi i hlt
    · have hi2 : i = cls.length := by simp only [List.length_append, List.length_cons, List.length_nil] at hi'; omega
      have e1 : (cls ++ [l]).getD i [] = l := by simp [List.getD, hi2]
      have e2 : (sls ++ [(pn, m, cn)]).getD i default = (pn, m, cn) := by simp [List.getD, hi2, ← hl]
      rw [e1, e2]
      refine ⟨hm.symm, fun j u hj => ?_⟩
      obtain ⟨h1, q, d, e, hr⟩ := hrn
      cases e
      obtain ⟨b, o, e, hc⟩ := hr j u hj
      refine ⟨b, o, e, fun hb => ?_, hc⟩
      have := hF b hb
      rcases hn.2 with ⟨e', _⟩ | ⟨g, cap, cur, e', h1, _⟩
      · cases e'; cases e
      · cases e'; cases e; omega

theorem Tr.one {w W : World} {ls} (h : Tr w ls W) (j : Nat) {b t : Nat} {u v y : Value} (hj : ls[j]? = some (b, t, [u, v])) : Tr w (ls.set j (b, t, [u, y])) (W.setCell ⟨b, 1, none⟩ y) :=
  h.upd j hj ⟨rfl, rfl, rfl, by simp, fun k hk hne => by
    have hne' : b ≠ k := fun e => hne (by rw [e])
    rw [Below.heap_setCell _ _ _ _ (by simpa using Ne.symm hne')]⟩ ((h.at j hj).set 1 y)
theorem own_base {w : World} {b b' e size n : Nat} {v : Value} {cs : List Value} (h : w.ownsRow b e size v n cs) (hb : b' ≤ b) : w.ownsRow b' e size v n cs := by
  refine ⟨h.1, ?_⟩
  rcases h.2 with h | ⟨g, cap, cur, e, h1, h2⟩
  · exact .inl h
  · exact .inr ⟨g, cap, cur, e, Nat.le_trans hb h1, h2⟩
theorem own_ge {w : World} {b e size n : Nat} {v : Value} {cs : List Value} (h : w.ownsRow b e size v n cs) : ∀ k, v.ownBlock = some k → b ≤ k := by
  intro k hk
  rcases h.2 with ⟨rfl, _⟩ | ⟨g, cap, cur, rfl, h1, _⟩
  · cases hk
  · cases hk; exact h1

/-- what the reference's Add hands back -/
def RAddR (F : Nat → Prop) (w : World) (v : Nat) (cls : List (List Int)) (l : List Int) (e : Ending) (w' : World) : Prop :=
  ∃ sv', e = .returned (.tuple #[.agg #[.int .i64 v, sv'], .int .i64 (addC v cls l).2]) ∧ RefC F w' sv' (addC v cls l).1 ∧ Below w.heap.size w w'

set_option maxRecDepth 100000 in
set_option maxHeartbeats 8000000 in
theorem radd_any {F : Nat → Prop} {w : World} {sv lv : Value} {v : Nat} {cls : List (List Int)} {l : List Int} (hF : ∀ k, F k → k < w.heap.size) (h : RefC F w sv cls) (hw : WFC v cls) (hl : RO w lv 1 l.length (ints l)) (hn : l.length ≤ 1000000) :
    Calls Try.prog 24 #[.agg #[.int .i64 v, sv], lv] w (RAddR F w v cls l) := by
  obtain ⟨ps, cs, rfl⟩ := h.form
  obtain ⟨pl, cl, rfl⟩ := hl.form
  obtain ⟨n, hnl⟩ : ∃ n, l.length = n := ⟨_, rfl⟩
  obtain ⟨N, hN⟩ : ∃ N, cls.length = N := ⟨_, rfl⟩
  have HN := Lib.hid (And.intro hnl (And.intro hN (And.intro hF (And.intro hw hn))))
  rw [hnl] at hl hn ⊢
  rw [hN] at h ⊢
  have hni : (n : Int) ≤ 1000000 := by omega
  have hNi : (N : Int) ≤ 200000 := by have := hw.n; omega
  have hvi : (v : Int) ≤ 60000 := by have := hw.hv; omega
  have hvw : IntKind.i64.wrap (-(v : Int)) = -(v : Int) := i64_of (by omega)
  have H := Lib.hid (And.intro h hl)
  clear h hl hw hn hF hnl hN
  go_enter Try.func24, Try.ntmps24
  go_wp2_with fail
  have hT := (((Tr.nil w).lay 28 [.int .i64 v, .slice ps N cs]).lay 28 [.int .i64 0, .slice none 0 0])
  simp only [World.size_alloc] at hT
  generalize (w.alloc (.cells [Value.int .i64 v, .slice ps N cs].toArray 28)).alloc (.cells [Value.int .i64 0, .slice none 0 0].toArray 28) = W at *
  have HT := Lib.hid hT
  clear hT
  go_loopw [6] (fun iv wr => ∃ i : Nat, i ≤ n ∧ iv = .int .i64 i ∧ (∀ j, j < i → known v (l.getD j 0) = true) ∧ Tr w [(w.heap.size + 1, 28, [.int .i64 0, .slice none 0 0]), (w.heap.size, 28, [.int .i64 v, .slice ps N cs])] wr) (fun iv _ => n - (intOf iv).toNat)
  case atStart => exact ⟨0, Nat.zero_le _, rfl, fun j hj => absurd hj (Nat.not_lt_zero _), HT.out⟩
  case round =>
    obtain ⟨i, hi, rfl, hk, hT⟩ := hrel
    have HT1 := Lib.hid hT
    have c0 := (hT.at 1 rfl).cell (i := 0) rfl
    have c1 := (hT.at 1 rfl).cell (i := 1) rfl
    have f0 := (hT.at 1 rfl).frz 0
    have f1 := (hT.at 1 rfl).frz 1
    have d0 := (hT.at 0 rfl).cell (i := 0) rfl
    have d1 := (hT.at 0 rfl).cell (i := 1) rfl
    have g0 := (hT.at 0 rfl).frz 0
    have g1 := (hT.at 0 rfl).frz 1
    by_cases hlt : i < n
    · have hat := ints_at l i (by rw [HN.out.1]; exact hlt)
      obtain ⟨bl, ol, rfl⟩ := H.out.2.sl hat
      have hc := (H.out.2.below hT.bel).cell hat
      obtain ⟨x, hx⟩ : ∃ x, l.getD i 0 = x := ⟨_, rfl⟩
      rw [hx] at hc
      have hmem : x ∈ l := by rw [← hx]; simp [List.getD, List.getElem?_eq_getElem (show i < l.length by rw [HN.out.1]; exact hlt)]
      have hii : (i : Int) < n := by omega
      have hiw : IntKind.i64.wrap ((i : Int) + 1) = (i : Int) + 1 := i64_of (by omega)
      have HI := Lib.hid (And.intro hx (And.intro hmem (And.intro hlt hk)))
      clear hat hx hmem hlt hk hT
      by_cases hkn : known v x = true
      · have hkk := (known_iff v x).1 hkn
        have e0 : (x == 0) = false := by simp [hkk.1]
        have e1 : decide (x < -(v : Int)) = false := decide_eq_false (by omega)
        have e2 : decide ((v : Int) < x) = false := decide_eq_false (by omega)
        have e1' : ¬ x < -(v : Int) := by omega
        have e2' : ¬ (v : Int) < x := by omega
        have HK := Lib.hid hkn
        clear hkn hkk e1' e2'
        go_wp2_with fail
        go_quiet (fail)
        go_wp2_with fail
        go_roundw
        case rel => exact ⟨i + 1, HI.out.2.2.1, by go_num, fun j hj => by
          by_cases e : j = i
          · subst e; rw [HI.out.1]; exact HK.out
          · exact HI.out.2.2.2 j (by omega), HT1.out.below (below_drewN _)⟩
        case measure => have := HI.out.2.2.1; simp [intOf]; omega
      · have ha : addC v cls l = (cls, 3) := by
          unfold addC
          rw [if_pos (List.any_eq_true.2 ⟨x, HI.out.2.1, by simpa using hkn⟩)]
        have HA := Lib.hid ha
        have hkk : ¬ (x ≠ 0 ∧ x.natAbs ≤ v) := fun h => hkn ((known_iff v x).2 h)
        clear hkn ha
        have hfin : ∀ q, Below w.heap.size w (((wr.drewN q).setCell ⟨w.heap.size + 1, 0, none⟩ (.int .i64 v)).setCell ⟨w.heap.size + 1, 1, none⟩ (.slice ps N cs)) ∧ (((wr.drewN q).setCell ⟨w.heap.size + 1, 0, none⟩ (.int .i64 v)).setCell ⟨w.heap.size + 1, 1, none⟩ (.slice ps N cs)).cell? ⟨w.heap.size + 1, 0, none⟩ = some (.int .i64 v) ∧ (((wr.drewN q).setCell ⟨w.heap.size + 1, 0, none⟩ (.int .i64 v)).setCell ⟨w.heap.size + 1, 1, none⟩ (.slice ps N cs)).cell? ⟨w.heap.size + 1, 1, none⟩ = some (.slice ps N cs) := fun q => by
          have h2 := (HT1.out.below (below_drewN q)).two 0 (x := .int .i64 v) (y := .slice ps N cs) rfl
          exact ⟨h2.bel, (h2.at 0 rfl).cell (i := 0) rfl, (h2.at 0 rfl).cell (i := 1) rfl⟩
        have HFin := Lib.hid hfin
        clear hfin
        by_cases h0 : x = 0
        · have e0 : (x == 0) = true := by simp [h0]
          clear h0 hkk
          go_wp2_with fail
          go_quiet (fail)
          go_wp2_with fail
          obtain ⟨b1, b2, b3⟩ := HFin.out nq
          refine bodyPost_ret (v := .tuple #[.agg #[.int .i64 v, .slice ps N cs], .int .i64 3]) (by simp [results, Try.results24, go_sem, b2, b3]) rfl ?_
          unfold RAddR
          rw [HA.out]
          exact ⟨_, rfl, (by have := H.out.1.below b1; exact this), b1⟩
        · have e0 : (x == 0) = false := by simp [h0]
          by_cases h1 : x < -(v : Int)
          · clear h0 hkk
            go_wp2_with fail
            go_quiet (fail)
            go_wp2_with fail
            obtain ⟨b1, b2, b3⟩ := HFin.out nq
            refine bodyPost_ret (v := .tuple #[.agg #[.int .i64 v, .slice ps N cs], .int .i64 3]) (by simp [results, Try.results24, go_sem, b2, b3]) rfl ?_
            unfold RAddR
            rw [HA.out]
            exact ⟨_, rfl, (by have := H.out.1.below b1; exact this), b1⟩
          · have h2 : (v : Int) < x := by omega
            have e1 : decide (x < -(v : Int)) = false := decide_eq_false h1
            clear h0 hkk h1
            go_wp2_with fail
            go_quiet (fail)
            go_wp2_with fail
            obtain ⟨b1, b2, b3⟩ := HFin.out nq
            refine bodyPost_ret (v := .tuple #[.agg #[.int .i64 v, .slice ps N cs], .int .i64 3]) (by simp [results, Try.results24, go_sem, b2, b3]) rfl ?_
            unfold RAddR
            rw [HA.out]
            exact ⟨_, rfl, (by have := H.out.1.below b1; exact this), b1⟩
    · obtain rfl : i = n := by omega
      have hall : ∀ x ∈ l, x ≠ 0 ∧ x.natAbs ≤ v := fun x hx => by
        obtain ⟨j, hj, e⟩ := List.getElem_of_mem hx
        have := hk j (by rw [← HN.out.1]; exact hj)
        rw [show l.getD j 0 = x by simp [List.getD, List.getElem?_eq_getElem hj, e]] at this
        exact (known_iff v x).1 this
      have hany : l.any (fun x => !(known v x)) = false := List.any_eq_false.2 fun x hx => by simp [(known_iff v x).2 (hall x hx)]
      have HAll := Lib.hid (And.intro hall hany)
      clear hlt hi hk hall hany hT
      have HNi := Lib.hid (And.intro hNi (And.intro hni hvi))
      clear hNi hvi
      by_cases h19 : 1000 < i ∨ N = 200000
      · have ha : addC v cls l = (cls, 19) := by
          unfold addC
          rw [HAll.out.2, if_neg (by simp), if_pos (by rw [HN.out.1, HN.out.2.1]; exact h19)]
        have HA := Lib.hid ha
        clear ha
        by_cases h1 : 1000 < i
        · have h1i : (1000 : Int) < i := by omega
          clear h19 h1
          go_wp2_with fail
          have h2 := HT1.out.two 0 (x := .int .i64 v) (y := .slice ps N cs) rfl
          have b1 := h2.bel
          have b2 := (h2.at 0 rfl).cell (i := 0) rfl
          have b3 := (h2.at 0 rfl).cell (i := 1) rfl
          refine bodyPost_ret (v := .tuple #[.agg #[.int .i64 v, .slice ps N cs], .int .i64 19]) (by simp [results, Try.results24, go_sem, b2, b3]) rfl ?_
          unfold RAddR
          rw [HA.out]
          exact ⟨_, rfl, (by have := H.out.1.below b1; exact this), b1⟩
        · have h1i : decide ((1000 : Int) < i) = false := decide_eq_false (by omega)
          have h2i : decide ((200000 : Int) ≤ N) = true := decide_eq_true (by omega)
          clear h19 h1
          go_wp2_with fail
          have h2 := HT1.out.two 0 (x := .int .i64 v) (y := .slice ps N cs) rfl
          have b1 := h2.bel
          have b2 := (h2.at 0 rfl).cell (i := 0) rfl
          have b3 := (h2.at 0 rfl).cell (i := 1) rfl
          refine bodyPost_ret (v := .tuple #[.agg #[.int .i64 v, .slice ps N cs], .int .i64 19]) (by simp [results, Try.results24, go_sem, b2, b3]) rfl ?_
          unfold RAddR
          rw [HA.out]
          exact ⟨_, rfl, (by have := H.out.1.below b1; exact this), b1⟩
      · have hd1 : decide ((1000 : Int) < i) = false := decide_eq_false (by omega)
        have hd2 : decide ((200000 : Int) ≤ N) = false := decide_eq_false (by have := HN.out.2.2.2.1.n; have := HN.out.2.1; omega)
        have H19 := Lib.hid h19
        have HP := rplain_any (w := wr) (H.out.2.below HT1.out.bel |> fun h => (by have e := HN.out.1; rw [← e] at h; exact h)) HN.out.2.2.2.2 (fun x hx => ⟨(HAll.out.1 x hx).1, by have := (HAll.out.1 x hx).2; have := HN.out.2.2.2.1.hv; omega⟩)
        rw [HN.out.1] at HP
        replace HP := Lib.hid HP
        clear h19
        go_wp2_with fail
        refine HP.out.mono ?_; rintro e w1 ⟨hp1, hp2, hb1⟩
        have HB1 := Lib.hid hb1
        have HT2 := Lib.hid (HT1.out.below hb1)
        have c0 := (HT2.out.at 1 rfl).cell (i := 0) rfl
        have c1 := (HT2.out.at 1 rfl).cell (i := 1) rfl
        have f0 := (HT2.out.at 1 rfl).frz 0
        have f1 := (HT2.out.at 1 rfl).frz 1
        have d0 := (HT2.out.at 0 rfl).cell (i := 0) rfl
        have d1 := (HT2.out.at 0 rfl).cell (i := 1) rfl
        have g0 := (HT2.out.at 0 rfl).frz 0
        have g1 := (HT2.out.at 0 rfl).frz 1
        cases ht : taut l with
        | true =>
          obtain rfl := hp1 ht
          have ha : addC v cls l = (cls, 0) := by
            unfold addC
            rw [HAll.out.2, if_neg (by simp), if_neg (by rw [HN.out.1, HN.out.2.1]; exact H19.out), if_pos ht]
          have HA := Lib.hid ha
          clear hp1 hp2 ht hb1 ha
          go_wp2_with fail
          have h2 := HT2.out.two 0 (x := .int .i64 v) (y := .slice ps N cs) rfl
          have b1 := h2.bel
          have b2 := (h2.at 0 rfl).cell (i := 0) rfl
          have b3 := (h2.at 0 rfl).cell (i := 1) rfl
          refine bodyPost_ret (v := .tuple #[.agg #[.int .i64 v, .slice ps N cs], .int .i64 0]) (by simp [results, Try.results24, go_sem, b2, b3]) rfl ?_
          unfold RAddR
          rw [HA.out]
          exact ⟨_, rfl, (by have := H.out.1.below b1; exact this), b1⟩
        | false =>
          obtain ⟨nv, rfl, hown⟩ := hp2 ht
          have ha : addC v cls l = (cls ++ [norm l], 0) := by
            unfold addC
            rw [HAll.out.2, if_neg (by simp), if_neg (by rw [HN.out.1, HN.out.2.1]; exact H19.out), if_neg (by rw [ht]; simp)]
          obtain ⟨pn, cn, rfl⟩ := ownsRow_form hown
          obtain ⟨m, hm⟩ : ∃ m, (norm l).length = m := ⟨_, rfl⟩
          rw [hm] at hown
          simp only [hm]
          have HA := Lib.hid (And.intro ha (And.intro hown hm))
          clear hp1 hp2 ht hb1 ha hown hm
          obtain ⟨sls, hNl, hsl, hro, hrc⟩ := H.out.1.ro
          replace hro := hro.below HT2.out.bel
          have HWr : Hid (w.heap.size + 1 < wr.heap.size) := Lib.hid (HT1.out.at 0 rfl).lt
          have HW1 : Hid (wr.heap.size ≤ w1.heap.size) := Lib.hid HB1.out.size
          have hB0 : w.heap.size ≤ w1.heap.size := HT2.out.bel.size
          have hs0 := Stp.new (base := w.heap.size) (wc := w1) 23 hB0
          have HS := Lib.hid (And.intro hs0 (hro.below hs0.bel))
          have HR := Lib.hid (And.intro hsl (And.intro hrc HNi.out))
          have e1 := (((HT2.out.below hs0.bel)).at 1 rfl).cell (i := 1) rfl
          clear hNl hsl hro hrc hs0
          go_upto_region 10 with fail
          go_wp2_with (first
            | (at_builtin; refine wpList_appR rfl _ _ 22 rfl TLists w.heap.size (.slice p8 N c8) N _ rfl (H8.out.alloc _).own _ 1 _ rfl (ro_one _ _) (by simp [Value.oneCell']) (by have := HR.out.2.2.1; omega) (by have := HR.out.2.2.1; omega) (Nat.le_trans hB0 (H8.out.alloc _).bel.size) ?_; intro v9 w9 happ; have hs9 := (H8.out.alloc _).app happ; obtain ⟨p9, c9, ev9⟩ := ownsRow_form hs9.own; subst ev9; have H9 := Lib.hid hs9; have HT9 := Lib.hid (HT2.out.below hs9.bel); have k0 := (HT9.out.at 1 rfl).cell (i := 0) rfl; have k1 := (HT9.out.at 1 rfl).cell (i := 1) rfl; have kf := (HT9.out.at 1 rfl).frz 1; have l0 := (HT9.out.at 0 rfl).cell (i := 0) rfl; have l1 := (HT9.out.at 0 rfl).cell (i := 1) rfl; have lf := (HT9.out.at 0 rfl).frz 0; have lg := (HT9.out.at 0 rfl).frz 1; clear happ hs9)
            | (at_builtin; refine wpList_appR rfl _ _ 22 rfl TLists w.heap.size (.slice (some ⟨w1.heap.size, 0, none⟩) 0 0) 0 [] rfl HS.out.1.own _ N _ rfl HS.out.2 (slvs_one _) (by have := HR.out.2.2.1; omega) (by have := HR.out.2.2.1; omega) (Nat.le_trans hB0 HS.out.1.bel.size) ?_; intro v8 w8 happ; have hs8 := HS.out.1.app happ; rw [Nat.zero_add, List.nil_append] at hs8; obtain ⟨p8, c8, ev8⟩ := ownsRow_form hs8.own; subst ev8; have H8 := Lib.hid hs8; clear happ hs8))
          have h10 := (HT9.out.one 1 (y := .slice p9 (N + 1) c9) rfl).two 0 (x := .int .i64 v) (y := .slice p9 (N + 1) c9) rfl
          have b1 := h10.bel
          have b2 := (h10.at 0 rfl).cell (i := 0) rfl
          have b3 := (h10.at 0 rfl).cell (i := 1) rfl
          have hkeep : ∀ k, w.heap.size + 1 < k → (((w9.setCell ⟨w.heap.size, 1, none⟩ (.slice p9 (N + 1) c9)).setCell ⟨w.heap.size + 1, 0, none⟩ (.int .i64 v)).setCell ⟨w.heap.size + 1, 1, none⟩ (.slice p9 (N + 1) c9)).heap[k]? = w9.heap[k]? := fun k hk => by
            rw [Below.heap_setCell _ _ _ _ (by show k ≠ w.heap.size + 1; omega), Below.heap_setCell _ _ _ _ (by show k ≠ w.heap.size + 1; omega), Below.heap_setCell _ _ _ _ (by show k ≠ w.heap.size; omega)]
          have ho9 : (((w9.setCell ⟨w.heap.size, 1, none⟩ (.slice p9 (N + 1) c9)).setCell ⟨w.heap.size + 1, 0, none⟩ (.int .i64 v)).setCell ⟨w.heap.size + 1, 1, none⟩ (.slice p9 (N + 1) c9)).ownsRow w.heap.size 23 1 (.slice p9 (N + 1) c9) (N + 1) (slvs sls ++ [.slice pn m cn]) :=
            ownsRow_keep H9.out.own fun k hk => hkeep k (by have := H9.out.ge k hk; have := HWr.out; have := HW1.out; omega)
          have hon : (((w9.setCell ⟨w.heap.size, 1, none⟩ (.slice p9 (N + 1) c9)).setCell ⟨w.heap.size + 1, 0, none⟩ (.int .i64 v)).setCell ⟨w.heap.size + 1, 1, none⟩ (.slice p9 (N + 1) c9)).ownsRow w.heap.size 3 1 (.slice pn m cn) m (ints (norm l)) :=
            own_base (ownsRow_keep (ownsRow_below HA.out.2.1 H9.out.bel) fun k hk => hkeep k (by have := own_ge HA.out.2.1 k hk; have := HWr.out; omega)) (by have := HWr.out; omega)
          refine bodyPost_ret (v := .tuple #[.agg #[.int .i64 v, .slice p9 (N + 1) c9], .int .i64 0]) (by simp [results, Try.results24, go_sem, b2, b3]) rfl ?_
          unfold RAddR
          rw [HA.out.1]
          refine ⟨_, rfl, ?_, b1⟩
          exact ref_end HN.out.2.2.1 (by rw [HR.out.1, HN.out.2.1]) (fun i hi => (HR.out.2.1 i (by rw [← HN.out.2.1]; exact hi)).below b1) hon HA.out.2.2 (by rw [HN.out.2.1]; exact ho9)
end Go.Proofs.Ytcifiibpiooeiaa
