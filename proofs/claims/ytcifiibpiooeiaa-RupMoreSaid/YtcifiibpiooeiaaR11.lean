import Derived.Test.YtcifiibpiooeiaaR10
namespace Go.Proofs.Ytcifiibpiooeiaa
set_option linter.unusedVariables false
open Go Go.Lib Go.RowKit Go.Sort

/-! ## made -/
theorem made_one (z : Value) (n : Nat) : madeCells #[z] n = Array.replicate n z := by
  apply Array.ext
  · simp [madeCells]
  · intro i h1 h2
    simp [madeCells, Nat.mod_one]
theorem SlTy.make {P : Program} {t e bytes : Nat} {z : Value} (T : SlTy P t e 1 bytes z) (hc : z.cells = #[z]) (n : Nat) (hb : bytes * n ≤ 281474976710656) (h63 : n ≤ 281474976710656) (W : World) :
    (Instr.makeSlice t (.int .i64 (n : Int)) (.int .i64 (n : Int))).run P W = .ok (.slice (some ⟨W.heap.size, 0, none⟩) n n) (W.alloc (.cells (Array.replicate n z) e)) := by
  obtain ⟨i, hi, hz, hs, hby⟩ := T.i
  have hb' : (i.bytes : Int) * (n : Int) ≤ 281474976710656 := by
    rw [hby]
    have : ((bytes * n : Nat) : Int) ≤ 281474976710656 := by omega
    rwa [Int.natCast_mul] at this
  have hr := run_make (P := P) (w := W) t e i z T.u hi hz .i64 .i64 n n (by omega) (Int.le_refl _) hb' (by omega)
  simp only [Int.toNat_natCast, hs, Nat.mul_one, hc, made_one] at hr
  exact hr
/-- the checker of no clause -/
def emptyS (v : Nat) : St := { v := v, m := 0, cl := fun _ => [], short := [], wt := fun _ => [], val := List.replicate (v + 1) 0, trail := [], head := 0, kept := [] }
def emptyV (v g1 g2 : Nat) : Key → Value
  | .wt => .slice (some ⟨g1, 0, none⟩) (2 * v + 3) (2 * v + 3)
  | .va => .slice (some ⟨g2, 0, none⟩) (v + 1) (v + 1)
  | _ => .slice none 0 0
theorem Ck.fresh {base b v g1 g2 : Nat} {W : World} (hv : v ≤ 1000000) (h1 : Blk W g1 23 (List.replicate (2 * v + 3) (.slice none 0 0))) (h2 : Blk W g2 3 (List.replicate (v + 1) (.int .i64 0)))
    (hb : Blk W b 78 (ckCells (emptyS v) (emptyV v g1 g2))) (n12 : g1 ≠ g2) (n1 : g1 ≠ b) (n2 : g2 ≠ b) (b1 : base ≤ g1) (b2 : base ≤ g2) (bb : base ≤ b) : Ck base b W (emptyS v) (emptyV v g1 g2) := by
  have hnil : ∀ e, W.ownsRow base e 1 (.slice none 0 0) 0 [] := fun e => World.ownsRow_nil _ _ _ _
  refine ⟨⟨fun k => ?_, fun k k' hk g hg => ?_, fun k => ?_, bb, hb.lt⟩, hb⟩
  · cases k with
    | wt =>
      have := h1.own (n := 2 * v + 3) (size := 1) (by simp) (by simp only [maxLen]; omega) base b1
      have e : (List.range (2 * (emptyS v).v + 3)).map (fun s => emptyV v g1 g2 (.w s)) = List.replicate (2 * v + 3) (.slice none 0 0) := by
        apply List.ext_getElem
        · simp [emptyS]
        · intro i h1 h2; simp [emptyV]
      simp only [Rof, e, List.length_replicate]
      exact this
    | va =>
      have := h2.own (n := v + 1) (size := 1) (by simp) (by simp only [maxLen]; omega) base b2
      have e : ints (emptyS v).val = List.replicate (v + 1) (.int .i64 0) := by simp [emptyS, ints]
      simp only [Rof, e, List.length_replicate]
      exact this
    | cl => exact hnil _
    | sh => exact hnil _
    | tr => exact hnil _
    | kept => exact hnil _
    | c i => exact hnil _
    | w s => exact hnil _
  · cases k <;> cases k' <;> first | (exact absurd rfl hk) | (cases hg; done) | (intro e; cases e; done) | (cases hg; intro e; cases e; first | exact n12 rfl | exact n12.symm rfl)
  · cases k <;> first | (intro e; cases e; done) | (intro e; cases e; first | exact n1 rfl | exact n2 rfl)
/-- what made hands back -/
def MadeR (base : Nat) (w : World) (v : Nat) (cls : List (List Int)) (e : Ending) (w' : World) : Prop :=
  ∃ b S V, e = .returned (.pointer (some ⟨b, 0, none⟩)) ∧ Idle base b w' S V ∧ Below base w w' ∧ S.v = v ∧ S.m = cls.length ∧ S.short.length ≤ cls.length ∧ (∀ i, (S.cl i).length ≤ 1000) ∧ ∀ l, ClsOf S l ↔ ∃ l', l' ∈ cls ∧ ∀ x, x ∈ l' ↔ x ∈ l
theorem emptyS_wf (v : Nat) : Wf (emptyS v) (emptyS v).wt := ⟨Vals.zero v, fun i hi => absurd hi (Nat.not_lt_zero _), fun i hi => absurd hi (Nat.not_lt_zero _), fun a ha => by simp [emptyS] at ha, fun i hi => absurd hi (Nat.not_lt_zero _), fun s a ha => by simp [emptyS] at ha, fun s => by simp [emptyS]⟩
def LoopM (base b : Nat) (w : World) (v : Nat) (cls : List (List Int)) (i : Nat) (wr : World) : Prop :=
  ∃ S V, Idle base b wr S V ∧ Below base w wr ∧ S.v = v ∧ S.m = i ∧ S.short.length ≤ i ∧ (∀ j, (S.cl j).length ≤ 1000) ∧ ∀ l, ClsOf S l ↔ ∃ l', l' ∈ cls.take i ∧ ∀ x, x ∈ l' ↔ x ∈ l
theorem LoopM.bel {base b : Nat} {w : World} {v : Nat} {cls : List (List Int)} {i : Nat} {wr : World} (h : LoopM base b w v cls i wr) : Below base w wr := by
  obtain ⟨S, V, _, h2, _⟩ := h
  exact h2
theorem Idle.below {base b : Nat} {w w' : World} {S : St} {V : Key → Value} (h : Idle base b w S V) (hb : Below w.heap.size w w') : Idle base b w' S V := ⟨h.ck.below hb, h.keep, h.kp, h.wf, h.tr, h.hd⟩
theorem LoopM.step {base b : Nat} {w : World} {v : Nat} {cls : List (List Int)} {i : Nat} {wr w2 : World} {lv : Value} (h : LoopM base b w v cls i wr) (hi : i ≤ 200000) (hw : WFC v cls) (hil : i < cls.length)
    (ho : w2.ownsRow wr.heap.size 3 1 lv (cls.getD i []).length (ints (cls.getD i []))) (hb : Below wr.heap.size wr w2) :
    Calls Try.prog 53 #[.pointer (some ⟨b, 0, none⟩), lv] w2 fun e w' => e = .returned (.tuple #[]) ∧ LoopM base b w v cls (i + 1) w' := by
  obtain ⟨S, V, h1, h2, h3, h4, h5, h6, h7⟩ := h
  have hv := hw.hv
  have hl := hw.l i hil
  have hid := h1.below hb
  refine (kadd_any (l := cls.getD i []) hid.ck (fun x hx => by rw [h3]; exact hl.2.1 x hx) (RO.own ho) (by have := hl.2.2.2; omega) (by omega) (by omega) (by omega) (fun s => by have := hid.wf.wlen s; omega)).mono ?_
  rintro e w' ⟨he, V', hck, hbel, hkeep⟩
  obtain ⟨f1, f2, f3, f4, f5, f6⟩ := addS_fix S (clauseI (cls.getD i []))
  refine ⟨he, _, V', ⟨hck, hkeep.trans h1.keep, f6.trans h1.kp, h1.wf.add (fun x hx => by rw [h3]; exact hl.2.1 x hx), f4.trans h1.tr, f5.trans h1.hd⟩, (h2.trans (hb.mono h1.ck.base_le)).trans hbel, f2.trans h3, by rw [f1, h4], by have := addS_short_len S (clauseI (cls.getD i [])); omega, fun j => ?_, fun l => ?_⟩
  · rw [addS_cl]; split
    · have := clauseI_len (cls.getD i []); have := hl.2.2.2; omega
    · exact h6 j
  · rw [addS_cls, h7, List.take_add_one]
    have e : cls[i]?.toList = [cls.getD i []] := by simp [List.getD, List.getElem?_eq_getElem hil]
    rw [e]
    constructor
    · rintro (⟨l', hl', hx⟩ | hx)
      · exact ⟨l', List.mem_append_left _ hl', hx⟩
      · exact ⟨_, List.mem_append_right _ (List.mem_singleton.2 rfl), hx⟩
    · rintro ⟨l', hl', hx⟩
      rcases List.mem_append.1 hl' with h | h
      · exact .inl ⟨l', h, hx⟩
      · rw [List.mem_singleton.1 h] at hx; exact .inr hx
set_option maxRecDepth 100000 in
set_option maxHeartbeats 8000000 in
theorem made_any {A : Nat → Prop} {w : World} {bc : Nat} {F : Nat → Prop} {v : Nat} {cls : List (List Int)} (h : HasC A w bc F v cls) (hw : WFC v cls) : Calls Try.prog 25 #[.pointer (some ⟨bc, 0, none⟩)] w (MadeR w.heap.size w v cls) := by
  have HV := Lib.hid (fun W (hb : Below w.heap.size w W) => vars_any (h.below hb))
  have HN := Lib.hid (fun W (hb : Below w.heap.size w W) => len_any (h.below hb))
  have HC := Lib.hid (fun W (hb : Below w.heap.size w W) i => clause_any (h.below hb) hw i)
  have hv6 := hw.hv
  obtain ⟨N1, hN1⟩ : ∃ n, 2 * v + 3 = n := ⟨_, rfl⟩
  obtain ⟨N2, hN2⟩ : ∃ n, v + 1 = n := ⟨_, rfl⟩
  have hm1 := Lib.hid (fun W => TLists.make rfl N1 (by omega) (by omega) W)
  have hm2 := Lib.hid (fun W => TInts.make rfl N2 (by omega) (by omega) W)
  have HX := Lib.hid (And.intro h hw)
  have e1 : IntKind.i64.wrap (2 * (v : Int)) = 2 * (v : Int) := i64_of (by omega)
  have e2 : IntKind.i64.wrap (2 * (v : Int) + 3) = (N1 : Int) := (i64_of (by omega)).trans (by omega)
  have e3 : IntKind.i64.wrap ((v : Int) + 1) = (N2 : Int) := (i64_of (by omega)).trans (by omega)
  clear h hw
  go_enter Try.func25, Try.ntmps25
  go_upto_region 1 with fail
  have hb0 : Below w.heap.size w w.drew := (Below.refl _ _).drew
  generalize hWd : w.drew = Wd at *
  have hsz : Wd.heap.size = w.heap.size := by rw [← hWd]; rfl
  refine wp_region_held_drew (S := fun _ => True) (by kernel_rfl) trivial (fun hHeld => ?_)
  rw [hWd]
  clear hWd
  refine held_take (i := 0) (v := .pointer (some ⟨bc, 0, none⟩)) rfl (by kernel_rfl) (by kernel_rfl) (by kernel_rfl) (fun _ _ _ h => h) (Or.inl ⟨by rfl, ?_⟩) hHeld ?_
  · intro w hSw; go_simp; (try with_reducible rfl)
  (try simp only [Act.put, List.setIfInBounds_toArray, List.set_cons_zero, List.set_cons_succ])
  refine held_take (i := 2) (v := .pointer (some ⟨bc, 0, none⟩)) rfl (by kernel_rfl) (by kernel_rfl) (by kernel_rfl) (fun _ _ _ h => h) (Or.inl ⟨by rfl, ?_⟩) hHeld ?_
  · intro w hSw; go_simp; (try with_reducible rfl)
  (try simp only [Act.put, List.setIfInBounds_toArray, List.set_cons_zero, List.set_cons_succ])
  refine held_take (i := 7) (v := .pointer (some ⟨bc, 0, none⟩)) rfl (by kernel_rfl) (by kernel_rfl) (by kernel_rfl) (fun _ _ _ h => h) (Or.inl ⟨by rfl, ?_⟩) hHeld ?_
  · intro w hSw; go_simp; (try with_reducible rfl)
  (try simp only [Act.put, List.setIfInBounds_toArray, List.set_cons_zero, List.set_cons_succ])
  refine wpAnyH_ready (rs := [1]) (by kernel_rfl) (by simp) ?_
  refine (held_cons rfl (fun K hK => ?_) AllReadyH.nil)
  go_simp
  refine (HV.out _ hb0).mono ?_; rintro e w2 ⟨rfl, hw2⟩
  subst hw2
  (try go_simp)
  refine hK.out _ _ trivial (fun _ => ?_)
  clear hK K
  (try simp only [Act.put, List.setIfInBounds_toArray, List.set_cons_zero, List.set_cons_succ])
  refine wpAnyH_ready (rs := [3]) (by kernel_rfl) (by simp) ?_
  refine (held_cons rfl (fun K hK => ?_) AllReadyH.nil)
  go_simp
  refine (HV.out _ hb0).mono ?_; rintro e w2 ⟨rfl, hw2⟩
  subst hw2
  (try go_simp)
  refine hK.out _ _ trivial (fun _ => ?_)
  clear hK K
  (try simp only [Act.put, List.setIfInBounds_toArray, List.set_cons_zero, List.set_cons_succ])
  refine held_take (i := 4) (v := .int .i64 (2 * (v : Int))) rfl (by kernel_rfl) (by kernel_rfl) (by kernel_rfl) (fun _ _ _ h => h) (Or.inl ⟨by rfl, ?_⟩) hHeld ?_
  · intro w hSw; go_simp; (try with_reducible rfl)
  (try simp only [Act.put, List.setIfInBounds_toArray, List.set_cons_zero, List.set_cons_succ])
  refine held_take (i := 5) (v := .int .i64 (N1 : Int)) rfl (by kernel_rfl) (by kernel_rfl) (by kernel_rfl) (fun _ _ _ h => h) (Or.inl ⟨by rfl, ?_⟩) hHeld ?_
  · intro w hSw; go_simp; (try with_reducible rfl)
  (try simp only [Act.put, List.setIfInBounds_toArray, List.set_cons_zero, List.set_cons_succ])
  refine wpAnyH_ready (rs := [6, 8]) (by kernel_rfl) (by simp) ?_
  refine (held_cons rfl (fun K hK => ?_) (held_cons rfl (fun K hK => ?_) AllReadyH.nil))
  · skip
    have hmk := hm1.out Wd
    go_simp
    refine hK.out _ _ trivial (fun _ => ?_)
    clear hK K hmk
    (try simp only [Act.put, List.setIfInBounds_toArray, List.set_cons_zero, List.set_cons_succ])
    have hb1 := hb0.alloc hb0.size (.cells (Array.replicate N1 (.slice none 0 0)) 23)
    refine wpAnyH_ready (rs := [8]) (by kernel_rfl) (by simp) ?_
    refine (held_cons rfl (fun K hK => ?_) AllReadyH.nil)
    · skip
      go_simp
      refine (HV.out _ hb1).mono ?_; rintro e w2 ⟨rfl, hw2⟩
      subst hw2
      (try go_simp)
      refine hK.out _ _ trivial (fun _ => ?_)
      clear hK K
      (try simp only [Act.put, List.setIfInBounds_toArray, List.set_cons_zero, List.set_cons_succ])
      refine held_take (i := 9) (v := .int .i64 (N2 : Int)) rfl (by kernel_rfl) (by kernel_rfl) (by kernel_rfl) (fun _ _ _ h => h) (Or.inl ⟨by rfl, ?_⟩) hHeld ?_
      · intro w hSw; go_simp; (try with_reducible rfl)
      (try simp only [Act.put, List.setIfInBounds_toArray, List.set_cons_zero, List.set_cons_succ])
      refine wpAnyH_ready (rs := [10]) (by kernel_rfl) (by simp) ?_
      refine (held_cons rfl (fun K hK => ?_) AllReadyH.nil)
      · skip
        have hmk := hm2.out (Wd.alloc (.cells (Array.replicate N1 (.slice none 0 0)) 23))
        go_simp
        refine hK.out _ _ trivial (fun _ => ?_)
        clear hK K hmk
        (try simp only [Act.put, List.setIfInBounds_toArray, List.set_cons_zero, List.set_cons_succ])
        have hb2 := hb1.alloc hb1.size (.cells (Array.replicate N2 (.int .i64 0)) 3)
        refine wpAnyH_ready (rs := [11]) (by kernel_rfl) (by simp) ?_
        refine (held_cons rfl (fun K hK => ?_) AllReadyH.nil)
        go_simp
        refine hK.out _ _ trivial (fun _ => ?_)
        clear hK K
        (try simp only [Act.put, List.setIfInBounds_toArray, List.set_cons_zero, List.set_cons_succ])
        refine wpAnyH_ready (rs := [12]) (by kernel_rfl) (by simp) ?_
        refine (held_cons rfl (fun K hK => ?_) AllReadyH.nil)
        go_simp
        refine hK.out _ _ trivial (fun _ => ?_)
        clear hK K
        (try simp only [Act.put, List.setIfInBounds_toArray, List.set_cons_zero, List.set_cons_succ])
        refine held_take (i := 13) (v := .pointer (some ⟨w.heap.size + 1 + 1, 0, none⟩)) rfl (by kernel_rfl) (by kernel_rfl) (by kernel_rfl) (fun _ _ _ h => h) (Or.inl ⟨by rfl, ?_⟩) hHeld ?_
        · intro w hSw; go_simp; (try with_reducible rfl)
        (try simp only [Act.put, List.setIfInBounds_toArray, List.set_cons_zero, List.set_cons_succ])
        refine wpAnyH_done (by kernel_rfl) ?_ _
        have HE : Hid (Ck w.heap.size (w.heap.size + 1 + 1) (((Wd.alloc (.cells (Array.replicate N1 (.slice none 0 0)) 23)).alloc (.cells (Array.replicate N2 (.int .i64 0)) 3)).alloc (.cells #[.int .i64 v, .slice none 0 0, .slice none 0 0, .slice (some ⟨w.heap.size, 0, none⟩) N1 N1, .slice (some ⟨w.heap.size + 1, 0, none⟩) N2 N2, .slice none 0 0, .int .i64 0] 78)) (emptyS v) (emptyV v (w.heap.size) (w.heap.size + 1)) ∧ Below w.heap.size w (((Wd.alloc (.cells (Array.replicate N1 (.slice none 0 0)) 23)).alloc (.cells (Array.replicate N2 (.int .i64 0)) 3)).alloc (.cells #[.int .i64 v, .slice none 0 0, .slice none 0 0, .slice (some ⟨w.heap.size, 0, none⟩) N1 N1, .slice (some ⟨w.heap.size + 1, 0, none⟩) N2 N2, .slice none 0 0, .int .i64 0] 78))) := by
          have ka : Blk (Wd.alloc (.cells (Array.replicate N1 (.slice none 0 0)) 23)) Wd.heap.size 23 (List.replicate N1 (Value.slice none 0 0)) := by have := Blk.new (w := Wd) 23 (List.replicate N1 (Value.slice none 0 0)); rwa [List.toArray_replicate] at this
          have kb : Blk ((Wd.alloc (.cells (Array.replicate N1 (.slice none 0 0)) 23)).alloc (.cells (Array.replicate N2 (.int .i64 0)) 3)) (Wd.alloc (.cells (Array.replicate N1 (.slice none 0 0)) 23)).heap.size 3 (List.replicate N2 (Value.int .i64 0)) := by have := Blk.new (w := Wd.alloc (.cells (Array.replicate N1 (.slice none 0 0)) 23)) 3 (List.replicate N2 (Value.int .i64 0)); rwa [List.toArray_replicate] at this
          have ka3 := (ka.next (Below.new _ (.cells (Array.replicate N2 (.int .i64 0)) 3))).next (Below.new _ (.cells #[.int .i64 v, .slice none 0 0, .slice none 0 0, .slice (some ⟨w.heap.size, 0, none⟩) N1 N1, .slice (some ⟨w.heap.size + 1, 0, none⟩) N2 N2, .slice none 0 0, .int .i64 0] 78))
          have kb3 := kb.next (Below.new _ (.cells #[.int .i64 v, .slice none 0 0, .slice none 0 0, .slice (some ⟨w.heap.size, 0, none⟩) N1 N1, .slice (some ⟨w.heap.size + 1, 0, none⟩) N2 N2, .slice none 0 0, .int .i64 0] 78))
          have kc := Blk.new (w := (Wd.alloc (.cells (Array.replicate N1 (.slice none 0 0)) 23)).alloc (.cells (Array.replicate N2 (.int .i64 0)) 3)) 78 [.int .i64 v, .slice none 0 0, .slice none 0 0, .slice (some ⟨w.heap.size, 0, none⟩) N1 N1, .slice (some ⟨w.heap.size + 1, 0, none⟩) N2 N2, .slice none 0 0, .int .i64 0]
          rw [World.size_alloc, World.size_alloc, hsz] at kc
          rw [World.size_alloc, hsz] at kb3
          rw [hsz] at ka3
          subst hN1 hN2
          exact Lib.hid ⟨Ck.fresh (by omega) ka3 kb3 kc (by omega) (by omega) (by omega) (by omega) (by omega) (by omega), hb2.alloc hb2.size _⟩
        have HE2 : Hid (∃ V0, Ck w.heap.size (w.heap.size + 1 + 1) (((Wd.alloc (.cells (Array.replicate N1 (.slice none 0 0)) 23)).alloc (.cells (Array.replicate N2 (.int .i64 0)) 3)).alloc (.cells #[.int .i64 v, .slice none 0 0, .slice none 0 0, .slice (some ⟨w.heap.size, 0, none⟩) N1 N1, .slice (some ⟨w.heap.size + 1, 0, none⟩) N2 N2, .slice none 0 0, .int .i64 0] 78)) (emptyS v) V0 ∧ Below w.heap.size w (((Wd.alloc (.cells (Array.replicate N1 (.slice none 0 0)) 23)).alloc (.cells (Array.replicate N2 (.int .i64 0)) 3)).alloc (.cells #[.int .i64 v, .slice none 0 0, .slice none 0 0, .slice (some ⟨w.heap.size, 0, none⟩) N1 N1, .slice (some ⟨w.heap.size + 1, 0, none⟩) N2 N2, .slice none 0 0, .int .i64 0] 78)) ∧ V0 .kept = .slice none 0 0) := Lib.hid ⟨_, HE.out.1, HE.out.2, rfl⟩
        generalize ((Wd.alloc (.cells (Array.replicate N1 (.slice none 0 0)) 23)).alloc (.cells (Array.replicate N2 (.int .i64 0)) 3)).alloc (.cells #[.int .i64 v, .slice none 0 0, .slice none 0 0, .slice (some ⟨w.heap.size, 0, none⟩) N1 N1, .slice (some ⟨w.heap.size + 1, 0, none⟩) N2 N2, .slice none 0 0, .int .i64 0] 78) = W9 at *
        clear HE hb0 hb1 hb2
        obtain ⟨B, hB⟩ : ∃ B, w.heap.size + 1 + 1 = B := ⟨_, rfl⟩
        rw [hB] at HE2 ⊢
        clear hB hsz hHeld
        have hM0 : LoopM w.heap.size B w v cls 0 W9 := by
          obtain ⟨V0, h1, h2, h3⟩ := HE2.out
          exact ⟨emptyS v, V0, ⟨h1, h3, rfl, emptyS_wf v, rfl, rfl⟩, h2, rfl, rfl, by simp [emptyS], fun i => by simp [emptyS], fun l => ⟨fun ⟨i, hi, _⟩ => absurd hi (by simp [emptyS]), fun ⟨l', hl', _⟩ => by simp at hl'⟩⟩
        have HM0 := Lib.hid hM0
        clear hM0 HE2
        have hn0 := HN.out _ HM0.out.bel
        have HN0 := Lib.hid hn0
        obtain ⟨n, hn⟩ : ∃ n, cls.length = n := ⟨_, rfl⟩
        rw [hn] at HN0
        have hn6 : n ≤ 200000 := by rw [← hn]; exact HX.out.2.n
        have hni : (n : Int) ≤ 200000 := by omega
        have Hn := Lib.hid hn
        clear hn hn0
        go_wp2_with fail
        refine HN0.out.mono ?_
        rintro e w2 ⟨rfl, rfl⟩
        go_wp2_with fail
        go_loopw [20] (fun iv wr => ∃ i : Nat, i ≤ n ∧ iv = .int .i64 i ∧ LoopM w.heap.size B w v cls i wr) (fun iv _ => n - (intOf iv).toNat)
        case atStart => exact ⟨0, Nat.zero_le _, rfl, HM0.out⟩
        case round =>
          clear HM0 HN0
          obtain ⟨i, hin, rfl, hL⟩ := hrel
          have hc := HC.out _ hL.bel (i : Int)
          have HCi := Lib.hid hc
          have HL := Lib.hid hL
          by_cases hlt : i < n
          · have hil : i < cls.length := by rw [Hn.out]; exact hlt
            have hcl := clsI_nat cls i hil
            have hid : decide (i < n) = true := decide_eq_true hlt
            have hii : (i : Int) < n := by omega
            have hiw : IntKind.i64.wrap ((i : Int) + 1) = (i : Int) + 1 := i64_of (by omega)
            rw [hcl] at HCi
            clear hc hL hcl
            go_wp2_with fail
            refine HCi.out.mono ?_
            rintro e w2 ⟨lv, rfl, ho, hb2⟩
            have hadd := HL.out.step (by rw [Hn.out] at hil; omega) HX.out.2 hil ho hb2
            obtain ⟨pl, cl, rfl⟩ := ownsRow_form ho
            clear ho hb2 HCi
            generalize (cls.getD i []).length = k at *
            have HAdd := Lib.hid hadd
            clear hadd
            go_wp2_with fail
            refine HAdd.out.mono ?_
            rintro e w3 ⟨rfl, hM⟩
            have HM := Lib.hid hM
            clear hM
            go_wp2_with fail
            go_roundw
            case rel => exact ⟨i + 1, by omega, by go_num, HM.out⟩
            case measure => simp [intOf]; omega
          · have hid : decide (i < n) = false := decide_eq_false hlt
            clear hc hL
            go_wp2_with fail
            go_ret
            have hil : i = cls.length := by rw [Hn.out]; omega
            obtain ⟨S, V, h1, h2, h3, h4, h5, h6, h7⟩ := HL.out
            refine ⟨B, S, V, rfl, h1, h2, h3, by rw [h4, hil], by rw [← hil]; exact h5, h6, fun l => ?_⟩
            rw [h7, hil, List.take_length]
  · skip
    go_simp
    refine (HV.out _ hb0).mono ?_; rintro e w2 ⟨rfl, hw2⟩
    subst hw2
    (try go_simp)
    refine hK.out _ _ trivial (fun _ => ?_)
    clear hK K
    (try simp only [Act.put, List.setIfInBounds_toArray, List.set_cons_zero, List.set_cons_succ])
    refine held_take (i := 9) (v := .int .i64 (N2 : Int)) rfl (by kernel_rfl) (by kernel_rfl) (by kernel_rfl) (fun _ _ _ h => h) (Or.inl ⟨by rfl, ?_⟩) hHeld ?_
    · intro w hSw; go_simp; (try with_reducible rfl)
    (try simp only [Act.put, List.setIfInBounds_toArray, List.set_cons_zero, List.set_cons_succ])
    refine wpAnyH_ready (rs := [6, 10]) (by kernel_rfl) (by simp) ?_
    refine (held_cons rfl (fun K hK => ?_) (held_cons rfl (fun K hK => ?_) AllReadyH.nil))
    · skip
      have hmk := hm1.out Wd
      go_simp
      refine hK.out _ _ trivial (fun _ => ?_)
      clear hK K hmk
      (try simp only [Act.put, List.setIfInBounds_toArray, List.set_cons_zero, List.set_cons_succ])
      have hb1 := hb0.alloc hb0.size (.cells (Array.replicate N1 (.slice none 0 0)) 23)
      refine wpAnyH_ready (rs := [10]) (by kernel_rfl) (by simp) ?_
      refine (held_cons rfl (fun K hK => ?_) AllReadyH.nil)
      · skip
        have hmk := hm2.out (Wd.alloc (.cells (Array.replicate N1 (.slice none 0 0)) 23))
        go_simp
        refine hK.out _ _ trivial (fun _ => ?_)
        clear hK K hmk
        (try simp only [Act.put, List.setIfInBounds_toArray, List.set_cons_zero, List.set_cons_succ])
        have hb2 := hb1.alloc hb1.size (.cells (Array.replicate N2 (.int .i64 0)) 3)
        refine wpAnyH_ready (rs := [11]) (by kernel_rfl) (by simp) ?_
        refine (held_cons rfl (fun K hK => ?_) AllReadyH.nil)
        go_simp
        refine hK.out _ _ trivial (fun _ => ?_)
        clear hK K
        (try simp only [Act.put, List.setIfInBounds_toArray, List.set_cons_zero, List.set_cons_succ])
        refine wpAnyH_ready (rs := [12]) (by kernel_rfl) (by simp) ?_
        refine (held_cons rfl (fun K hK => ?_) AllReadyH.nil)
        go_simp
        refine hK.out _ _ trivial (fun _ => ?_)
        clear hK K
        (try simp only [Act.put, List.setIfInBounds_toArray, List.set_cons_zero, List.set_cons_succ])
        refine held_take (i := 13) (v := .pointer (some ⟨w.heap.size + 1 + 1, 0, none⟩)) rfl (by kernel_rfl) (by kernel_rfl) (by kernel_rfl) (fun _ _ _ h => h) (Or.inl ⟨by rfl, ?_⟩) hHeld ?_
        · intro w hSw; go_simp; (try with_reducible rfl)
        (try simp only [Act.put, List.setIfInBounds_toArray, List.set_cons_zero, List.set_cons_succ])
        refine wpAnyH_done (by kernel_rfl) ?_ _
        have HE : Hid (Ck w.heap.size (w.heap.size + 1 + 1) (((Wd.alloc (.cells (Array.replicate N1 (.slice none 0 0)) 23)).alloc (.cells (Array.replicate N2 (.int .i64 0)) 3)).alloc (.cells #[.int .i64 v, .slice none 0 0, .slice none 0 0, .slice (some ⟨w.heap.size, 0, none⟩) N1 N1, .slice (some ⟨w.heap.size + 1, 0, none⟩) N2 N2, .slice none 0 0, .int .i64 0] 78)) (emptyS v) (emptyV v (w.heap.size) (w.heap.size + 1)) ∧ Below w.heap.size w (((Wd.alloc (.cells (Array.replicate N1 (.slice none 0 0)) 23)).alloc (.cells (Array.replicate N2 (.int .i64 0)) 3)).alloc (.cells #[.int .i64 v, .slice none 0 0, .slice none 0 0, .slice (some ⟨w.heap.size, 0, none⟩) N1 N1, .slice (some ⟨w.heap.size + 1, 0, none⟩) N2 N2, .slice none 0 0, .int .i64 0] 78))) := by
          have ka : Blk (Wd.alloc (.cells (Array.replicate N1 (.slice none 0 0)) 23)) Wd.heap.size 23 (List.replicate N1 (Value.slice none 0 0)) := by have := Blk.new (w := Wd) 23 (List.replicate N1 (Value.slice none 0 0)); rwa [List.toArray_replicate] at this
          have kb : Blk ((Wd.alloc (.cells (Array.replicate N1 (.slice none 0 0)) 23)).alloc (.cells (Array.replicate N2 (.int .i64 0)) 3)) (Wd.alloc (.cells (Array.replicate N1 (.slice none 0 0)) 23)).heap.size 3 (List.replicate N2 (Value.int .i64 0)) := by have := Blk.new (w := Wd.alloc (.cells (Array.replicate N1 (.slice none 0 0)) 23)) 3 (List.replicate N2 (Value.int .i64 0)); rwa [List.toArray_replicate] at this
          have ka3 := (ka.next (Below.new _ (.cells (Array.replicate N2 (.int .i64 0)) 3))).next (Below.new _ (.cells #[.int .i64 v, .slice none 0 0, .slice none 0 0, .slice (some ⟨w.heap.size, 0, none⟩) N1 N1, .slice (some ⟨w.heap.size + 1, 0, none⟩) N2 N2, .slice none 0 0, .int .i64 0] 78))
          have kb3 := kb.next (Below.new _ (.cells #[.int .i64 v, .slice none 0 0, .slice none 0 0, .slice (some ⟨w.heap.size, 0, none⟩) N1 N1, .slice (some ⟨w.heap.size + 1, 0, none⟩) N2 N2, .slice none 0 0, .int .i64 0] 78))
          have kc := Blk.new (w := (Wd.alloc (.cells (Array.replicate N1 (.slice none 0 0)) 23)).alloc (.cells (Array.replicate N2 (.int .i64 0)) 3)) 78 [.int .i64 v, .slice none 0 0, .slice none 0 0, .slice (some ⟨w.heap.size, 0, none⟩) N1 N1, .slice (some ⟨w.heap.size + 1, 0, none⟩) N2 N2, .slice none 0 0, .int .i64 0]
          rw [World.size_alloc, World.size_alloc, hsz] at kc
          rw [World.size_alloc, hsz] at kb3
          rw [hsz] at ka3
          subst hN1 hN2
          exact Lib.hid ⟨Ck.fresh (by omega) ka3 kb3 kc (by omega) (by omega) (by omega) (by omega) (by omega) (by omega), hb2.alloc hb2.size _⟩
        have HE2 : Hid (∃ V0, Ck w.heap.size (w.heap.size + 1 + 1) (((Wd.alloc (.cells (Array.replicate N1 (.slice none 0 0)) 23)).alloc (.cells (Array.replicate N2 (.int .i64 0)) 3)).alloc (.cells #[.int .i64 v, .slice none 0 0, .slice none 0 0, .slice (some ⟨w.heap.size, 0, none⟩) N1 N1, .slice (some ⟨w.heap.size + 1, 0, none⟩) N2 N2, .slice none 0 0, .int .i64 0] 78)) (emptyS v) V0 ∧ Below w.heap.size w (((Wd.alloc (.cells (Array.replicate N1 (.slice none 0 0)) 23)).alloc (.cells (Array.replicate N2 (.int .i64 0)) 3)).alloc (.cells #[.int .i64 v, .slice none 0 0, .slice none 0 0, .slice (some ⟨w.heap.size, 0, none⟩) N1 N1, .slice (some ⟨w.heap.size + 1, 0, none⟩) N2 N2, .slice none 0 0, .int .i64 0] 78)) ∧ V0 .kept = .slice none 0 0) := Lib.hid ⟨_, HE.out.1, HE.out.2, rfl⟩
        generalize ((Wd.alloc (.cells (Array.replicate N1 (.slice none 0 0)) 23)).alloc (.cells (Array.replicate N2 (.int .i64 0)) 3)).alloc (.cells #[.int .i64 v, .slice none 0 0, .slice none 0 0, .slice (some ⟨w.heap.size, 0, none⟩) N1 N1, .slice (some ⟨w.heap.size + 1, 0, none⟩) N2 N2, .slice none 0 0, .int .i64 0] 78) = W9 at *
        clear HE hb0 hb1 hb2
        obtain ⟨B, hB⟩ : ∃ B, w.heap.size + 1 + 1 = B := ⟨_, rfl⟩
        rw [hB] at HE2 ⊢
        clear hB hsz hHeld
        have hM0 : LoopM w.heap.size B w v cls 0 W9 := by
          obtain ⟨V0, h1, h2, h3⟩ := HE2.out
          exact ⟨emptyS v, V0, ⟨h1, h3, rfl, emptyS_wf v, rfl, rfl⟩, h2, rfl, rfl, by simp [emptyS], fun i => by simp [emptyS], fun l => ⟨fun ⟨i, hi, _⟩ => absurd hi (by simp [emptyS]), fun ⟨l', hl', _⟩ => by simp at hl'⟩⟩
        have HM0 := Lib.hid hM0
        clear hM0 HE2
        have hn0 := HN.out _ HM0.out.bel
        have HN0 := Lib.hid hn0
        obtain ⟨n, hn⟩ : ∃ n, cls.length = n := ⟨_, rfl⟩
        rw [hn] at HN0
        have hn6 : n ≤ 200000 := by rw [← hn]; exact HX.out.2.n
        have hni : (n : Int) ≤ 200000 := by omega
        have Hn := Lib.hid hn
        clear hn hn0
        go_wp2_with fail
        refine HN0.out.mono ?_
        rintro e w2 ⟨rfl, rfl⟩
        go_wp2_with fail
        go_loopw [20] (fun iv wr => ∃ i : Nat, i ≤ n ∧ iv = .int .i64 i ∧ LoopM w.heap.size B w v cls i wr) (fun iv _ => n - (intOf iv).toNat)
        case atStart => exact ⟨0, Nat.zero_le _, rfl, HM0.out⟩
        case round =>
          clear HM0 HN0
          obtain ⟨i, hin, rfl, hL⟩ := hrel
          have hc := HC.out _ hL.bel (i : Int)
          have HCi := Lib.hid hc
          have HL := Lib.hid hL
          by_cases hlt : i < n
          · have hil : i < cls.length := by rw [Hn.out]; exact hlt
            have hcl := clsI_nat cls i hil
            have hid : decide (i < n) = true := decide_eq_true hlt
            have hii : (i : Int) < n := by omega
            have hiw : IntKind.i64.wrap ((i : Int) + 1) = (i : Int) + 1 := i64_of (by omega)
            rw [hcl] at HCi
            clear hc hL hcl
            go_wp2_with fail
            refine HCi.out.mono ?_
            rintro e w2 ⟨lv, rfl, ho, hb2⟩
            have hadd := HL.out.step (by rw [Hn.out] at hil; omega) HX.out.2 hil ho hb2
            obtain ⟨pl, cl, rfl⟩ := ownsRow_form ho
            clear ho hb2 HCi
            generalize (cls.getD i []).length = k at *
            have HAdd := Lib.hid hadd
            clear hadd
            go_wp2_with fail
            refine HAdd.out.mono ?_
            rintro e w3 ⟨rfl, hM⟩
            have HM := Lib.hid hM
            clear hM
            go_wp2_with fail
            go_roundw
            case rel => exact ⟨i + 1, by omega, by go_num, HM.out⟩
            case measure => simp [intOf]; omega
          · have hid : decide (i < n) = false := decide_eq_false hlt
            clear hc hL
            go_wp2_with fail
            go_ret
            have hil : i = cls.length := by rw [Hn.out]; omega
            obtain ⟨S, V, h1, h2, h3, h4, h5, h6, h7⟩ := HL.out
            refine ⟨B, S, V, rfl, h1, h2, h3, by rw [h4, hil], by rw [← hil]; exact h5, h6, fun l => ?_⟩
            rw [h7, hil, List.take_length]
    · skip
      have hmk := hm2.out Wd
      go_simp
      refine hK.out _ _ trivial (fun _ => ?_)
      clear hK K hmk
      (try simp only [Act.put, List.setIfInBounds_toArray, List.set_cons_zero, List.set_cons_succ])
      have hb1 := hb0.alloc hb0.size (.cells (Array.replicate N2 (.int .i64 0)) 3)
      refine wpAnyH_ready (rs := [6]) (by kernel_rfl) (by simp) ?_
      refine (held_cons rfl (fun K hK => ?_) AllReadyH.nil)
      · skip
        have hmk := hm1.out (Wd.alloc (.cells (Array.replicate N2 (.int .i64 0)) 3))
        go_simp
        refine hK.out _ _ trivial (fun _ => ?_)
        clear hK K hmk
        (try simp only [Act.put, List.setIfInBounds_toArray, List.set_cons_zero, List.set_cons_succ])
        have hb2 := hb1.alloc hb1.size (.cells (Array.replicate N1 (.slice none 0 0)) 23)
        refine wpAnyH_ready (rs := [11]) (by kernel_rfl) (by simp) ?_
        refine (held_cons rfl (fun K hK => ?_) AllReadyH.nil)
        go_simp
        refine hK.out _ _ trivial (fun _ => ?_)
        clear hK K
        (try simp only [Act.put, List.setIfInBounds_toArray, List.set_cons_zero, List.set_cons_succ])
        refine wpAnyH_ready (rs := [12]) (by kernel_rfl) (by simp) ?_
        refine (held_cons rfl (fun K hK => ?_) AllReadyH.nil)
        go_simp
        refine hK.out _ _ trivial (fun _ => ?_)
        clear hK K
        (try simp only [Act.put, List.setIfInBounds_toArray, List.set_cons_zero, List.set_cons_succ])
        refine held_take (i := 13) (v := .pointer (some ⟨w.heap.size + 1 + 1, 0, none⟩)) rfl (by kernel_rfl) (by kernel_rfl) (by kernel_rfl) (fun _ _ _ h => h) (Or.inl ⟨by rfl, ?_⟩) hHeld ?_
        · intro w hSw; go_simp; (try with_reducible rfl)
        (try simp only [Act.put, List.setIfInBounds_toArray, List.set_cons_zero, List.set_cons_succ])
        refine wpAnyH_done (by kernel_rfl) ?_ _
        have HE : Hid (Ck w.heap.size (w.heap.size + 1 + 1) (((Wd.alloc (.cells (Array.replicate N2 (.int .i64 0)) 3)).alloc (.cells (Array.replicate N1 (.slice none 0 0)) 23)).alloc (.cells #[.int .i64 v, .slice none 0 0, .slice none 0 0, .slice (some ⟨w.heap.size + 1, 0, none⟩) N1 N1, .slice (some ⟨w.heap.size, 0, none⟩) N2 N2, .slice none 0 0, .int .i64 0] 78)) (emptyS v) (emptyV v (w.heap.size + 1) (w.heap.size)) ∧ Below w.heap.size w (((Wd.alloc (.cells (Array.replicate N2 (.int .i64 0)) 3)).alloc (.cells (Array.replicate N1 (.slice none 0 0)) 23)).alloc (.cells #[.int .i64 v, .slice none 0 0, .slice none 0 0, .slice (some ⟨w.heap.size + 1, 0, none⟩) N1 N1, .slice (some ⟨w.heap.size, 0, none⟩) N2 N2, .slice none 0 0, .int .i64 0] 78))) := by
          have ka : Blk (Wd.alloc (.cells (Array.replicate N2 (.int .i64 0)) 3)) Wd.heap.size 3 (List.replicate N2 (Value.int .i64 0)) := by have := Blk.new (w := Wd) 3 (List.replicate N2 (Value.int .i64 0)); rwa [List.toArray_replicate] at this
          have kb : Blk ((Wd.alloc (.cells (Array.replicate N2 (.int .i64 0)) 3)).alloc (.cells (Array.replicate N1 (.slice none 0 0)) 23)) (Wd.alloc (.cells (Array.replicate N2 (.int .i64 0)) 3)).heap.size 23 (List.replicate N1 (Value.slice none 0 0)) := by have := Blk.new (w := Wd.alloc (.cells (Array.replicate N2 (.int .i64 0)) 3)) 23 (List.replicate N1 (Value.slice none 0 0)); rwa [List.toArray_replicate] at this
          have ka3 := (ka.next (Below.new _ (.cells (Array.replicate N1 (.slice none 0 0)) 23))).next (Below.new _ (.cells #[.int .i64 v, .slice none 0 0, .slice none 0 0, .slice (some ⟨w.heap.size + 1, 0, none⟩) N1 N1, .slice (some ⟨w.heap.size, 0, none⟩) N2 N2, .slice none 0 0, .int .i64 0] 78))
          have kb3 := kb.next (Below.new _ (.cells #[.int .i64 v, .slice none 0 0, .slice none 0 0, .slice (some ⟨w.heap.size + 1, 0, none⟩) N1 N1, .slice (some ⟨w.heap.size, 0, none⟩) N2 N2, .slice none 0 0, .int .i64 0] 78))
          have kc := Blk.new (w := (Wd.alloc (.cells (Array.replicate N2 (.int .i64 0)) 3)).alloc (.cells (Array.replicate N1 (.slice none 0 0)) 23)) 78 [.int .i64 v, .slice none 0 0, .slice none 0 0, .slice (some ⟨w.heap.size + 1, 0, none⟩) N1 N1, .slice (some ⟨w.heap.size, 0, none⟩) N2 N2, .slice none 0 0, .int .i64 0]
          rw [World.size_alloc, World.size_alloc, hsz] at kc
          rw [World.size_alloc, hsz] at kb3
          rw [hsz] at ka3
          subst hN1 hN2
          exact Lib.hid ⟨Ck.fresh (by omega) kb3 ka3 kc (by omega) (by omega) (by omega) (by omega) (by omega) (by omega), hb2.alloc hb2.size _⟩
        have HE2 : Hid (∃ V0, Ck w.heap.size (w.heap.size + 1 + 1) (((Wd.alloc (.cells (Array.replicate N2 (.int .i64 0)) 3)).alloc (.cells (Array.replicate N1 (.slice none 0 0)) 23)).alloc (.cells #[.int .i64 v, .slice none 0 0, .slice none 0 0, .slice (some ⟨w.heap.size + 1, 0, none⟩) N1 N1, .slice (some ⟨w.heap.size, 0, none⟩) N2 N2, .slice none 0 0, .int .i64 0] 78)) (emptyS v) V0 ∧ Below w.heap.size w (((Wd.alloc (.cells (Array.replicate N2 (.int .i64 0)) 3)).alloc (.cells (Array.replicate N1 (.slice none 0 0)) 23)).alloc (.cells #[.int .i64 v, .slice none 0 0, .slice none 0 0, .slice (some ⟨w.heap.size + 1, 0, none⟩) N1 N1, .slice (some ⟨w.heap.size, 0, none⟩) N2 N2, .slice none 0 0, .int .i64 0] 78)) ∧ V0 .kept = .slice none 0 0) := Lib.hid ⟨_, HE.out.1, HE.out.2, rfl⟩
        generalize ((Wd.alloc (.cells (Array.replicate N2 (.int .i64 0)) 3)).alloc (.cells (Array.replicate N1 (.slice none 0 0)) 23)).alloc (.cells #[.int .i64 v, .slice none 0 0, .slice none 0 0, .slice (some ⟨w.heap.size + 1, 0, none⟩) N1 N1, .slice (some ⟨w.heap.size, 0, none⟩) N2 N2, .slice none 0 0, .int .i64 0] 78) = W9 at *
        clear HE hb0 hb1 hb2
        obtain ⟨B, hB⟩ : ∃ B, w.heap.size + 1 + 1 = B := ⟨_, rfl⟩
        rw [hB] at HE2 ⊢
        clear hB hsz hHeld
        have hM0 : LoopM w.heap.size B w v cls 0 W9 := by
          obtain ⟨V0, h1, h2, h3⟩ := HE2.out
          exact ⟨emptyS v, V0, ⟨h1, h3, rfl, emptyS_wf v, rfl, rfl⟩, h2, rfl, rfl, by simp [emptyS], fun i => by simp [emptyS], fun l => ⟨fun ⟨i, hi, _⟩ => absurd hi (by simp [emptyS]), fun ⟨l', hl', _⟩ => by simp at hl'⟩⟩
        have HM0 := Lib.hid hM0
        clear hM0 HE2
        have hn0 := HN.out _ HM0.out.bel
        have HN0 := Lib.hid hn0
        obtain ⟨n, hn⟩ : ∃ n, cls.length = n := ⟨_, rfl⟩
        rw [hn] at HN0
        have hn6 : n ≤ 200000 := by rw [← hn]; exact HX.out.2.n
        have hni : (n : Int) ≤ 200000 := by omega
        have Hn := Lib.hid hn
        clear hn hn0
        go_wp2_with fail
        refine HN0.out.mono ?_
        rintro e w2 ⟨rfl, rfl⟩
        go_wp2_with fail
        go_loopw [20] (fun iv wr => ∃ i : Nat, i ≤ n ∧ iv = .int .i64 i ∧ LoopM w.heap.size B w v cls i wr) (fun iv _ => n - (intOf iv).toNat)
        case atStart => exact ⟨0, Nat.zero_le _, rfl, HM0.out⟩
        case round =>
          clear HM0 HN0
          obtain ⟨i, hin, rfl, hL⟩ := hrel
          have hc := HC.out _ hL.bel (i : Int)
          have HCi := Lib.hid hc
          have HL := Lib.hid hL
          by_cases hlt : i < n
          · have hil : i < cls.length := by rw [Hn.out]; exact hlt
            have hcl := clsI_nat cls i hil
            have hid : decide (i < n) = true := decide_eq_true hlt
            have hii : (i : Int) < n := by omega
            have hiw : IntKind.i64.wrap ((i : Int) + 1) = (i : Int) + 1 := i64_of (by omega)
            rw [hcl] at HCi
            clear hc hL hcl
            go_wp2_with fail
            refine HCi.out.mono ?_
            rintro e w2 ⟨lv, rfl, ho, hb2⟩
            have hadd := HL.out.step (by rw [Hn.out] at hil; omega) HX.out.2 hil ho hb2
            obtain ⟨pl, cl, rfl⟩ := ownsRow_form ho
            clear ho hb2 HCi
            generalize (cls.getD i []).length = k at *
            have HAdd := Lib.hid hadd
            clear hadd
            go_wp2_with fail
            refine HAdd.out.mono ?_
            rintro e w3 ⟨rfl, hM⟩
            have HM := Lib.hid hM
            clear hM
            go_wp2_with fail
            go_roundw
            case rel => exact ⟨i + 1, by omega, by go_num, HM.out⟩
            case measure => simp [intOf]; omega
          · have hid : decide (i < n) = false := decide_eq_false hlt
            clear hc hL
            go_wp2_with fail
            go_ret
            have hil : i = cls.length := by rw [Hn.out]; omega
            obtain ⟨S, V, h1, h2, h3, h4, h5, h6, h7⟩ := HL.out
            refine ⟨B, S, V, rfl, h1, h2, h3, by rw [h4, hil], by rw [← hil]; exact h5, h6, fun l => ?_⟩
            rw [h7, hil, List.take_length]
end Go.Proofs.Ytcifiibpiooeiaa
