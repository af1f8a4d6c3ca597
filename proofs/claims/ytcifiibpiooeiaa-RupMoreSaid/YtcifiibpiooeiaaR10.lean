import Derived.Test.YtcifiibpiooeiaaRP6
namespace Go.Proofs.Ytcifiibpiooeiaa
set_option linter.unusedVariables false
open Go Go.Lib Go.RowKit Go.Sort

/-! ## add -/
section
variable {base b : Nat} {w w1 : World} {S : St} {V : Key → Value}
theorem own_base2 {w : World} {b1 b2 e n : Nat} {v : Value} {xs : List Value} (h : w.ownsRow b1 e 1 v n xs) (hb : b2 ≤ b1) : w.ownsRow b2 e 1 v n xs := by
  rcases h.2 with ⟨e1, e2⟩ | ⟨g, cap, cur, e1, h1, h2⟩
  · exact ⟨h.1, .inl ⟨e1, e2⟩⟩
  · exact ⟨h.1, .inr ⟨g, cap, cur, e1, Nat.le_trans hb h1, h2⟩⟩
/-- a clause's row, a new one, ahead of its place among the clauses -/
theorem Ck.putc (h : Ck base b w S V) {n : Nat} {v' : Value} {L : List Int} (hown : w1.ownsRow w.heap.size 3 1 v' n (ints L)) (hb : Below w.heap.size w w1) : Ck base b w1 (setcl S S.m L) (updV V (.c S.m) v') := by
  have hm := h.mem.put (.c S.m) (w' := w1) (v' := v') (n := n) (xs := ints L) (own_base2 hown h.base_le) hb.size (fun g hg => .inr (own_lt hown g hg).1) (fun g hg _ => hb.block g hg)
  have e : upd (Rof S V) (.c S.m) (v', ints L) = Rof (setcl S S.m L) (updV V (.c S.m) v') := by
    funext k
    cases k with
    | c j => by_cases hj : j = S.m <;> simp [upd, Rof, updV, setcl, hj]
    | cl =>
      simp only [upd, Rof, updV, setcl]
      rw [if_neg (by simp)]
      congr 1
      refine List.map_congr_left fun i hi => ?_
      have := List.mem_range.1 hi
      have hne : ¬ (Key.c i = Key.c S.m) := fun e => by cases e; omega
      rw [if_neg hne]
    | _ => simp [upd, Rof, updV, setcl]
  rw [e] at hm
  exact ⟨hm, by
    have := h.blk.next hb
    have e3 : ckCells (setcl S S.m L) (updV V (.c S.m) v') = ckCells S V := by simp [ckCells, updV, setcl]
    rw [e3]; exact this⟩
theorem Ck.appcl (h : Ck base b w S V) {v' : Value} {n : Nat} (ha : AppR base 23 1 w (V .cl) n (((List.range S.m).map fun i => V (.c i)) ++ [V (.c S.m)]) v' w1) : Ck base b (w1.setCell ⟨b, 1, none⟩ v') (growS S) (updV V .cl v') := by
  have hm := h.mem.app .cl (v' := v') (n := n) ha
  have e : upd (Rof S V) .cl (v', ((List.range S.m).map fun i => V (.c i)) ++ [V (.c S.m)]) = Rof (growS S) (updV V .cl v') := by
    funext k
    cases k with
    | cl => simp [upd, Rof, updV, growS, List.range_succ]
    | _ => simp [upd, Rof, updV, growS]
  rw [e] at hm
  have hb1 := h.appblk .cl ha
  refine ⟨hm.keep (by simp) fun k g hg => Below.heap_setCell _ _ _ _ (fun e => hm.nb k (by rw [hg]; exact congrArg some e)), ?_⟩
  have := hb1.set 1 v'
  have e : (ckCells S V).set 1 v' = ckCells (growS S) (updV V .cl v') := by simp [ckCells, updV, growS]
  rwa [e] at this
theorem Ck.appsh (h : Ck base b w S V) {v' : Value} {n : Nat} {l : List Int} (ha : AppR base 3 1 w (V .sh) n (ints l) v' w1) : Ck base b (w1.setCell ⟨b, 2, none⟩ v') { S with short := l } (updV V .sh v') := by
  have hm := h.mem.app .sh (v' := v') (n := n) (xs := ints l) ha
  rw [Rof_sh] at hm
  have hb1 := h.appblk .sh ha
  refine ⟨hm.keep (by simp) fun k g hg => Below.heap_setCell _ _ _ _ (fun e => hm.nb k (by rw [hg]; exact congrArg some e)), ?_⟩
  have := hb1.set 2 v'
  have e : (ckCells S V).set 2 v' = ckCells { S with short := l } (updV V .sh v') := by simp [ckCells, updV]
  rwa [e] at this
end
def KAddR (base b : Nat) (w : World) (S : St) (V : Key → Value) (l : List Int) (e : Ending) (w' : World) : Prop :=
  e = .returned (.tuple #[]) ∧ ∃ V', Ck base b w' (addS S (clauseI l)) V' ∧ Below base w w' ∧ V' .kept = V .kept
theorem sort_gen {w : World} {base : Nat} {v : Value} {l : List Int} (h : w.ownsRow base 3 1 v l.length (ints l)) (hn : l.length ≤ 1000000000000) :
    Calls Try.prog 79 #[v] w fun e w' => e = .returned (.tuple #[]) ∧ w'.ownsRow base 3 1 v l.length (ints (sortI l)) ∧ w.grownBy w' v.ownBlock := by
  rcases h.2 with ⟨rfl, e0⟩ | ⟨g, cap, cur, rfl, _⟩
  · have hl0 : l = [] := List.length_eq_zero_iff.1 e0
    subst hl0
    refine (Try.slices_Sort_int_none none 0 w).mono ?_
    rintro e w' ⟨he, rfl⟩
    have e : sortI [] = [] := by simp [sortI]
    rw [e]
    exact ⟨he, h, rfl, rfl, rfl, Nat.le_refl _, fun _ _ _ => rfl⟩
  · exact sort_own h hn
theorem comp_gen {w : World} {base : Nat} {v : Value} {l : List Int} (h : w.ownsRow base 3 1 v l.length (ints l)) (hn : l.length ≤ 1000000000000) :
    Calls Try.prog 64 #[v] w fun e w' => ∃ v', e = .returned v' ∧ w'.ownsRow base 3 1 v' (compact l).length (ints (compact l)) ∧ w.grownBy w' v.ownBlock := by
  rcases h.2 with ⟨rfl, e0⟩ | ⟨g, cap, cur, rfl, _⟩
  · have hl0 : l = [] := List.length_eq_zero_iff.1 e0
    subst hl0
    refine (Try.slices_Compact_int_empty none 0 w).mono ?_
    rintro e w' ⟨he, rfl⟩
    exact ⟨_, he, h, rfl, rfl, rfl, Nat.le_refl _, fun _ _ _ => rfl⟩
  · exact (comp_own h hn).mono fun e w' ⟨h1, h2, h3⟩ => ⟨_, h1, h2, h3⟩
/-- the watches laid so far -/
def wS (S : St) (L : List Int) : Nat → St
  | 0 => addC0 S L
  | 1 => watchS (addC0 S L) (L.getD 0 0) S.m
  | _ => watchS (watchS (addC0 S L) (L.getD 0 0) S.m) (L.getD 1 0) S.m
theorem wS_succ (S : St) (L : List Int) {k : Nat} (h : k < 2) : wS S L (k + 1) = watchS (wS S L k) (L.getD k 0) S.m := by
  rcases (show k = 0 ∨ k = 1 by omega) with rfl | rfl <;> rfl
theorem wS_v (S : St) (L : List Int) (k : Nat) : (wS S L k).v = S.v := by match k with | 0 => rfl | 1 => rfl | _ + 2 => rfl
theorem wS_cl (S : St) (L : List Int) (k : Nat) : (wS S L k).cl S.m = L := by
  have e : (addC0 S L).cl S.m = L := by simp [addC0, growS, setcl]
  match k with | 0 => exact e | 1 => exact e | _ + 2 => exact e
theorem wS_wt (S : St) (L : List Int) {k : Nat} (h : k < 2) (s : Nat) : ((wS S L k).wt s).length ≤ (S.wt s).length + 1 := by
  rcases (show k = 0 ∨ k = 1 by omega) with rfl | rfl
  · show (S.wt s).length ≤ _; omega
  · show ((watchS (addC0 S L) (L.getD 0 0) S.m).wt s).length ≤ _
    simp only [watchS, setwt]
    by_cases e : s = slotN (L.getD 0 0)
    · rw [if_pos e, List.length_append, ← e]; exact Nat.le_refl _
    · rw [if_neg e]; show (S.wt s).length ≤ _; omega
structure LoopW (base b : Nat) (w : World) (S : St) (V : Key → Value) (L : List Int) (cv : Value) (k : Nat) (V1 : Key → Value) (wr : World) : Prop where
  ck : Ck base b wr (wS S L k) V1
  bel : Below base w wr
  keep : V1 .kept = V .kept
  cv : V1 (.c S.m) = cv
/-- the clause made ready: cloned, sorted, compacted -/
def ReadyR (w : World) (l : List Int) (v : Value) (w1 : World) : Prop := w1.ownsRow w.heap.size 3 1 v (clauseI l).length (ints (clauseI l)) ∧ Below w.heap.size w w1
set_option maxRecDepth 100000 in
set_option maxHeartbeats 8000000 in
theorem kadd_any {base b : Nat} {w : World} {S : St} {V : Key → Value} {lv : Value} {l : List Int} (h : Ck base b w S V) (hl : ∀ x, x ∈ l → x ≠ 0 ∧ x.natAbs ≤ S.v) (hro : RO w lv 1 l.length (ints l)) (hn6 : l.length ≤ 1000000)
    (hv : S.v ≤ 400000) (hm : S.m ≤ 1000000) (hsh : S.short.length ≤ 1000000) (hwt : ∀ s, (S.wt s).length ≤ 1000000) :
    Calls Try.prog 53 #[.pointer (some ⟨b, 0, none⟩), lv] w (KAddR base b w S V l) := by
  have HCl := Lib.hid (clone_ints hro (ints_one l) (by omega))
  obtain ⟨_, pl, cl, rfl, _⟩ := hro
  have HX := Lib.hid (And.intro h (And.intro hl (And.intro hn6 (And.intro hv (And.intro hm (And.intro hsh hwt))))))
  obtain ⟨n, hn⟩ : ∃ n, l.length = n := ⟨_, rfl⟩
  rw [hn] at HCl hn6 ⊢
  have HN := Lib.hid hn
  clear h hl hv hm hsh hwt hn
  go_enter Try.func53, Try.ntmps53
  go_wp2_with fail
  refine HCl.out.mono ?_; rintro e w1 ⟨v1, rfl, hr, hb1⟩
  obtain ⟨p1, c1, rfl⟩ := ownsRow_form hr
  have HH := HN.out
  subst HH
  have HB := Lib.hid hb1
  have HS := Lib.hid (sort_gen hr (by omega))
  have HG := Lib.hid (fun g hg => (own_lt hr g hg).1)
  clear hr hb1
  go_wp2_with fail
  refine HS.out.mono ?_; rintro e w2 ⟨rfl, ho2, hg2⟩
  rw [← sortI_len l] at ho2 ⊢
  have HC := Lib.hid (comp_gen ho2 (by rw [sortI_len]; omega))
  have HB2 := Lib.hid (HB.out.grown hg2 HB.out.size HG.out)
  clear ho2 hg2
  go_wp2_with fail
  refine HC.out.mono ?_; rintro e w3 ⟨v3, rfl, ho3, hg3⟩
  rw [show compact (sortI l) = clauseI l from rfl] at ho3
  have hready : ReadyR w l v3 w3 := ⟨ho3, HB2.out.grown hg3 HB2.out.size (by rw [sortI_len]; exact HG.out)⟩
  obtain ⟨p3, c3, rfl⟩ := ownsRow_form ho3
  have hll := clauseI_len l
  obtain ⟨L, hL⟩ : ∃ L, clauseI l = L := ⟨_, rfl⟩
  have hck := HX.out.1.putc hready.1 hready.2
  have hbel := hready.2.mono HX.out.1.base_le
  rw [hL] at hck hll ⊢
  obtain ⟨n3, hn3⟩ : ∃ n, L.length = n := ⟨_, rfl⟩
  rw [hn3] at hck hll ⊢
  obtain ⟨V3, hV3⟩ : ∃ Z, updV V (.c S.m) (.slice p3 n3 c3) = Z := ⟨_, rfl⟩
  have hVk : V3 .kept = V .kept := by rw [← hV3]; simp [updV]
  have hVc : V3 (.c S.m) = .slice p3 n3 c3 := by rw [← hV3]; simp [updV]
  rw [hV3] at hck
  obtain ⟨pc, cc, hVcl⟩ := hck.form .cl
  have hcl2 : (Rof (setcl S S.m L) V3 .cl).2.length = S.m := by simp [Rof, setcl]
  rw [hcl2] at hVcl
  have c1 := hck.cell (i := 1) rfl
  have f1 := hck.blk.frz 1
  rw [hVcl] at c1
  obtain ⟨m, hm⟩ : ∃ m, S.m = m := ⟨_, rfl⟩
  rw [hm] at c1 hVcl
  have hm6 : m ≤ 1000000 := by rw [← hm]; exact HX.out.2.2.2.2.1
  have hmi : (m : Int) ≤ 1000000 := by omega
  have hni : (n3 : Int) ≤ 1000000 := by omega
  have HK := Lib.hid (And.intro hck (And.intro hbel (And.intro hVk (And.intro hVc (And.intro hVcl (And.intro hm (And.intro hL hn3)))))))
  clear ho3 hg3 hready hck hbel hVk hVc hVcl hm hL hn3 HC HB2 HG HS HB HCl hcl2 hV3
  go_upto_region 4 with fail
  have hbn := Below.new w3 (.cells #[.slice p3 n3 c3] 23)
  have hck1 := HK.out.1.below hbn
  have hown : w3.ownsRow base 23 1 (V3 .cl) m ((List.range m).map fun i => V3 (.c i)) := by
    have h2 : w3.ownsRow base 23 1 (V3 .cl) ((List.range S.m).map fun i => V3 (.c i)).length ((List.range S.m).map fun i => V3 (.c i)) := HK.out.1.mem.own .cl
    rw [List.length_map, List.length_range, HK.out.2.2.2.2.2.1] at h2
    exact h2
  have hs1 := hown.alloc (.cells #[.slice p3 n3 c3] 23)
  have hr1 : RO (w3.alloc (.cells #[.slice p3 n3 c3] 23)) (.slice (some ⟨w3.heap.size, 0, none⟩) 1 1) 1 1 [.slice p3 n3 c3] := ro_one _ _
  have hsz : base ≤ (w3.alloc (.cells #[.slice p3 n3 c3] 23)).heap.size := hck1.base_le
  rw [HK.out.2.2.2.2.1] at hs1
  have HP := Lib.hid (And.intro hs1 (And.intro hr1 (And.intro hck1 (HK.out.2.1.alloc HK.out.1.base_le (.cells #[.slice p3 n3 c3] 23)))))
  clear hbn hck1 hs1 hr1 hown
  go_upto_region 5 with (at_builtin; refine wpList_appR rfl _ _ 22 rfl TLists base (.slice pc m cc) m ((List.range m).map fun i => V3 (.c i)) rfl HP.out.1 _ 1 _ rfl HP.out.2.1 (by simp [Value.oneCell']) (by omega) (by omega) hsz ?_; intro v8 w8 happ; replace happ : AppR base 23 1 (w3.alloc (.cells #[.slice p3 n3 c3] 23)) (V3 .cl) (m + 1) (((List.range S.m).map fun i => V3 (.c i)) ++ [V3 (.c S.m)]) v8 w8 := (by rw [HK.out.2.2.2.1, HK.out.2.2.2.2.2.1, HK.out.2.2.2.2.1]; exact happ); have hb8 := HP.out.2.2.1.appblk .cl happ; have hk8 := HP.out.2.2.1.appcl happ; have d8 := hb8.cell (i := 1) rfl; have f8 := hb8.frz 1; have hbl8 := (happ.below HP.out.2.2.2 hsz (fun j hj => (HP.out.2.2.1.mem.lts .cl j hj).1)).trans ((upd_set (w := w8) (b := b) (i := 1) (F := fun j => j = b) v8 rfl).toBelow (B := base) (fun j e => by have := HX.out.1.mem.hb; omega) (Nat.le_trans hsz happ.grown.size)); obtain ⟨p8, c8, ev8⟩ := ownsRow_form happ.own; subst ev8; have H8 := Lib.hid (And.intro hk8 hbl8); clear happ hb8 hk8 hbl8)
  have H9 : Hid (Ck base b (w8.setCell ⟨b, 1, none⟩ (.slice p8 (m + 1) c8)) (addC0 S L) (updV V3 .cl (.slice p8 (m + 1) c8)) ∧ Below base w (w8.setCell ⟨b, 1, none⟩ (.slice p8 (m + 1) c8))) := H8
  clear H8 d8 f8 HP c1 f1
  generalize w8.setCell ⟨b, 1, none⟩ (.slice p8 (m + 1) c8) = w9 at *
  obtain ⟨V9, hV9⟩ : ∃ Z, updV V3 .cl (.slice p8 (m + 1) c8) = Z := ⟨_, rfl⟩
  have HV9 : Hid (V9 .kept = V .kept ∧ V9 (.c S.m) = .slice p3 n3 c3) := Lib.hid (by rw [← hV9]; exact ⟨(show updV V3 .cl (.slice p8 (m + 1) c8) .kept = V3 .kept from rfl).trans HK.out.2.2.1, (show updV V3 .cl (.slice p8 (m + 1) c8) (.c S.m) = V3 (.c S.m) from rfl).trans HK.out.2.2.2.1⟩)
  rw [hV9] at H9
  clear hV9
  by_cases h2 : n3 < 2
  · have h2i : (n3 : Int) < 2 := by omega
    have h2d : decide (n3 < 2) = true := decide_eq_true h2
    have hck := H9.out.1
    have hsn : (addC0 S L).short.length = S.short.length := rfl
    obtain ⟨ps, cs, hVs⟩ := hck.form .sh
    have hsl : (Rof (addC0 S L) V9 .sh).2.length = S.short.length := ints_len _
    rw [hsl] at hVs
    obtain ⟨ns, hns⟩ : ∃ n, S.short.length = n := ⟨_, rfl⟩
    have hns6 : ns ≤ 1000000 := by rw [← hns]; exact HX.out.2.2.2.2.2.1
    rw [hns] at hVs
    have c2 := hck.cell (i := 2) rfl
    have f2 := hck.blk.frz 2
    rw [hVs] at c2
    have hown : w9.ownsRow base 3 1 (V9 .sh) (ints S.short).length (ints S.short) := hck.mem.own .sh
    rw [ints_len, hns, hVs] at hown
    have HW := Lib.hid (And.intro hown (And.intro hVs hns))
    clear hck hsn hVs hsl hns hown
    go_upto_region 6 with fail
    have hbn := Below.new w9 (.cells #[.int .i64 (m : Int)] 3)
    have hck1 := H9.out.1.below hbn
    have hs1 := HW.out.1.alloc (.cells #[.int .i64 (m : Int)] 3)
    have hr1 : RO (w9.alloc (.cells #[.int .i64 (m : Int)] 3)) (.slice (some ⟨w9.heap.size, 0, none⟩) 1 1) 1 1 [.int .i64 (m : Int)] := ro_one _ _
    have hsz : base ≤ (w9.alloc (.cells #[.int .i64 (m : Int)] 3)).heap.size := hck1.base_le
    have HP := Lib.hid (And.intro hs1 (And.intro hr1 (And.intro hck1 (H9.out.2.alloc H9.out.1.base_le (.cells #[.int .i64 (m : Int)] 3)))))
    clear hbn hck1 hs1 hr1
    go_wp2_with (at_builtin; go_must (refine wpList_appR rfl _ _ 23 rfl TInts base (.slice ps ns cs) ns (ints S.short) rfl HP.out.1 _ 1 _ rfl HP.out.2.1 (by simp [Value.oneCell']) (by omega) (by omega) hsz ?_; intro v8 w8 happ; rw [← ints_snoc, ← HW.out.2.1] at happ; have hb8 := HP.out.2.2.1.appblk .sh happ; have hk8 := HP.out.2.2.1.appsh happ; have d8 := hb8.cell (i := 2) rfl; have f8 := hb8.frz 2; have hbl8 := (happ.below HP.out.2.2.2 hsz (fun j hj => (HP.out.2.2.1.mem.lts .sh j hj).1)).trans ((upd_set (w := w8) (b := b) (i := 2) (F := fun j => j = b) v8 rfl).toBelow (B := base) (fun j e => by have := HX.out.1.mem.hb; omega) (Nat.le_trans hsz happ.grown.size)); obtain ⟨p8, c8, ev8⟩ := ownsRow_form happ.own; subst ev8; have H8 := Lib.hid (And.intro hk8 hbl8); clear happ hb8 hk8 hbl8))
    (try simp only [Exit.inBlock, Exit.then])
    refine bodyPost_ret (results_none rfl _ _ _) rfl ?_
    refine ⟨rfl, updV V9 .sh (.slice p8 (ns + 1) c8), ?_, H8.out.2, (show updV V9 .sh (.slice p8 (ns + 1) c8) .kept = V9 .kept from rfl).trans HV9.out.1⟩
    have e : addS S (clauseI l) = { addC0 S L with short := S.short ++ [(m : Int)] } := by
      rw [HK.out.2.2.2.2.2.2.1, addS_short (by rw [HK.out.2.2.2.2.2.2.2]; exact h2), HK.out.2.2.2.2.2.1]
    rw [e]
    exact H8.out.1
  · have h2d : decide (n3 < 2) = false := decide_eq_false h2
    have e0 : (addC0 S L).cl S.m = L := wS_cl S L 0
    obtain ⟨g, cap, hVa, _, _, _⟩ := H9.out.1.cc (a := S.m) (i := 0) (by rw [e0, HK.out.2.2.2.2.2.2.2]; omega)
    rw [HV9.out.2, e0, HK.out.2.2.2.2.2.2.2] at hVa
    cases hVa
    have hcap : n3 ≤ c3 := by
      obtain ⟨p', c', e, hle, _⟩ := own_form (H9.out.1.mem.own (.c S.m))
      have e1 : V9 (.c S.m) = .slice p' (Rof (addC0 S L) V9 (.c S.m)).2.length c' := e
      have e2 : (Rof (addC0 S L) V9 (.c S.m)).2.length = n3 := (ints_len _).trans (by rw [e0]; exact HK.out.2.2.2.2.2.2.2)
      rw [e2, HV9.out.2] at e1
      rw [e2] at hle
      cases e1
      exact hle
    have hc2 : (2 : Int) ≤ c3 := by omega
    have hc2n : 2 ≤ c3 := by omega
    have hn2 : (2 : Int) ≤ n3 := by omega
    have HW0 : Hid (LoopW base b w S V L (.slice (some ⟨g, 0, none⟩) n3 c3) 0 V9 w9) := Lib.hid ⟨H9.out.1, H9.out.2, HV9.out.1, HV9.out.2⟩
    clear hcap e0
    go_wp2_with fail
    go_loopw [44] (fun iv wr => ∃ (k : Nat) (V1 : Key → Value), k ≤ 2 ∧ iv = .int .i64 k ∧ LoopW base b w S V L (.slice (some ⟨g, 0, none⟩) n3 c3) k V1 wr) (fun iv _ => 2 - (intOf iv).toNat)
    case atStart => exact ⟨0, V9, by omega, rfl, HW0.out⟩
    case round =>
      clear HW0 H9 HV9
      obtain ⟨k, V1, hk2, rfl, hL⟩ := hrel
      have HL := Lib.hid hL
      by_cases hlt : k < 2
      · have hkL : k < L.length := by rw [HK.out.2.2.2.2.2.2.2]; omega
        have hcx := hL.ck.cx (a := S.m) (i := k) (by rw [wS_cl]; exact hkL) hL.cv
        rw [wS_cl] at hcx
        obtain ⟨y, hy⟩ : ∃ y, L.getD k 0 = y := ⟨_, rfl⟩
        rw [hy] at hcx
        have hyl : y ∈ l := by rw [← clauseI_mem, HK.out.2.2.2.2.2.2.1, ← hy]; exact getD_mem hkL
        have hyv := HX.out.2.1 y hyl
        have hv0 := HX.out.2.2.2.1
        have hsl : slotN y < 2 * S.v + 3 := slotN_lt (by omega)
        have HSl := Lib.hid (fun W => rslot_any y (by omega) W)
        obtain ⟨s, hs⟩ : ∃ s, slotN y = s := ⟨_, rfl⟩
        rw [hs] at hsl HSl
        have HY := Lib.hid (And.intro hy (And.intro hs hsl))
        have hki : (k : Int) < 2 := by omega
        have hk0 : (0 : Int) ≤ k := by omega
        have hkd : decide (k < 2) = true := decide_eq_true hlt
        have hkw : IntKind.i64.wrap ((k : Int) + 1) = (k : Int) + 1 := i64_of (by omega)
        clear hL hkL hy hyl hyv hv0 hsl hs
        go_upto_region 10 with fail
        have hk9 := HL.out.ck.drew
        have hb9 := HL.out.bel.drew
        generalize hWd : wr.drew = Wd at *
        obtain ⟨gw, cw, hVw, hcw, _, hgw1, hgwb⟩ := hk9.wtc (s := s) (by rw [wS_v]; exact HY.out.2.2)
        rw [wS_v] at hVw
        obtain ⟨NW, hNW⟩ : ∃ n, 2 * S.v + 3 = n := ⟨_, rfl⟩
        rw [hNW] at hVw
        obtain ⟨pw, cpw, hVs⟩ := hk9.form (.w s)
        obtain ⟨wl, hwl⟩ : ∃ q, (wS S L k).wt s = q := ⟨_, rfl⟩
        have hnl : (Rof (wS S L k) V1 (.w s)).2.length = wl.length := (ints_len _).trans (by rw [hwl])
        rw [hnl] at hVs
        obtain ⟨nw, hnw⟩ : ∃ n, wl.length = n := ⟨_, rfl⟩
        have hnw6 : nw ≤ 1000001 := by have h1 := wS_wt S L hlt s; have h2 := HX.out.2.2.2.2.2.2 s; rw [hwl, hnw] at h1; omega
        rw [hnw] at hVs
        have hsNW : (s : Int) < (NW : Int) := by have := HY.out.2.2; omega
        have hs0 : (0 : Int) ≤ s := by omega
        have hfw : ∀ W, Ck base b W (wS S L k) V1 → W.cell? ⟨b, 3, none⟩ = some (.slice (some ⟨gw, 0, none⟩) NW cw) ∧ W.cell? ⟨gw, s, none⟩ = some (.slice pw nw cpw) := fun W h => by
          have h3 := h.cell (i := 3) rfl
          rw [hVw] at h3
          refine ⟨h3, ?_⟩
          obtain ⟨gw2, cw2, hVw2, hcw2, _⟩ := h.wtc (s := s) (by rw [wS_v]; exact HY.out.2.2)
          have e2 := hVw2.symm.trans hVw
          cases e2
          rw [hVs] at hcw2
          exact hcw2
        have HF := Lib.hid hfw
        have HK9 := Lib.hid (And.intro hk9 hb9)
        have HW := Lib.hid (And.intro hVw (And.intro hVs (And.intro hwl (And.intro hnw (And.intro hNW hgwb)))))
        clear hfw hk9 hb9 hVw hVs hwl hnw hNW hcw hnl hcx
        refine wp_region_held_drew (S := (fun W => W.cell? ⟨b, 3, none⟩ = some (.slice (some ⟨gw, 0, none⟩) NW cw))) (by kernel_rfl) ?_ (fun hHeld => ?_)
        · rw [hWd]; exact (HF.out _ HK9.out.1).1
        rw [hWd] at hHeld ⊢
        clear hWd
        refine held_take (i := 0) (v := .pointer (some ⟨b, 0, none⟩)) rfl (by kernel_rfl) (by kernel_rfl) (by kernel_rfl) (fun _ _ _ h => h) (Or.inl ⟨by rfl, ?_⟩) hHeld ?_
        · intro w hSw; go_simp; (try with_reducible rfl)
        (try simp only [Act.put, List.setIfInBounds_toArray, List.set_cons_zero, List.set_cons_succ])
        refine held_take (i := 1) (v := .pointer (some ⟨b, 0, none⟩)) rfl (by kernel_rfl) (by kernel_rfl) (by kernel_rfl) (fun _ _ _ h => h) (Or.inl ⟨by rfl, ?_⟩) hHeld ?_
        · intro w hSw; go_simp; (try with_reducible rfl)
        (try simp only [Act.put, List.setIfInBounds_toArray, List.set_cons_zero, List.set_cons_succ])
        refine held_take (i := 2) (v := .pointer (some ⟨b, 3, none⟩)) rfl (by kernel_rfl) (by kernel_rfl) (by kernel_rfl) (fun _ _ _ h => h) (Or.inl ⟨by rfl, ?_⟩) hHeld ?_
        · intro w hSw; go_simp; (try with_reducible rfl)
        (try simp only [Act.put, List.setIfInBounds_toArray, List.set_cons_zero, List.set_cons_succ])
        refine held_take (i := 3) (v := .slice (some ⟨gw, 0, none⟩) NW cw) rfl (by kernel_rfl) (by kernel_rfl) (by kernel_rfl) (fun _ _ _ h => h) (Or.inl ⟨by rfl, ?_⟩) hHeld ?_
        · intro w hSw; go_simp; (try with_reducible rfl)
        (try simp only [Act.put, List.setIfInBounds_toArray, List.set_cons_zero, List.set_cons_succ])
        refine held_take (i := 4) (v := .int .i64 y) rfl (by kernel_rfl) (by kernel_rfl) (by kernel_rfl) (fun _ _ _ h => h) (Or.inl ⟨by rfl, ?_⟩) hHeld ?_
        · intro w hSw; go_simp; (try with_reducible rfl)
        (try simp only [Act.put, List.setIfInBounds_toArray, List.set_cons_zero, List.set_cons_succ])
        refine held_take (i := 6) (v := .pointer (some ⟨b, 0, none⟩)) rfl (by kernel_rfl) (by kernel_rfl) (by kernel_rfl) (fun _ _ _ h => h) (Or.inl ⟨by rfl, ?_⟩) hHeld ?_
        · intro w hSw; go_simp; (try with_reducible rfl)
        (try simp only [Act.put, List.setIfInBounds_toArray, List.set_cons_zero, List.set_cons_succ])
        refine held_take (i := 7) (v := .pointer (some ⟨b, 0, none⟩)) rfl (by kernel_rfl) (by kernel_rfl) (by kernel_rfl) (fun _ _ _ h => h) (Or.inl ⟨by rfl, ?_⟩) hHeld ?_
        · intro w hSw; go_simp; (try with_reducible rfl)
        (try simp only [Act.put, List.setIfInBounds_toArray, List.set_cons_zero, List.set_cons_succ])
        refine held_take (i := 8) (v := .pointer (some ⟨b, 3, none⟩)) rfl (by kernel_rfl) (by kernel_rfl) (by kernel_rfl) (fun _ _ _ h => h) (Or.inl ⟨by rfl, ?_⟩) hHeld ?_
        · intro w hSw; go_simp; (try with_reducible rfl)
        (try simp only [Act.put, List.setIfInBounds_toArray, List.set_cons_zero, List.set_cons_succ])
        refine held_take (i := 9) (v := .slice (some ⟨gw, 0, none⟩) NW cw) rfl (by kernel_rfl) (by kernel_rfl) (by kernel_rfl) (fun _ _ _ h => h) (Or.inl ⟨by rfl, ?_⟩) hHeld ?_
        · intro w hSw; go_simp; (try with_reducible rfl)
        (try simp only [Act.put, List.setIfInBounds_toArray, List.set_cons_zero, List.set_cons_succ])
        refine held_take (i := 10) (v := .int .i64 y) rfl (by kernel_rfl) (by kernel_rfl) (by kernel_rfl) (fun _ _ _ h => h) (Or.inl ⟨by rfl, ?_⟩) hHeld ?_
        · intro w hSw; go_simp; (try with_reducible rfl)
        (try simp only [Act.put, List.setIfInBounds_toArray, List.set_cons_zero, List.set_cons_succ])
        refine held_take (i := 14) (v := .int .i64 m) rfl (by kernel_rfl) (by kernel_rfl) (by kernel_rfl) (fun _ _ _ h => h) (Or.inl ⟨by rfl, ?_⟩) hHeld ?_
        · intro w hSw; go_simp; (try with_reducible rfl)
        (try simp only [Act.put, List.setIfInBounds_toArray, List.set_cons_zero, List.set_cons_succ])
        refine wpAnyH_ready (rs := [5, 15]) (by kernel_rfl) (by simp) ?_
        refine (held_cons rfl (fun K hK => ?_) (held_cons rfl (fun K hK => ?_) AllReadyH.nil))
        · go_simp
          refine (HSl.out _).mono ?_; rintro e w2 ⟨rfl, hw2⟩
          subst hw2
          (try go_simp)
          refine hK.out _ _ hHeld (fun _ => ?_)
          clear hK K
          (try simp only [Act.put, List.setIfInBounds_toArray, List.set_cons_zero, List.set_cons_succ])
          refine wpAnyH_ready (rs := [11, 15]) (by kernel_rfl) (by simp) ?_
          refine (held_cons rfl (fun K hK => ?_) (held_cons rfl (fun K hK => ?_) AllReadyH.nil))
          · go_simp
            refine (HSl.out _).mono ?_; rintro e w2 ⟨rfl, hw2⟩
            subst hw2
            (try go_simp)
            refine hK.out _ _ hHeld (fun _ => ?_)
            clear hK K
            (try simp only [Act.put, List.setIfInBounds_toArray, List.set_cons_zero, List.set_cons_succ])
            refine held_take (i := 12) (v := .pointer (some ⟨gw, s, none⟩)) rfl (by kernel_rfl) (by kernel_rfl) (by kernel_rfl) (fun _ _ _ h => h) (Or.inl ⟨by rfl, ?_⟩) hHeld ?_
            · intro w hSw; go_simp; (try with_reducible rfl)
            (try simp only [Act.put, List.setIfInBounds_toArray, List.set_cons_zero, List.set_cons_succ])
            refine wpAnyH_ready (rs := [13, 15]) (by kernel_rfl) (by simp) ?_
            refine (held_cons rfl (fun K hK => ?_) (held_cons rfl (fun K hK => ?_) AllReadyH.nil))
            · go_simp
              have hgs := (HF.out _ HK9.out.1).2
              go_simp
              refine hK.out _ _ hHeld (fun _ => ?_)
              clear hgs
              clear hK K
              (try simp only [Act.put, List.setIfInBounds_toArray, List.set_cons_zero, List.set_cons_succ])
              refine wpAnyH_ready (rs := [15]) (by kernel_rfl) (by simp) ?_
              refine (held_cons rfl (fun K hK => ?_) AllReadyH.nil)
              · go_simp
                have hbnA := Below.new Wd (.cells #[.int .i64 m] 3)
                have hboxA := Blk.new (w := Wd) 3 [.int .i64 m]
                have HK9a := Lib.hid (And.intro (HK9.out.1.below hbnA) (And.intro (HK9.out.2.trans (hbnA.mono HK9.out.1.base_le)) hboxA))
                have hHeldA : (fun W => W.cell? ⟨b, 3, none⟩ = some (.slice (some ⟨gw, 0, none⟩) NW cw)) (Wd.alloc (.cells #[.int .i64 m] 3)) := (HF.out _ HK9a.out.1).1
                refine hK.out _ _ hHeldA (fun _ => ?_)
                clear hbnA hboxA hHeld
                have hHeld := hHeldA
                clear hHeldA
                clear hK K
                (try simp only [Act.put, List.setIfInBounds_toArray, List.set_cons_zero, List.set_cons_succ])
                generalize hWa : Wd.alloc (.cells #[.int .i64 m] 3) = Wa at *
                have hbox := HK9a.out.2.2
                have hown2 : Wa.ownsRow base 3 1 (.slice pw nw cpw) nw (ints wl) := by
                  have h2 : Wa.ownsRow base 3 1 (V1 (.w s)) (ints ((wS S L k).wt s)).length (ints ((wS S L k).wt s)) := HK9a.out.1.mem.own (.w s)
                  rw [HW.out.2.1, HW.out.2.2.1, ints_len, HW.out.2.2.2.1] at h2; exact h2
                refine wpAnyH_ready (rs := [16]) (by kernel_rfl) (by simp) ?_
                refine held_cons rfl (fun K hK => step_app rfl _ _ 23 rfl TInts base (.slice pw nw cpw) nw _ rfl hown2 Wd.heap.size 1 1 [.int .i64 m] rfl _ hbox rfl rfl (by simp [Value.oneCell']) Nat.one_pos (by omega) (by omega) HK9a.out.1.base_le ?_) AllReadyH.nil
                intro g3 cap3 w3 happ
                rw [← HW.out.2.1, show ints wl ++ [.int .i64 m] = ints (wl ++ [(m : Int)]) by simp [ints]] at happ
                obtain ⟨gw2, cw2, hVw2, hcs3, hfs3, hgwb2, hck3⟩ := HK9a.out.1.appw (s := s) (by rw [wS_v]; exact HY.out.2.2) happ
                rw [wS_v, HW.out.2.2.2.2.1] at hVw2
                have e2 := hVw2.symm.trans HW.out.1
                cases e2
                have hb3 := ((happ.below HK9a.out.2.1 HK9a.out.1.base_le (fun j hj => (HK9a.out.1.mem.lts (.w s) j hj).1)))
                have hb4 := hb3.trans ((upd_set (w := w3) (b := gw) (i := s) (F := fun j => j = gw) (.slice (some ⟨g3, 0, none⟩) (nw + 1) cap3) rfl).toBelow (B := base) (fun j e => by omega) (Nat.le_trans HK9a.out.1.base_le happ.grown.size))
                have hHeld3 : (fun W => W.cell? ⟨b, 3, none⟩ = some (.slice (some ⟨gw, 0, none⟩) NW cw)) w3 := by
                  have hne : ∀ j, j < Wa.heap.size → (V1 (.w s)).ownBlock ≠ some j → w3.heap[j]? = Wa.heap[j]? := fun j h1 h2 => happ.grown.block j h1 (Ne.symm h2)
                  exact (World.cell?_of_block (a := ⟨b, 3, none⟩) (hne b HK9a.out.1.mem.lt (HK9a.out.1.mem.nb (.w s)))).trans hHeld
                refine hK.out _ _ hHeld3 (fun _ => ?_)
                clear hK K hHeld
                have hHeld := hHeld3
                clear hHeld3
                (try simp only [Act.put, List.setIfInBounds_toArray, List.set_cons_zero, List.set_cons_succ])
                refine held_take (i := 17) (v := .pointer (some ⟨gw, s, none⟩)) rfl (by kernel_rfl) (by kernel_rfl) (by kernel_rfl) (fun _ _ _ h => h) (Or.inl ⟨by rfl, ?_⟩) hHeld ?_
                · intro w hSw; go_simp; (try with_reducible rfl)
                (try simp only [Act.put, List.setIfInBounds_toArray, List.set_cons_zero, List.set_cons_succ])
                refine wpAnyH_ready (rs := [18]) (by kernel_rfl) (by simp) ?_
                refine held_cons rfl (fun K hK => ?_) AllReadyH.nil
                go_simp
                refine hK.out _ _ ?_ (fun _ => ?_)
                · have hgb : gw ≠ b := HW.out.2.2.2.2.2
                  exact (World.cell?_setCell_other _ _ _ _ (by simp [])).trans hHeld
                clear hK K
                (try simp only [Act.put, List.setIfInBounds_toArray, List.set_cons_zero, List.set_cons_succ])
                refine wpAnyH_done (by kernel_rfl) ?_ _
                have HEnd := Lib.hid (And.intro hck3 hb4)
                clear hck3 hb4 hcs3 hfs3 hb3 happ hown2 hbox hHeld
                go_wp2_with fail
                go_roundw
                case rel =>
                  refine ⟨k + 1, _, by omega, by go_num, ?_, HEnd.out.2, (show updV V1 (.w s) (.slice (some ⟨g3, 0, none⟩) (nw + 1) cap3) .kept = V1 .kept from rfl).trans HL.out.keep, (show updV V1 (.w s) (.slice (some ⟨g3, 0, none⟩) (nw + 1) cap3) (.c S.m) = V1 (.c S.m) from rfl).trans HL.out.cv⟩
                  have e : wS S L (k + 1) = setwt (wS S L k) s (wl ++ [(m : Int)]) := by
                    rw [wS_succ S L hlt, HY.out.1, HK.out.2.2.2.2.2.1]; unfold watchS; rw [HY.out.2.1, HW.out.2.2.1]
                  rw [e]
                  exact HEnd.out.1
                case measure => simp [intOf]; omega
            · go_simp
              have hbnA := Below.new Wd (.cells #[.int .i64 m] 3)
              have hboxA := Blk.new (w := Wd) 3 [.int .i64 m]
              have HK9a := Lib.hid (And.intro (HK9.out.1.below hbnA) (And.intro (HK9.out.2.trans (hbnA.mono HK9.out.1.base_le)) hboxA))
              have hHeldA : (fun W => W.cell? ⟨b, 3, none⟩ = some (.slice (some ⟨gw, 0, none⟩) NW cw)) (Wd.alloc (.cells #[.int .i64 m] 3)) := (HF.out _ HK9a.out.1).1
              refine hK.out _ _ hHeldA (fun _ => ?_)
              clear hbnA hboxA hHeld
              have hHeld := hHeldA
              clear hHeldA
              clear hK K
              (try simp only [Act.put, List.setIfInBounds_toArray, List.set_cons_zero, List.set_cons_succ])
              refine wpAnyH_ready (rs := [13]) (by kernel_rfl) (by simp) ?_
              refine (held_cons rfl (fun K hK => ?_) AllReadyH.nil)
              · go_simp
                have hgs := (HF.out _ HK9a.out.1).2
                go_simp
                refine hK.out _ _ hHeld (fun _ => ?_)
                clear hgs
                clear hK K
                (try simp only [Act.put, List.setIfInBounds_toArray, List.set_cons_zero, List.set_cons_succ])
                generalize hWa : Wd.alloc (.cells #[.int .i64 m] 3) = Wa at *
                have hbox := HK9a.out.2.2
                have hown2 : Wa.ownsRow base 3 1 (.slice pw nw cpw) nw (ints wl) := by
                  have h2 : Wa.ownsRow base 3 1 (V1 (.w s)) (ints ((wS S L k).wt s)).length (ints ((wS S L k).wt s)) := HK9a.out.1.mem.own (.w s)
                  rw [HW.out.2.1, HW.out.2.2.1, ints_len, HW.out.2.2.2.1] at h2; exact h2
                refine wpAnyH_ready (rs := [16]) (by kernel_rfl) (by simp) ?_
                refine held_cons rfl (fun K hK => step_app rfl _ _ 23 rfl TInts base (.slice pw nw cpw) nw _ rfl hown2 Wd.heap.size 1 1 [.int .i64 m] rfl _ hbox rfl rfl (by simp [Value.oneCell']) Nat.one_pos (by omega) (by omega) HK9a.out.1.base_le ?_) AllReadyH.nil
                intro g3 cap3 w3 happ
                rw [← HW.out.2.1, show ints wl ++ [.int .i64 m] = ints (wl ++ [(m : Int)]) by simp [ints]] at happ
                obtain ⟨gw2, cw2, hVw2, hcs3, hfs3, hgwb2, hck3⟩ := HK9a.out.1.appw (s := s) (by rw [wS_v]; exact HY.out.2.2) happ
                rw [wS_v, HW.out.2.2.2.2.1] at hVw2
                have e2 := hVw2.symm.trans HW.out.1
                cases e2
                have hb3 := ((happ.below HK9a.out.2.1 HK9a.out.1.base_le (fun j hj => (HK9a.out.1.mem.lts (.w s) j hj).1)))
                have hb4 := hb3.trans ((upd_set (w := w3) (b := gw) (i := s) (F := fun j => j = gw) (.slice (some ⟨g3, 0, none⟩) (nw + 1) cap3) rfl).toBelow (B := base) (fun j e => by omega) (Nat.le_trans HK9a.out.1.base_le happ.grown.size))
                have hHeld3 : (fun W => W.cell? ⟨b, 3, none⟩ = some (.slice (some ⟨gw, 0, none⟩) NW cw)) w3 := by
                  have hne : ∀ j, j < Wa.heap.size → (V1 (.w s)).ownBlock ≠ some j → w3.heap[j]? = Wa.heap[j]? := fun j h1 h2 => happ.grown.block j h1 (Ne.symm h2)
                  exact (World.cell?_of_block (a := ⟨b, 3, none⟩) (hne b HK9a.out.1.mem.lt (HK9a.out.1.mem.nb (.w s)))).trans hHeld
                refine hK.out _ _ hHeld3 (fun _ => ?_)
                clear hK K hHeld
                have hHeld := hHeld3
                clear hHeld3
                (try simp only [Act.put, List.setIfInBounds_toArray, List.set_cons_zero, List.set_cons_succ])
                refine held_take (i := 17) (v := .pointer (some ⟨gw, s, none⟩)) rfl (by kernel_rfl) (by kernel_rfl) (by kernel_rfl) (fun _ _ _ h => h) (Or.inl ⟨by rfl, ?_⟩) hHeld ?_
                · intro w hSw; go_simp; (try with_reducible rfl)
                (try simp only [Act.put, List.setIfInBounds_toArray, List.set_cons_zero, List.set_cons_succ])
                refine wpAnyH_ready (rs := [18]) (by kernel_rfl) (by simp) ?_
                refine held_cons rfl (fun K hK => ?_) AllReadyH.nil
                go_simp
                refine hK.out _ _ ?_ (fun _ => ?_)
                · have hgb : gw ≠ b := HW.out.2.2.2.2.2
                  exact (World.cell?_setCell_other _ _ _ _ (by simp [])).trans hHeld
                clear hK K
                (try simp only [Act.put, List.setIfInBounds_toArray, List.set_cons_zero, List.set_cons_succ])
                refine wpAnyH_done (by kernel_rfl) ?_ _
                have HEnd := Lib.hid (And.intro hck3 hb4)
                clear hck3 hb4 hcs3 hfs3 hb3 happ hown2 hbox hHeld
                go_wp2_with fail
                go_roundw
                case rel =>
                  refine ⟨k + 1, _, by omega, by go_num, ?_, HEnd.out.2, (show updV V1 (.w s) (.slice (some ⟨g3, 0, none⟩) (nw + 1) cap3) .kept = V1 .kept from rfl).trans HL.out.keep, (show updV V1 (.w s) (.slice (some ⟨g3, 0, none⟩) (nw + 1) cap3) (.c S.m) = V1 (.c S.m) from rfl).trans HL.out.cv⟩
                  have e : wS S L (k + 1) = setwt (wS S L k) s (wl ++ [(m : Int)]) := by
                    rw [wS_succ S L hlt, HY.out.1, HK.out.2.2.2.2.2.1]; unfold watchS; rw [HY.out.2.1, HW.out.2.2.1]
                  rw [e]
                  exact HEnd.out.1
                case measure => simp [intOf]; omega
          · go_simp
            have hbnA := Below.new Wd (.cells #[.int .i64 m] 3)
            have hboxA := Blk.new (w := Wd) 3 [.int .i64 m]
            have HK9a := Lib.hid (And.intro (HK9.out.1.below hbnA) (And.intro (HK9.out.2.trans (hbnA.mono HK9.out.1.base_le)) hboxA))
            have hHeldA : (fun W => W.cell? ⟨b, 3, none⟩ = some (.slice (some ⟨gw, 0, none⟩) NW cw)) (Wd.alloc (.cells #[.int .i64 m] 3)) := (HF.out _ HK9a.out.1).1
            refine hK.out _ _ hHeldA (fun _ => ?_)
            clear hbnA hboxA hHeld
            have hHeld := hHeldA
            clear hHeldA
            clear hK K
            (try simp only [Act.put, List.setIfInBounds_toArray, List.set_cons_zero, List.set_cons_succ])
            refine wpAnyH_ready (rs := [11]) (by kernel_rfl) (by simp) ?_
            refine (held_cons rfl (fun K hK => ?_) AllReadyH.nil)
            · go_simp
              refine (HSl.out _).mono ?_; rintro e w2 ⟨rfl, hw2⟩
              subst hw2
              (try go_simp)
              refine hK.out _ _ hHeld (fun _ => ?_)
              clear hK K
              (try simp only [Act.put, List.setIfInBounds_toArray, List.set_cons_zero, List.set_cons_succ])
              refine held_take (i := 12) (v := .pointer (some ⟨gw, s, none⟩)) rfl (by kernel_rfl) (by kernel_rfl) (by kernel_rfl) (fun _ _ _ h => h) (Or.inl ⟨by rfl, ?_⟩) hHeld ?_
              · intro w hSw; go_simp; (try with_reducible rfl)
              (try simp only [Act.put, List.setIfInBounds_toArray, List.set_cons_zero, List.set_cons_succ])
              refine wpAnyH_ready (rs := [13]) (by kernel_rfl) (by simp) ?_
              refine (held_cons rfl (fun K hK => ?_) AllReadyH.nil)
              · go_simp
                have hgs := (HF.out _ HK9a.out.1).2
                go_simp
                refine hK.out _ _ hHeld (fun _ => ?_)
                clear hgs
                clear hK K
                (try simp only [Act.put, List.setIfInBounds_toArray, List.set_cons_zero, List.set_cons_succ])
                generalize hWa : Wd.alloc (.cells #[.int .i64 m] 3) = Wa at *
                have hbox := HK9a.out.2.2
                have hown2 : Wa.ownsRow base 3 1 (.slice pw nw cpw) nw (ints wl) := by
                  have h2 : Wa.ownsRow base 3 1 (V1 (.w s)) (ints ((wS S L k).wt s)).length (ints ((wS S L k).wt s)) := HK9a.out.1.mem.own (.w s)
                  rw [HW.out.2.1, HW.out.2.2.1, ints_len, HW.out.2.2.2.1] at h2; exact h2
                refine wpAnyH_ready (rs := [16]) (by kernel_rfl) (by simp) ?_
                refine held_cons rfl (fun K hK => step_app rfl _ _ 23 rfl TInts base (.slice pw nw cpw) nw _ rfl hown2 Wd.heap.size 1 1 [.int .i64 m] rfl _ hbox rfl rfl (by simp [Value.oneCell']) Nat.one_pos (by omega) (by omega) HK9a.out.1.base_le ?_) AllReadyH.nil
                intro g3 cap3 w3 happ
                rw [← HW.out.2.1, show ints wl ++ [.int .i64 m] = ints (wl ++ [(m : Int)]) by simp [ints]] at happ
                obtain ⟨gw2, cw2, hVw2, hcs3, hfs3, hgwb2, hck3⟩ := HK9a.out.1.appw (s := s) (by rw [wS_v]; exact HY.out.2.2) happ
                rw [wS_v, HW.out.2.2.2.2.1] at hVw2
                have e2 := hVw2.symm.trans HW.out.1
                cases e2
                have hb3 := ((happ.below HK9a.out.2.1 HK9a.out.1.base_le (fun j hj => (HK9a.out.1.mem.lts (.w s) j hj).1)))
                have hb4 := hb3.trans ((upd_set (w := w3) (b := gw) (i := s) (F := fun j => j = gw) (.slice (some ⟨g3, 0, none⟩) (nw + 1) cap3) rfl).toBelow (B := base) (fun j e => by omega) (Nat.le_trans HK9a.out.1.base_le happ.grown.size))
                have hHeld3 : (fun W => W.cell? ⟨b, 3, none⟩ = some (.slice (some ⟨gw, 0, none⟩) NW cw)) w3 := by
                  have hne : ∀ j, j < Wa.heap.size → (V1 (.w s)).ownBlock ≠ some j → w3.heap[j]? = Wa.heap[j]? := fun j h1 h2 => happ.grown.block j h1 (Ne.symm h2)
                  exact (World.cell?_of_block (a := ⟨b, 3, none⟩) (hne b HK9a.out.1.mem.lt (HK9a.out.1.mem.nb (.w s)))).trans hHeld
                refine hK.out _ _ hHeld3 (fun _ => ?_)
                clear hK K hHeld
                have hHeld := hHeld3
                clear hHeld3
                (try simp only [Act.put, List.setIfInBounds_toArray, List.set_cons_zero, List.set_cons_succ])
                refine held_take (i := 17) (v := .pointer (some ⟨gw, s, none⟩)) rfl (by kernel_rfl) (by kernel_rfl) (by kernel_rfl) (fun _ _ _ h => h) (Or.inl ⟨by rfl, ?_⟩) hHeld ?_
                · intro w hSw; go_simp; (try with_reducible rfl)
                (try simp only [Act.put, List.setIfInBounds_toArray, List.set_cons_zero, List.set_cons_succ])
                refine wpAnyH_ready (rs := [18]) (by kernel_rfl) (by simp) ?_
                refine held_cons rfl (fun K hK => ?_) AllReadyH.nil
                go_simp
                refine hK.out _ _ ?_ (fun _ => ?_)
                · have hgb : gw ≠ b := HW.out.2.2.2.2.2
                  exact (World.cell?_setCell_other _ _ _ _ (by simp [])).trans hHeld
                clear hK K
                (try simp only [Act.put, List.setIfInBounds_toArray, List.set_cons_zero, List.set_cons_succ])
                refine wpAnyH_done (by kernel_rfl) ?_ _
                have HEnd := Lib.hid (And.intro hck3 hb4)
                clear hck3 hb4 hcs3 hfs3 hb3 happ hown2 hbox hHeld
                go_wp2_with fail
                go_roundw
                case rel =>
                  refine ⟨k + 1, _, by omega, by go_num, ?_, HEnd.out.2, (show updV V1 (.w s) (.slice (some ⟨g3, 0, none⟩) (nw + 1) cap3) .kept = V1 .kept from rfl).trans HL.out.keep, (show updV V1 (.w s) (.slice (some ⟨g3, 0, none⟩) (nw + 1) cap3) (.c S.m) = V1 (.c S.m) from rfl).trans HL.out.cv⟩
                  have e : wS S L (k + 1) = setwt (wS S L k) s (wl ++ [(m : Int)]) := by
                    rw [wS_succ S L hlt, HY.out.1, HK.out.2.2.2.2.2.1]; unfold watchS; rw [HY.out.2.1, HW.out.2.2.1]
                  rw [e]
                  exact HEnd.out.1
                case measure => simp [intOf]; omega
        · go_simp
          have hbnA := Below.new Wd (.cells #[.int .i64 m] 3)
          have hboxA := Blk.new (w := Wd) 3 [.int .i64 m]
          have HK9a := Lib.hid (And.intro (HK9.out.1.below hbnA) (And.intro (HK9.out.2.trans (hbnA.mono HK9.out.1.base_le)) hboxA))
          have hHeldA : (fun W => W.cell? ⟨b, 3, none⟩ = some (.slice (some ⟨gw, 0, none⟩) NW cw)) (Wd.alloc (.cells #[.int .i64 m] 3)) := (HF.out _ HK9a.out.1).1
          refine hK.out _ _ hHeldA (fun _ => ?_)
          clear hbnA hboxA hHeld
          have hHeld := hHeldA
          clear hHeldA
          clear hK K
          (try simp only [Act.put, List.setIfInBounds_toArray, List.set_cons_zero, List.set_cons_succ])
          refine wpAnyH_ready (rs := [5]) (by kernel_rfl) (by simp) ?_
          refine (held_cons rfl (fun K hK => ?_) AllReadyH.nil)
          · go_simp
            refine (HSl.out _).mono ?_; rintro e w2 ⟨rfl, hw2⟩
            subst hw2
            (try go_simp)
            refine hK.out _ _ hHeld (fun _ => ?_)
            clear hK K
            (try simp only [Act.put, List.setIfInBounds_toArray, List.set_cons_zero, List.set_cons_succ])
            refine wpAnyH_ready (rs := [11]) (by kernel_rfl) (by simp) ?_
            refine (held_cons rfl (fun K hK => ?_) AllReadyH.nil)
            · go_simp
              refine (HSl.out _).mono ?_; rintro e w2 ⟨rfl, hw2⟩
              subst hw2
              (try go_simp)
              refine hK.out _ _ hHeld (fun _ => ?_)
              clear hK K
              (try simp only [Act.put, List.setIfInBounds_toArray, List.set_cons_zero, List.set_cons_succ])
              refine held_take (i := 12) (v := .pointer (some ⟨gw, s, none⟩)) rfl (by kernel_rfl) (by kernel_rfl) (by kernel_rfl) (fun _ _ _ h => h) (Or.inl ⟨by rfl, ?_⟩) hHeld ?_
              · intro w hSw; go_simp; (try with_reducible rfl)
              (try simp only [Act.put, List.setIfInBounds_toArray, List.set_cons_zero, List.set_cons_succ])
              refine wpAnyH_ready (rs := [13]) (by kernel_rfl) (by simp) ?_
              refine (held_cons rfl (fun K hK => ?_) AllReadyH.nil)
              · go_simp
                have hgs := (HF.out _ HK9a.out.1).2
                go_simp
                refine hK.out _ _ hHeld (fun _ => ?_)
                clear hgs
                clear hK K
                (try simp only [Act.put, List.setIfInBounds_toArray, List.set_cons_zero, List.set_cons_succ])
                generalize hWa : Wd.alloc (.cells #[.int .i64 m] 3) = Wa at *
                have hbox := HK9a.out.2.2
                have hown2 : Wa.ownsRow base 3 1 (.slice pw nw cpw) nw (ints wl) := by
                  have h2 : Wa.ownsRow base 3 1 (V1 (.w s)) (ints ((wS S L k).wt s)).length (ints ((wS S L k).wt s)) := HK9a.out.1.mem.own (.w s)
                  rw [HW.out.2.1, HW.out.2.2.1, ints_len, HW.out.2.2.2.1] at h2; exact h2
                refine wpAnyH_ready (rs := [16]) (by kernel_rfl) (by simp) ?_
                refine held_cons rfl (fun K hK => step_app rfl _ _ 23 rfl TInts base (.slice pw nw cpw) nw _ rfl hown2 Wd.heap.size 1 1 [.int .i64 m] rfl _ hbox rfl rfl (by simp [Value.oneCell']) Nat.one_pos (by omega) (by omega) HK9a.out.1.base_le ?_) AllReadyH.nil
                intro g3 cap3 w3 happ
                rw [← HW.out.2.1, show ints wl ++ [.int .i64 m] = ints (wl ++ [(m : Int)]) by simp [ints]] at happ
                obtain ⟨gw2, cw2, hVw2, hcs3, hfs3, hgwb2, hck3⟩ := HK9a.out.1.appw (s := s) (by rw [wS_v]; exact HY.out.2.2) happ
                rw [wS_v, HW.out.2.2.2.2.1] at hVw2
                have e2 := hVw2.symm.trans HW.out.1
                cases e2
                have hb3 := ((happ.below HK9a.out.2.1 HK9a.out.1.base_le (fun j hj => (HK9a.out.1.mem.lts (.w s) j hj).1)))
                have hb4 := hb3.trans ((upd_set (w := w3) (b := gw) (i := s) (F := fun j => j = gw) (.slice (some ⟨g3, 0, none⟩) (nw + 1) cap3) rfl).toBelow (B := base) (fun j e => by omega) (Nat.le_trans HK9a.out.1.base_le happ.grown.size))
                have hHeld3 : (fun W => W.cell? ⟨b, 3, none⟩ = some (.slice (some ⟨gw, 0, none⟩) NW cw)) w3 := by
                  have hne : ∀ j, j < Wa.heap.size → (V1 (.w s)).ownBlock ≠ some j → w3.heap[j]? = Wa.heap[j]? := fun j h1 h2 => happ.grown.block j h1 (Ne.symm h2)
                  exact (World.cell?_of_block (a := ⟨b, 3, none⟩) (hne b HK9a.out.1.mem.lt (HK9a.out.1.mem.nb (.w s)))).trans hHeld
                refine hK.out _ _ hHeld3 (fun _ => ?_)
                clear hK K hHeld
                have hHeld := hHeld3
                clear hHeld3
                (try simp only [Act.put, List.setIfInBounds_toArray, List.set_cons_zero, List.set_cons_succ])
                refine held_take (i := 17) (v := .pointer (some ⟨gw, s, none⟩)) rfl (by kernel_rfl) (by kernel_rfl) (by kernel_rfl) (fun _ _ _ h => h) (Or.inl ⟨by rfl, ?_⟩) hHeld ?_
                · intro w hSw; go_simp; (try with_reducible rfl)
                (try simp only [Act.put, List.setIfInBounds_toArray, List.set_cons_zero, List.set_cons_succ])
                refine wpAnyH_ready (rs := [18]) (by kernel_rfl) (by simp) ?_
                refine held_cons rfl (fun K hK => ?_) AllReadyH.nil
                go_simp
                refine hK.out _ _ ?_ (fun _ => ?_)
                · have hgb : gw ≠ b := HW.out.2.2.2.2.2
                  exact (World.cell?_setCell_other _ _ _ _ (by simp [])).trans hHeld
                clear hK K
                (try simp only [Act.put, List.setIfInBounds_toArray, List.set_cons_zero, List.set_cons_succ])
                refine wpAnyH_done (by kernel_rfl) ?_ _
                have HEnd := Lib.hid (And.intro hck3 hb4)
                clear hck3 hb4 hcs3 hfs3 hb3 happ hown2 hbox hHeld
                go_wp2_with fail
                go_roundw
                case rel =>
                  refine ⟨k + 1, _, by omega, by go_num, ?_, HEnd.out.2, (show updV V1 (.w s) (.slice (some ⟨g3, 0, none⟩) (nw + 1) cap3) .kept = V1 .kept from rfl).trans HL.out.keep, (show updV V1 (.w s) (.slice (some ⟨g3, 0, none⟩) (nw + 1) cap3) (.c S.m) = V1 (.c S.m) from rfl).trans HL.out.cv⟩
                  have e : wS S L (k + 1) = setwt (wS S L k) s (wl ++ [(m : Int)]) := by
                    rw [wS_succ S L hlt, HY.out.1, HK.out.2.2.2.2.2.1]; unfold watchS; rw [HY.out.2.1, HW.out.2.2.1]
                  rw [e]
                  exact HEnd.out.1
                case measure => simp [intOf]; omega
      · have hkd : decide (k < 2) = false := decide_eq_false hlt
        go_wp2_with fail
        go_end0
        refine ⟨rfl, V1, ?_, HL.out.bel, HL.out.keep⟩
        have e : addS S (clauseI l) = wS S L k := by
          rw [HK.out.2.2.2.2.2.2.1, addS_long (by rw [HK.out.2.2.2.2.2.2.2]; exact h2), show k = 2 by omega]
          rfl
        rw [e]
        exact HL.out.ck
end Go.Proofs.Ytcifiibpiooeiaa
