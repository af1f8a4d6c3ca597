import Derived.Test.YtkoggfahjlnecaaGreatDoorC10
namespace Go.Proofs.YtkoggfahjlnecaaGreatDoor
set_option linter.unusedVariables false
open Go.RowKit Go.Sort

/-! # konst.Env: one name -/
theorem own_roa {w : World} {base e size n : Nat} {v : Value} {cs : List Value} (ho : w.ownsRow base e size v n cs) : ROA (fun b => base ≤ b) w v size n cs := by
  refine ⟨ho.1, ?_⟩
  rcases ho.2 with ⟨e1, e2⟩ | ⟨g, cap, cur, hv, hb, hg, h1, h2, h3, h4⟩
  · rw [e1, e2]
    refine ⟨_, _, rfl, Nat.le_refl _, fun j u hj => ?_⟩
    have := ho.1
    rw [e2, Nat.zero_mul] at this
    rw [List.eq_nil_of_length_eq_zero this] at hj; simp at hj
  · refine ⟨_, _, hv, h1, fun j u hj => ⟨g, 0, rfl, hb, ?_⟩⟩
    have := ho.cells (g := g) (by rw [hv]; rfl) j u hj
    have hadd : (⟨g, 0, none⟩ : Addr).add j = ⟨g, 0 + j, none⟩ := by unfold Addr.add; split <;> simp_all
    rwa [hadd] at this
theorem infoNm : (Tryz.prog.info? 66).map (fun i => (i.zero, i.size, i.bytes)) = some (some (.agg #[.string ⟨#[]⟩, .int .i64 0]), 2, 24) := by kernel_rfl
theorem TNm : SlTy Tryz.prog 33 66 2 24 (.agg #[.string ⟨#[]⟩, .int .i64 0]) := SlTy.of Tryz.underlying33 infoNm rfl (by decide)
theorem appnil_blk {base e size n b t : Nat} {w w8 : World} {xs l : List Value} {v8 : Value} (happ : AppR base e size w (.slice none 0 0) n xs v8 w8) (h : Blk w b t l) : Blk w8 b t l := by
  have hh := happ.grown.block b h.lt (fun e => by cases e)
  unfold Blk at h ⊢
  rw [hh]; exact h
theorem appnil_ne {base e size n b : Nat} {w w8 : World} {xs : List Value} {v8 : Value} (happ : AppR base e size w (.slice none 0 0) n xs v8 w8) (h : b < w.heap.size) : v8.ownBlock ≠ some b := fun hb => by
  rcases happ.at_ with e2 | e2
  · rw [e2] at hb; cases hb
  · rw [e2] at hb
    have := Option.some.inj hb
    omega
set_option maxRecDepth 100000 in
theorem kclone_nil {w : World} : Calls Tryz.prog 15 #[.slice none 0 0] w fun e w' => e = .returned (.slice none 0 0) ∧ w' = w := by
  have hnil := fun w' => Lib.run_eql_slice_nil (P := Tryz.prog) w' 33 66 none 0 0 0 0 Tryz.underlying33
  go_enter Tryz.func15, Tryz.ntmps15
  go_wp2_with fail
  go_ret
  exact ⟨rfl, rfl⟩
set_option maxRecDepth 100000 in
theorem kwith_any {w : World} (n : Int) : Calls Tryz.prog 6 #[.agg #[.slice none 0 0], .string ⟨#[80]⟩, .int .i64 n] w fun e w' => ∃ p c, e = .returned (.agg #[.slice p 1 c]) ∧ ROA (fun k => w.heap.size ≤ k) w' (.slice p 1 c) 2 1 [.string ⟨#[80]⟩, .int .i64 n] ∧ Below w.heap.size w w' := by
  have g1 := Below.new w (.cells #[.slice none 0 0] 35)
  have g2 := Below.new (w.alloc (.cells #[.slice none 0 0] 35)) (.cells #[.slice none 0 0] 35)
  have H := Lib.hid (And.intro ((Blk.new (w := w) 35 [.slice none 0 0]).next g2) (And.intro (Blk.new (w := (w.alloc (.cells #[.slice none 0 0] 35))) 35 [.slice none 0 0]) (Below.next g1 g2)))
  simp only [World.size_alloc] at H
  clear g1 g2
  have HC := Lib.hid (fun w : World => kclone_nil (w := w))
  have HP := Lib.hid (fun w : World => kplace_nil (w := w))
  go_enter Tryz.func6, Tryz.ntmps6
  go_upto_region 1 with fail
  change Hid (Blk ((w.alloc (.cells #[.slice none 0 0] 35)).alloc (.cells #[.slice none 0 0] 35)) _ _ _ ∧ _) at H
  generalize ((w.alloc (.cells #[.slice none 0 0] 35)).alloc (.cells #[.slice none 0 0] 35)) = w1 at *
  have v0 := H.out.1.cell (i := 0) rfl
  go_wp2_with fail
  refine (HC.out _).mono ?_; rintro e w2 ⟨rfl, rfl⟩
  go_wp2_with fail
  refine (HP.out _).mono ?_; rintro e w3 ⟨rfl, hb3⟩
  have H3 := Lib.hid (And.intro (H.out.2.1.next hb3) (Below.trans H.out.2.2 (hb3.mono (Nat.le_trans (Nat.le_succ _) (Nat.le_of_lt H.out.2.1.lt)))))
  clear v0 hb3 HC HP H
  go_upto_region 6 with fail
  have hn := Below.new w3 (.cells #[.string ⟨#[80]⟩, .int .i64 n] 66)
  have hb4 := Below.trans H3.out.2 (hn.mono H3.out.2.size)
  have hr1 : RO (w3.alloc (.cells #[.string ⟨#[80]⟩, .int .i64 n] 66)) (.slice (some ⟨w3.heap.size, 0, none⟩) 1 1) 2 1 [.string ⟨#[80]⟩, .int .i64 n] := ⟨rfl, _, _, rfl, fun j u hj => ⟨_, 0, rfl, by rw [Nat.zero_add]; exact (Blk.new (w := w3) 66 [.string ⟨#[80]⟩, .int .i64 n]).cell hj⟩⟩
  have hk4 := H3.out.1.next hn
  have HH := Lib.hid (And.intro hr1 (And.intro hb4 hk4))
  have hsz := hb4.size
  clear hn hb4 hr1 hk4 H3
  go_wp2_with (at_builtin; refine wpList_appR rfl _ _ 33 rfl TNm w.heap.size (.slice none 0 0) 0 [] rfl (World.ownsRow_nil _ _ _ _) _ 1 _ rfl HH.out.1 (by simp [Value.oneCell']) (by omega) (by omega) hsz ?_; intro v8 w8 happ; have hbl8 := happ.below HH.out.2.1 hsz (fun j hj => by cases hj); have hkb := appnil_blk happ HH.out.2.2; obtain ⟨p8, c8, ev8⟩ := ownsRow_form happ.own; subst ev8; have hne8 := appnil_ne happ HH.out.2.2.lt; have H8 := Lib.hid (And.intro happ.own (And.intro hbl8 (And.intro hkb hne8))); have r0 := hkb.cell (i := 0) rfl; have f0 := hkb.frz 0; clear happ hbl8 hsz hkb hne8)
  have hk9 := H8.out.2.2.1.set 0 (.slice p8 1 c8)
  have hb9 := Below.setCell H8.out.2.1 (p := ⟨w.heap.size + 1, 0, none⟩) (Nat.le_succ _) (.slice p8 1 c8)
  have ho9 : (w8.setCell ⟨w.heap.size + 1, 0, none⟩ (.slice p8 1 c8)).ownsRow w.heap.size 66 2 (.slice p8 1 c8) 1 [.string ⟨#[80]⟩, .int .i64 n] := ownsRow_keep H8.out.1 fun k hk => Below.heap_setCell _ _ _ _ (fun e => H8.out.2.2.2 (by rw [hk, e]))
  clear r0 f0
  generalize (w8.setCell ⟨w.heap.size + 1, 0, none⟩ (.slice p8 1 c8)) = w9 at *
  have e0 := hk9.cell (i := 0) rfl
  exact bodyPost_ret (v := .agg #[.slice p8 1 c8]) (by simp [results, Tryz.results6, go_sem, e0]) rfl ⟨_, _, rfl, own_roa ho9, hb9⟩
end Go.Proofs.YtkoggfahjlnecaaGreatDoor
