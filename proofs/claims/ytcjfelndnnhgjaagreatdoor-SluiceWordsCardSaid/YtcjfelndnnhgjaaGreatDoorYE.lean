/- Texts of this claim, one behind another: X11, X12, X13. They state lemmas; each names its own conditions. -/
import Derived.Test.YtcjfelndnnhgjaaGreatDoorYB
import Derived.Test.YtcjfelndnnhgjaaGreatDoorZE
import Derived.Test.YtcjfelndnnhgjaaGreatDoorZF
import Derived.Test.YtcjfelndnnhgjaaGreatDoorYD
import Derived.Test.YtcjfelndnnhgjaaGreatDoorZ3
import Derived.Test.YtcjfelndnnhgjaaGreatDoorYA
import Derived.Test.YtcjfelndnnhgjaaGreatDoorZ4
namespace Go.Proofs.YtcjfelndnnhgjaaGreatDoor
set_option linter.unusedVariables false
open Go.RowKit Go.Maps

/-! # where words stand, plainly -/
theorem mv_plTo {T t : Bs} {m : Nat} (h : ∀ i, i < t.length → t.getD i 0 = T.getD (m + i) 0 ∨ (t.getD i 0 = 32 ∧ T.getD (m + i) 0 ≠ 10)) : ∀ k, k ≤ t.length → mvL (plTo T m) (t.take k) = plTo T (m + k)
  | 0, _ => by simp [mvL]
  | k + 1, hk => by
    have ih := mv_plTo h k (by omega)
    have hk' : k < t.length := by omega
    have e : t.take (k + 1) = t.take k ++ [t.getD k 0] := by
      rw [List.take_add_one, List.getElem?_eq_getElem hk', List.getD, List.getElem?_eq_getElem hk']; rfl
    rw [e, mvL_snoc, ih, ← Nat.add_assoc, plTo_succ]
    have hh := h k hk'
    unfold mvP
    generalize plTo T (m + k) = q
    generalize t.getD k 0 = a at *
    generalize T.getD (m + k) 0 = b at *
    by_cases h10 : b = 10
    · rcases hh with rfl | ⟨rfl, h2⟩
      · simp only [if_pos h10]
      · exact absurd h10 h2
    · have ha : a ≠ 10 := by
        rcases hh with rfl | ⟨rfl, h2⟩
        · exact h10
        · decide
      simp only [if_neg h10, if_neg ha]
theorem bstr_list (l : Bs) : (bstr l).data.toList = l := by simp [bstr]
theorem plK_own {texts : Nat → Bs} {j m : Nat} {p : Pc} (h : PA texts j m p) {L C k : Nat} (hL : p.l = L) (hC : p.c = C) (hk : k ≤ p.text.length) : ∃ m', m' ≤ (texts (j + 1)).length ∧ plK p.fixed (L, C) (bstr p.text) k = plTo (texts (j + 1)) m' := by
  have e : (L, C) = plTo (texts (j + 1)) m := by
    have h1 := h.l.symm.trans hL
    have h2 := h.c.symm.trans hC
    exact Prod.ext (by simp only; omega) (by simp only; omega)
  unfold plK
  rw [e, bstr_list]
  cases hf : p.fixed
  · obtain ⟨h1, h2⟩ := h.own hf
    exact ⟨m + k, by omega, mv_plTo h2 k hk⟩
  · exact ⟨m, h.le, rfl⟩
theorem tok_place {texts : Nat → Bs} {j m : Nat} {p : Pc} (h : PA texts j m p) {L C : Nat} (hL : p.l = L) (hC : p.c = C) {t : Tk} (ht : TokIn p.f p.fixed (L, C) (bstr p.text) t) :
    ∃ m', m' < (texts (j + 1)).length ∧ t.f = (j : Int) + 1 ∧ t.l = (plTo (texts (j + 1)) m').1 ∧ t.c = (plTo (texts (j + 1)) m').2 ∧
      ((texts (j + 1)).getD m' 0 = 96 ∨ (m' + t.text.size ≤ (texts (j + 1)).length ∧ t.text.data.toList = ((texts (j + 1)).drop m').take t.text.size)) := by
  have e : (L, C) = plTo (texts (j + 1)) m := by
    have h1 := h.l.symm.trans hL
    have h2 := h.c.symm.trans hC
    exact Prod.ext (by simp only; omega) (by simp only; omega)
  obtain ⟨k, n, hn, hkn, htx, h32, hf, hl, hc⟩ := ht
  have hsz : (bstr p.text).size = p.text.length := rfl
  rw [hsz] at hkn
  unfold plK at hl hc
  rw [e, bstr_list] at hl hc
  cases hfx : p.fixed
  · rw [hfx] at hl hc
    simp only [Bool.false_eq_true, if_false] at hl hc
    obtain ⟨h1, h2⟩ := h.own hfx
    rw [mv_plTo h2 k (by omega)] at hl hc
    have hts : t.text.size = n := by rw [htx, ByteArray.size_extract, hsz]; omega
    refine ⟨m + k, by omega, hf.trans h.f, hl, hc, .inr ⟨by omega, ?_⟩⟩
    rw [hts, htx]
    rw [ByteArray.data_extract, Array.toList_extract]
    simp only [List.extract_eq_take_drop]
    have hb : (bstr p.text).data.toList = p.text := bstr_list _
    rw [hb, Nat.add_sub_cancel_left]
    apply List.ext_getElem?
    intro i
    by_cases hi : i < n
    · rw [List.getElem?_take_of_lt hi, List.getElem?_take_of_lt hi, List.getElem?_drop, List.getElem?_drop]
      have q1 : k + i < p.text.length := by omega
      have q2 : m + k + i < (texts (j + 1)).length := by omega
      rw [List.getElem?_eq_getElem q1, List.getElem?_eq_getElem q2]
      have h3 := h2 (k + i) q1
      have h4 := h32 (k + i) (by rw [hsz]; exact q1) (by omega) (by omega)
      rw [bstr_at] at h4
      rcases h3 with h3 | ⟨h3, _⟩
      · rw [List.getD, List.getElem?_eq_getElem q1, List.getD, List.getElem?_eq_getElem (by omega : m + (k + i) < (texts (j + 1)).length)] at h3
        simp only [Option.getD_some] at h3
        rw [h3]; simp only [Nat.add_assoc]
      · rw [h3] at h4; exact absurd rfl h4
    · rw [List.getElem?_eq_none (by rw [List.length_take]; omega), List.getElem?_eq_none (by rw [List.length_take]; omega)]
  · rw [hfx] at hl hc
    simp only [if_true] at hl hc
    obtain ⟨h1, h2⟩ := h.fx hfx
    exact ⟨m, h1, hf.trans h.f, hl, hc, .inl h2⟩
theorem expandP_fx {texts : Nat → Bs} {find : Bs → Nat} (hl : ∀ n, (texts n).length ≤ 32768) (top : Bs) : (∀ p ∈ (expandP texts find top).1, p.text.length ≤ 65536) ∧ (expandP texts find top).1.length ≤ 65536 := by
  unfold expandP
  split
  · exact ⟨fun p h => (by cases h), Nat.zero_le _⟩
  · have g := fileP_gx (find := find) hl 8 0 x0 (find top) 0 0 0 (by decide) wx0 ⟨by simp [x0], fun _ => by simp [x0]⟩
    generalize fileP texts find 8 x0 (find top) 0 0 0 = S at *
    by_cases he : S.err = 0
    · simp only [ne_eq, he, not_true_eq_false, if_false]
      have hx := g.wx.fx he
      refine ⟨fun p hp => ?_, Nat.le_trans hx.out hx.size⟩
      obtain ⟨i, hi, rfl⟩ := List.getElem_of_mem hp
      have h1 := hx.text i hi
      rw [List.getD, List.getElem?_eq_getElem hi] at h1
      exact Nat.le_trans h1 hx.size
    · simp only [ne_eq, he, not_false_eq_true, if_true]
      exact ⟨fun p h => (by cases h), Nat.zero_le _⟩
end Go.Proofs.YtcjfelndnnhgjaaGreatDoor
namespace Go.Proofs.YtcjfelndnnhgjaaGreatDoor
set_option linter.unusedVariables false
open Go.RowKit Go.Maps

theorem fil_all {fs : List Fil} {p : Fil → Prop} (h : ∀ f ∈ fs, p f) (hd : p default) (n : Nat) : p (fs.getD n default) := by
  by_cases hn : n < fs.length
  · rw [List.getD, List.getElem?_eq_getElem hn]
    exact h _ (List.getElem_mem hn)
  · rw [List.getD, List.getElem?_eq_none (by omega)]
    exact hd
/-! # Few -/
def cut7 (t : ByteArray) : ByteArray := if 600 < t.size then t.extract 0 600 else t
theorem cut7_size (t : ByteArray) : (cut7 t).size ≤ 600 := by
  unfold cut7
  split
  · rw [ByteArray.size_extract]; omega
  · omega
def few7 (fs : List Fil) : List Fil := (fs.take 5).map fun f => ⟨f.name, cut7 f.text⟩
theorem few7_len (fs : List Fil) : (few7 fs).length ≤ 5 := by simp [few7]; omega
theorem few7_snoc (fs : List Fil) (k : Nat) (hk : k < fs.length) (h5 : k < 5) : few7 (fs.take (k + 1)) = few7 (fs.take k) ++ [⟨(fs.getD k default).name, cut7 (fs.getD k default).text⟩] := by
  unfold few7
  rw [List.take_take, List.take_take, Nat.min_eq_right (by omega), Nat.min_eq_right (by omega), List.take_succ_eq_append_getElem hk, List.map_append, List.getD, List.getElem?_eq_getElem hk]
  rfl
theorem few7_take (fs : List Fil) (k : Nat) (h : fs.length ≤ k ∨ 5 ≤ k) : few7 (fs.take k) = few7 fs := by
  rcases h with h | h
  · rw [List.take_of_length_le h]
  · unfold few7
    rw [List.take_take, Nat.min_eq_left h]
theorem few7_sizes (fs : List Fil) (n : Nat) : ((few7 fs).getD n default).text.size ≤ 32768 :=
  fil_all (p := fun f => f.text.size ≤ 32768) (fun f hf => by
    obtain ⟨g, _, rfl⟩ := List.mem_map.1 hf
    show (cut7 g.text).size ≤ _
    have := cut7_size g.text; omega) (by decide) n
theorem few7_names (fs : List Fil) (h : ∀ f ∈ fs, f.name.size ≤ maxLen) : ∀ f ∈ few7 fs, f.name.size ≤ maxLen := fun f hf => by
  obtain ⟨g, hg, rfl⟩ := List.mem_map.1 hf
  exact h g (List.mem_of_mem_take hg)
theorem TF7 : SlTy Tryz.prog 22 48 2 32 (.agg #[.string ⟨#[]⟩, .string ⟨#[]⟩]) := SlTy.of Tryz.underlying22 (by kernel_rfl) rfl (by decide)
set_option maxRecDepth 100000 in
set_option maxHeartbeats 4000000 in
theorem few7_any {w : World} (v : Value) (fs : List Fil) (hr : RO w v 2 fs.length (filCells fs)) (hl : fs.length ≤ 9223372036854775807) : Calls Tryz.prog 4 #[v] w fun e w' => ∃ v', e = .returned v' ∧ RO w' v' 2 (few7 fs).length (filCells (few7 fs)) ∧ Below w.heap.size w w' := by
  obtain ⟨p, c, rfl⟩ := hr.form
  obtain ⟨n, hn⟩ : ∃ n, fs.length = n := ⟨_, rfl⟩
  rw [hn] at hr hl ⊢
  have hl' : (n : Int) ≤ 9223372036854775807 := by omega
  have H := Lib.hid hr
  have HN := Lib.hid hn
  clear hr hl hn
  go_enter Tryz.func4, Tryz.ntmps4
  go_wp2_with fail
  generalize hB : w.heap.size = B at *
  have HBB := Lib.hid hB
  clear hB
  go_loopw [3, 4] (fun v i wr => ∃ k : Nat, k ≤ n ∧ k ≤ 5 ∧ i = .int .i64 k ∧ wr.ownsRow B 48 2 v k (filCells (few7 (fs.take k))) ∧ Below B w wr) (fun _ i _ => 5 - (intOf i).toNat)
  case atStart => exact ⟨0, Nat.zero_le _, Nat.zero_le _, rfl, World.ownsRow_nil _ _ _ _, Below.refl _ _⟩
  case round =>
    obtain ⟨k, hk, hk5, rfl, hown, hbel⟩ := hrel
    obtain ⟨pq, cq, e⟩ := ownsRow_form hown
    subst e
    have hBw : B ≤ wr.heap.size := HBB.out ▸ hbel.size
    by_cases hlt : k < n
    · by_cases h5 : k < 5
      · have hro := H.out.below (HBB.out ▸ hbel)
        have hlf : k < fs.length := by rw [HN.out]; exact hlt
        obtain ⟨bb, o, rfl⟩ := hro.sl (fils_at fs k hlf).1
        have f0 := hro.cell (fils_at fs k hlf).1
        have f1 := hro.cell (fils_at fs k hlf).2
        rw [← Nat.add_assoc] at f1
        have htk : filCells (few7 (fs.take (k + 1))) = filCells (few7 (fs.take k)) ++ [.string (fs.getD k default).name, .string (cut7 (fs.getD k default).text)] := by
          rw [few7_snoc fs k hlf h5]
          simp only [filCells, List.flatMap_append, List.flatMap_cons, List.flatMap_nil, List.append_nil]
        generalize fs.getD k default = P at *
        obtain ⟨nm, tx⟩ := P
        dsimp only at f0 f1 htk
        have hki : (k : Int) < n := by omega
        have hk0 : (0 : Int) ≤ k := by omega
        have hk5i : (k : Int) < 5 := by omega
        have hkw : IntKind.i64.wrap ((k : Int) + 1) = (k : Int) + 1 := i64_of (by omega)
        have HX := Lib.hid (And.intro hlt h5)
        have hk1 := Blk.new (w := wr) 48 [.string nm, .string tx]
        have hb1 := Below.new wr (.cells #[.string nm, .string tx] 48)
        have hne : ∀ g, (Value.slice pq k cq).ownBlock = some g → g < wr.heap.size := fun g hg => by
          rcases hown.2 with ⟨e, _⟩ | ⟨g', cap, cur, e, h1, h2, _⟩
          · rw [e] at hg; cases hg
          · rw [e] at hg; cases hg; exact some_lt h2
        have ho1 := hown.alloc (.cells #[.string nm, .string tx] 48)
        have hB1 : Below B w _ := hbel.trans (hb1.mono hBw)
        have HOW := Lib.hid (And.intro hown hbel)
        have HC0 : Hid (∀ g, (Value.slice pq k cq).ownBlock = some g → B ≤ g) := Lib.hid fun g hg => by
          rcases hown.2 with ⟨e, _⟩ | ⟨g', cap, cur, e, h1, h2, _⟩
          · rw [e] at hg; cases hg
          · rw [e] at hg; cases hg; exact h1
        have HR := Lib.hid (And.intro ho1 (And.intro hB1 (And.intro htk (And.intro hk1 (And.intro hBw hne)))))
        clear ho1 hB1 htk hk1 hb1 hne hown hbel hro hlf hlt h5 hk hk5
        by_cases h6 : 600 < tx.size
        · have h6i : (600 : Int) < tx.size := by omega
          have hcut : cut7 tx = tx.extract 0 600 := if_pos h6
          have d0 := HR.out.2.2.2.1.cell (i := 0) rfl
          have d1 := HR.out.2.2.2.1.cell (i := 1) rfl
          have g1 := HR.out.2.2.2.1.frz 1
          have hbc := Below.new wr (.cells #[.string nm, .string (tx.extract 0 600)] 48)
          have HC := Lib.hid (And.intro hcut (And.intro (Blk.new (w := wr) 48 [.string nm, .string (tx.extract 0 600)]) (And.intro (HOW.out.2.trans (hbc.mono HR.out.2.2.2.2.1)) (HOW.out.1.alloc (.cells #[.string nm, .string (tx.extract 0 600)] 48)))))
          clear hcut h6 hbc
          go_upto_region 8 with fail
          generalize wr.heap.size = bx at *
          generalize tx.extract 0 600 = CT at *
          generalize hW2 : wr.alloc (.cells #[.string nm, .string CT] 48) = W2 at *
          clear hW2
          clear d0 d1 g1
          have d0 := HC.out.2.1.cell (i := 0) rfl
          have d1 := HC.out.2.1.cell (i := 1) rfl
          have hbx3 := Below.new W2 (.cells #[.string nm, .string CT] 48)
          have hk3 := Blk.new (w := W2) 48 [.string nm, .string CT]
          have hsz2 := (HC.out.2.2.1).size
          rw [HBB.out] at hsz2
          have HA := Lib.hid (And.intro (HC.out.2.2.2.alloc (.cells #[.string nm, .string CT] 48)) (And.intro (RO.own (hk3.own (n := 1) (size := 2) rfl (by decide) 0 (Nat.zero_le _))) (And.intro (HC.out.2.2.1.trans (hbx3.mono hsz2)) (Nat.le_trans hsz2 hbx3.size))))
          clear hbx3 hk3 hsz2
          go_wp2_with (at_builtin; refine wpList_appR rfl _ _ 22 rfl TF7 B (.slice pq k cq) k _ rfl HA.out.1 _ 1 _ rfl HA.out.2.1 (by simp [Value.oneCell']) (by omega) (by omega) HA.out.2.2.2 ?_; intro v4 w4 happ; obtain ⟨p6, c6', ev4⟩ := ownsRow_form happ.own; subst ev4; have HP := Lib.hid happ; clear happ)
          go_roundw
          case rel =>
            refine ⟨k + 1, HX.out.1, HX.out.2, by go_num, ?_, HP.out.below HA.out.2.2.1 HA.out.2.2.2 (fun g hg => HC0.out g hg)⟩
            rw [HR.out.2.2.1, HC.out.1]
            exact HP.out.own
          case measure => have := HX.out.2; simp [intOf]; omega
        · have h6i : ¬ (600 : Int) < tx.size := by omega
          have hcut : cut7 tx = tx := if_neg h6
          have HC := Lib.hid (And.intro hcut (And.intro HR.out.2.2.2.1 (And.intro HR.out.2.1 HR.out.1)))
          have d0 := HC.out.2.1.cell (i := 0) rfl
          have d1 := HC.out.2.1.cell (i := 1) rfl
          clear hcut h6
          go_upto_region 8 with fail
          generalize wr.heap.size = bx at *
          obtain ⟨CT, hCT⟩ : ∃ CT, tx = CT := ⟨_, rfl⟩
          subst hCT
          generalize hW2 : wr.alloc (.cells #[.string nm, .string tx] 48) = W2 at *
          clear hW2
          have hbx3 := Below.new W2 (.cells #[.string nm, .string tx] 48)
          have hk3 := Blk.new (w := W2) 48 [.string nm, .string tx]
          have hsz2 := (HC.out.2.2.1).size
          rw [HBB.out] at hsz2
          have HA := Lib.hid (And.intro (HC.out.2.2.2.alloc (.cells #[.string nm, .string tx] 48)) (And.intro (RO.own (hk3.own (n := 1) (size := 2) rfl (by decide) 0 (Nat.zero_le _))) (And.intro (HC.out.2.2.1.trans (hbx3.mono hsz2)) (Nat.le_trans hsz2 hbx3.size))))
          clear hbx3 hk3 hsz2
          go_wp2_with (at_builtin; refine wpList_appR rfl _ _ 22 rfl TF7 B (.slice pq k cq) k _ rfl HA.out.1 _ 1 _ rfl HA.out.2.1 (by simp [Value.oneCell']) (by omega) (by omega) HA.out.2.2.2 ?_; intro v4 w4 happ; obtain ⟨p6, c6', ev4⟩ := ownsRow_form happ.own; subst ev4; have HP := Lib.hid happ; clear happ)
          go_roundw
          case rel =>
            refine ⟨k + 1, HX.out.1, HX.out.2, by go_num, ?_, HP.out.below HA.out.2.2.1 HA.out.2.2.2 (fun g hg => HC0.out g hg)⟩
            rw [HR.out.2.2.1, HC.out.1]
            exact HP.out.own
          case measure => have := HX.out.2; simp [intOf]; omega
      · have hk5i : ¬ (k : Int) < 5 := by omega
        have hki : (k : Int) < n := by omega
        have hro := RO.own hown
        have e : few7 (fs.take k) = few7 fs := few7_take fs k (by have := HN.out; omega)
        rw [e] at hro
        have hlen : (few7 fs).length = k := by
          have h1 := hro.1
          have h2 : (filCells (few7 fs)).length = (few7 fs).length * 2 := flatMap_len _ 2 (fun _ => rfl) _
          omega
        have HF := Lib.hid (And.intro hro (And.intro hbel hlen))
        clear hro e hlen hown hbel
        clear hlt h5
        go_wp2_with fail
        go_ret
        exact ⟨_, rfl, by rw [HF.out.2.2]; exact HF.out.1, HBB.out ▸ HF.out.2.1⟩
    · have hki : ¬ (k : Int) < n := by omega
      have hro := RO.own hown
      have e : few7 (fs.take k) = few7 fs := few7_take fs k (by have := HN.out; omega)
      rw [e] at hro
      have hlen : (few7 fs).length = k := by
        have h1 := hro.1
        have h2 : (filCells (few7 fs)).length = (few7 fs).length * 2 := flatMap_len _ 2 (fun _ => rfl) _
        omega
      have HF := Lib.hid (And.intro hro (And.intro hbel hlen))
      clear hro e hlen hown hbel
      clear hlt
      go_wp2_with fail
      go_ret
      exact ⟨_, rfl, by rw [HF.out.2.2]; exact HF.out.1, HBB.out ▸ HF.out.2.1⟩
/-! # the place of a byte, back -/
theorem off_at {w : World} {bt : Nat} {ps : List Part} {fs : List Fil} (h : Made w bt ps fs) (hl : fs.length ≤ 100000) (n m : Nat) (f : Fil) (hf : fs.getD n default = f) (hn : n < fs.length) (hm : m ≤ f.text.size) (hz : f.text.size ≤ 32768) :
    Calls Tryz.prog 9 #[.pointer (some ⟨bt, 0, none⟩), .agg #[.int .i64 ((n : Int) + 1), .int .i64 (plTo f.text.data.toList m).1, .int .i64 (plTo f.text.data.toList m).2]] w fun e w' => e = .returned (.tuple #[.int .i64 m, .int .i64 0]) ∧ Below w.heap.size w w' := by
  have hle := plTo_le f.text.data.toList m
  refine (off_yes h hl n f hf hn _ _ (by omega) (placed_of f.text m hm)).mono ?_
  rintro e w' ⟨m', ⟨a, b, c⟩, rfl, hb⟩
  have := plTo_inj f.text m' m a hm (by omega) (by omega)
  subst this
  exact ⟨rfl, hb⟩
theorem at_getD (s : ByteArray) (k : Nat) (h : k < s.size) : s[k] = s.data.toList.getD k 0 := by
  have e : bstr s.data.toList = s := ByteArray.ext (by simp [bstr])
  have h' : k < (bstr s.data.toList).size := by rw [e]; exact h
  have := bstr_at s.data.toList k h'
  rw [← this]
  congr 1
theorem made_of {w : World} {fs : List Fil} {bt : Nat} {ps : List Part} (h1 : Tab w bt ps) (h2 : ps.length = fs.length) (h3 : ∀ i, i < fs.length → (ps.getD i default).name = (fs.getD i default).name ∧ (ps.getD i default).text = (fs.getD i default).text ∧ Known w (ps.getD i default) (starts (fs.getD i default).text)) : Made w bt ps fs :=
  ⟨h1, h2, fun i hi => (h3 i hi).1, fun i hi => (h3 i hi).2.1, fun i hi => (h3 i hi).2.2⟩
end Go.Proofs.YtcjfelndnnhgjaaGreatDoor
namespace Go.Proofs.YtcjfelndnnhgjaaGreatDoor
set_option linter.unusedVariables false
open Go.RowKit

set_option maxRecDepth 100000 in
theorem mk_str0 (w : World) : (Instr.makeSlice 62 (.int .i64 0) (.int .i64 0)).run Tryz.prog w = .ok (.slice (some ⟨w.heap.size, 0, none⟩) 0 0) (w.alloc (.cells #[] 9)) := by
  obtain ⟨i0, hi, hz0, hz1, hz2⟩ := info_parts infoStr
  have h := run_make (P := Tryz.prog) w 62 9 i0 _ Tryz.underlying62 hi hz0 .i64 .i64 0 0 (by omega) (by omega) (by rw [hz2]; omega) (by omega)
  rw [h, hz1]
  simp only [Int.toNat_zero, Nat.mul_one, Value.cells]
  have e : madeCells #[Value.string ⟨#[]⟩] 0 = #[] := by
    apply Array.ext'
    rw [toList_madeCells_one]
    rfl
  rw [e]
set_option maxRecDepth 100000 in
set_option maxHeartbeats 4000000 in
theorem text_none (w : World) : Calls Tryz.prog 11 #[.slice none 0 0] w fun e w' => e = .returned (.string ⟨#[]⟩) ∧ Below w.heap.size w w' := by
  have HJ : Hid (∀ a c w', _) := Lib.hid fun a c w' => Tryz.strings_Join_none a c ⟨#[32]⟩ w'
  go_enter Tryz.func11, Tryz.ntmps11
  go_wp2_with fail
  rw [show Sem.run Tryz.prog (Instr.makeSlice 62 (Value.int IntKind.i64 0) (Value.int IntKind.i64 0)) w = _ from mk_str0 w]
  simp only [Result.andThen]
  rw [Oper.upon_value]
  have hb := Lib.hid (Below.new w (.cells #[] 9))
  generalize w.alloc (.cells #[] 9) = W at *
  go_wp2_with fail
  go_loopw [11] (fun i wr => i = .int .i64 0 ∧ wr = W) (fun _ _ => 0)
  case atStart => exact ⟨rfl, rfl⟩
  case round =>
    obtain ⟨rfl, rfl⟩ := hrel
    go_wp2_with fail
    refine (HJ.out _ _ _).mono ?_; rintro e w' ⟨rfl, rfl⟩
    go_wp2_with fail
    go_ret
    exact ⟨rfl, hb.out⟩
end Go.Proofs.YtcjfelndnnhgjaaGreatDoor
