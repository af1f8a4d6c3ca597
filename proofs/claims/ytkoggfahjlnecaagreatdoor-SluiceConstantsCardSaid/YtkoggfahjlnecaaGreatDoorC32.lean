import Derived.Test.YtkoggfahjlnecaaGreatDoorC31
namespace Go.Proofs.YtkoggfahjlnecaaGreatDoor
set_option linter.unusedVariables false
open Go.RowKit Go.Sort

/-! # the law -/
theorem plainK_size (picks : List Int) : ∀ d at_, (plainK picks at_ d).1.size + 1 ≤ 2 ^ (d + 1)
  | 0, at_ => by show 1 + 1 ≤ 2 ^ 1; decide
  | d + 1, at_ => by
    by_cases h : d = 0 ∨ plainN picks at_ % 3 = 0
    · rw [plainK_leaf h]
      show 1 + 1 ≤ 2 ^ (d + 1 + 1)
      have := Nat.one_le_two_pow (n := d)
      rw [Nat.pow_succ, Nat.pow_succ]; omega
    · rw [plainK_bin h]
      have h1 := plainK_size picks d (at_ + 1)
      have h2 := plainK_size picks d (plainK picks (at_ + 1) d).2
      show (plainK picks (at_ + 1) d).1.size + (plainK picks (plainK picks (at_ + 1) d).2 d).1.size + 1 + 1 ≤ 2 ^ (d + 1 + 1)
      rw [Nat.pow_succ (m := d + 1)]; omega
theorem tsz_le : ∀ e : KE, tsz e ≤ 2 * e.size
  | .num _ => by show 1 ≤ 2 * 1; decide
  | .nm => by show 1 ≤ 2 * 1; decide
  | .bin o a b => by
    have h1 := tsz_le a
    have h2 := tsz_le b
    show (if o = 6 then 2 else 1) + (tsz a + tsz b) ≤ 2 * (a.size + b.size + 1)
    split <;> omega
theorem ro_takeI {w : World} {p : Option Addr} {n c c' k : Nat} {l : List Int} (h : RO w (.slice p n c) 1 n (ints l)) (hk : k ≤ n) : RO w (.slice p k c') 1 k (ints (l.take k)) := by
  obtain ⟨hl, p', c2, e, hr⟩ := h
  cases e
  have hll : l.length = n := by simpa [ints] using hl
  refine ⟨by simp [ints]; omega, p, c', rfl, fun j u hj => hr j u ?_⟩
  rw [show ints (l.take k) = (ints l).take k from List.map_take ..] at hj
  rw [List.getElem?_take] at hj
  by_cases hjk : j < k
  · simpa [hjk] using hj
  · simp [hjk] at hj
/-- what the law's evaluator gives: a number, and its error -/
def kvN (o : Option Int) : Int := o.getD 0
def kvE (o : Option Int) : Int := if o.isSome then 0 else 3
theorem KEvR.flat {w w' : World} {o : Option Int} {e : Ending} (h : KEvR w o e w') : e = .returned (.tuple #[.int .i64 (kvN o), .agg #[.int .i64 0, .int .i64 0, .int .i64 0], .int .i64 (kvE o)]) ∧ Below w.heap.size w w' := by
  cases o <;> exact h
theorem setCells_size {b : Nat} : ∀ (vs : List Value) (o : Nat) {w : World}, (w.setCells b o vs).heap.size = w.heap.size
  | [], _, _ => rfl
  | v :: r, o, w => (setCells_size r (o + 1)).trans (by simp [World.setCell])
theorem Blk.inj {w : World} {b t t2 : Nat} {l l2 : List Value} (h : Blk w b t l) (h2 : Blk w b t2 l2) : l = l2 := by
  unfold Blk at h h2
  have h3 := h.symm.trans h2
  simp at h3
  exact h3.1
theorem Blk.at_cell {w : World} {b t i : Nat} {l : List Value} {u : Value} (h : Blk w b t l) (hc : w.cell? ⟨b, i, none⟩ = some u) : l[i]? = some u := by
  unfold Blk at h
  simpa [World.cell?, h] using hc
theorem VRA.ne {A : Nat → Prop} {w : World} {p : Option Addr} {c x b t : Nat} {l : List Value} (h : VRA A w p c x) (hk : Blk w b t l) (hu : ∀ (j : Nat) (y : Int), l[j]? ≠ some (.int .u64 y)) : VRA (fun k => A k ∧ k ≠ b) w p c x := by
  refine ⟨h.1, fun b' o' e => ⟨h.2 b' o' e, fun e2 => ?_⟩⟩
  obtain ⟨⟨⟨p', c', e3, hl, p2, c2, e4, hr⟩, h2, h3⟩, hA0⟩ := h
  have e5 : p' = p ∧ c' = c := by
    have := congrArg (fun v => match v with | Value.agg cs => cs.toList[1]? | _ => none) e3
    simp at this
    exact ⟨this.1.symm, this.2.2.symm⟩
  obtain ⟨rfl, rfl⟩ := e5
  have e6 : p2 = p' ∧ c2 = c' := by cases e4; exact ⟨rfl, rfl⟩
  obtain ⟨rfl, rfl⟩ := e6
  obtain ⟨b1, o1, e7, hc⟩ := hr 0 _ (wordsV_at (m := 1) (x := x) (i := 0) (by decide))
  subst e
  cases e7
  subst e2
  exact hu _ _ (hk.at_cell hc)
theorem TX.ne {nm : Int} {A : Nat → Prop} {w : World} {b t : Nat} {l : List Value} (hk : Blk w b t l) (hu : ∀ (j : Nat) (y : Int), l[j]? ≠ some (.int .u64 y)) (hl : l.length ≠ 18) (h0 : l[0]? = some (.int .i64 0)) : ∀ {e : KE} {cs : List Value}, TX nm A w e cs → TX nm (fun k => A k ∧ k ≠ b) w e cs
  | .num _, _, ⟨p, c, h1, h2⟩ => ⟨p, c, h1, h2.ne hk hu⟩
  | .nm, _, ⟨p, c, h1, h2⟩ => ⟨p, c, h1, h2.ne hk hu⟩
  | .bin _ _ _, _, ⟨L, ca, cb, h1, h2, h3, h4, h5⟩ => ⟨L, ca, cb, h1.imp id (fun ⟨h6, M, h7, h8, h9⟩ => ⟨h6, M, h7, ⟨h8, fun e => by
      subst e
      have h10 := hk.inj h9
      subst h10
      simp at h0⟩, h9⟩), ⟨h2, fun e => by
      subst e
      have h10 := hk.inj h3
      obtain ⟨_, _, _, _, _, _, _, _, _, e1⟩ := h4.form
      obtain ⟨_, _, _, _, _, _, _, _, _, e2⟩ := h5.form
      subst e1
      subst e2
      subst h10
      exact hl rfl⟩, h3, TX.ne hk hu hl h0 h4, TX.ne hk hu hl h0 h5⟩
set_option maxRecDepth 100000 in
set_option maxHeartbeats 4000000 in
theorem law_any {picks : List Int} {sp : Option Addr} {sc N : Nat} {name : Int} {w : World} (hN : picks.length = N) (hr : RO w (.slice sp N sc) 1 N (ints picks)) (hcap : N ≤ sc) (htb : Tab w) (hm : Max w) : Calls Tryz.prog 3 #[.slice sp N sc, .int .i64 name] w fun e w' => e = .returned (.bool true) ∧ Below w.heap.size w w' := by
  have HR := Lib.hid (And.intro hN (And.intro hr (And.intro htb hm)))
  have HC := Lib.hid hcap
  clear hN hr htb hm
  go_enter Tryz.func3, Tryz.ntmps3
  go_upto_if 18 with fail
  go_cut [0] from 16 to 20 (fun v wx => wx = w ∧ ∃ (pk : List Int) (M c : Nat), v = .slice sp M c ∧ pk.length = M ∧ RO w (.slice sp M c) 1 M (ints pk))
  case first =>
    by_cases h40 : 40 < N
    · have hz : (40 : Int) < (N : Int) := by omega
      have h40c : ¬ sc < 40 := by omega
      have h40d : ¬ N < 40 := by omega
      have hcc : (40 : Int) ≤ (sc : Int) := by omega
      have hcd : 40 ≤ sc := by omega
      go_wp2_with fail
      go_meet
      exact ⟨rfl, picks.take 40, 40, sc, rfl, by have := HR.out.1; simp; omega, ro_takeI HR.out.2.1 (by omega)⟩
    · have hz : ¬ (40 : Int) < (N : Int) := by omega
      go_wp2_with fail
      go_meet
      exact ⟨rfl, picks, N, sc, rfl, HR.out.1, HR.out.2.1⟩
  case rest =>
    obtain ⟨hwx, pk, M, c, rfl, hpk, hro⟩ := hcut
    have hwx := hwx.symm
    subst hwx
    have HR2 := Lib.hid (And.intro hpk (And.intro hro (And.intro HR.out.2.2.1 HR.out.2.2.2)))
    clear hpk hro HR HC hcap
    obtain ⟨e0, he0⟩ : ∃ e, (plainK pk 0 4).1 = e := ⟨_, rfl⟩
    have hw0 := plainK_wf pk 4 0
    have hs0 := plainK_size pk 4 0
    rw [he0] at hw0 hs0
    have HPl : Hid (∀ W : World, Below w.heap.size w W → Tab W → Calls Tryz.prog 4 #[.slice sp M c, .int .i64 0, .int .i64 4] W (PlainR W (plainK pk 0 4))) := Lib.hid fun W hb ht => plain_four HR2.out.1 0 W (by decide) ht (HR2.out.2.1.below hb)
    have HE := Lib.hid (And.intro he0 (And.intro hw0 (show e0.size ≤ 31 from by have : (2:Nat) ^ (4 + 1) = 32 := rfl; omega)))
    clear hw0 hs0 he0
    go_upto_region 3 with fail
    go_wp2_with fail
    refine (HPl.out _ (Below.refl _ _) HR2.out.2.2.1).mono ?_
    rintro r w1 ⟨cs, rfl, hx1, hb1⟩
    rw [HE.out.1] at hx1
    obtain ⟨k1, t1, p1, n1, c1, rfl⟩ := hx1.form
    have hn := Below.new w1 (.cells #[.int .i64 k1, .int .i64 0, .int .i64 0, .int .i64 0, .string t1, .slice p1 n1 c1] 27)
    have hk := Blk.new (w := w1) 27 [.int .i64 k1, .int .i64 0, .int .i64 0, .int .i64 0, .string t1, .slice p1 n1 c1]
    obtain ⟨b5, hb5⟩ : ∃ b, w1.heap.size = b := ⟨_, rfl⟩
    rw [hb5] at hk
    have H2 := Lib.hid (And.intro hk (And.intro (hx1.turn (A' := fun k => k < b5) (fun k h1 hl => ⟨by omega, hn.block k hl⟩)) (And.intro (Below.next hb1 hn) (show w.heap.size ≤ b5 from by rw [← hb5]; exact hb1.size))))
    clear hk hn hx1 hb1 HPl
    go_upto_region 4 with fail
    change Hid (Blk (w1.alloc (.cells #[.int .i64 k1, .int .i64 0, .int .i64 0, .int .i64 0, .string t1, .slice p1 n1 c1] 27)) _ _ _ ∧ _) at H2
    generalize (w1.alloc (.cells #[.int .i64 k1, .int .i64 0, .int .i64 0, .int .i64 0, .string t1, .slice p1 n1 c1] 27)) = w2 at *
    clear hb5
    have hn := Below.new w2 (.cells #[.int .i64 k1, .int .i64 0, .int .i64 0, .int .i64 0, .string t1, .slice p1 n1 c1, .int .i64 2, .int .i64 0, .int .i64 0, .int .i64 0, .string ⟨#[80]⟩, .slice none 0 0] 27)
    have hk := H2.out.1.next hn
    have hkl := Blk.new (w := w2) 27 [.int .i64 k1, .int .i64 0, .int .i64 0, .int .i64 0, .string t1, .slice p1 n1 c1, .int .i64 2, .int .i64 0, .int .i64 0, .int .i64 0, .string ⟨#[80]⟩, .slice none 0 0]
    have x0 := H2.out.1.cell (i := 0) rfl
    have x1 := H2.out.1.cell (i := 1) rfl
    have x2 := H2.out.1.cell (i := 2) rfl
    have x3 := H2.out.1.cell (i := 3) rfl
    have x4 := H2.out.1.cell (i := 4) rfl
    have x5 := H2.out.1.cell (i := 5) rfl
    have r0 := hk.cell (i := 0) rfl
    have r1 := hk.cell (i := 1) rfl
    have r2 := hk.cell (i := 2) rfl
    have r3 := hk.cell (i := 3) rfl
    have r4 := hk.cell (i := 4) rfl
    have r5 := hk.cell (i := 5) rfl
    have f0 := hk.frz 0
    have f1 := hk.frz 1
    have f2 := hk.frz 2
    have f3 := hk.frz 3
    have f4 := hk.frz 4
    have f5 := hk.frz 5
    obtain ⟨L, hL⟩ : ∃ b, w2.heap.size = b := ⟨_, rfl⟩
    have hlt5 : b5 < L := by rw [← hL]; exact H2.out.1.lt
    have hup := upd6 (w2.alloc (.cells #[.int .i64 k1, .int .i64 0, .int .i64 0, .int .i64 0, .string t1, .slice p1 n1 c1, .int .i64 2, .int .i64 0, .int .i64 0, .int .i64 0, .string ⟨#[80]⟩, .slice none 0 0] 27)) b5 (.int .i64 4) (.int .i64 0) (.int .i64 0) (.int .i64 0) (.string ⟨#[43]⟩) (.slice (some ⟨L, 0, none⟩) 2 2)
    have hbk := blk6 hk (.int .i64 4) (.int .i64 0) (.int .i64 0) (.int .i64 0) (.string ⟨#[43]⟩) (.slice (some ⟨L, 0, none⟩) 2 2)
    have hbl := below6 (Below.next H2.out.2.2.1 hn) H2.out.2.2.2 (.int .i64 4) (.int .i64 0) (.int .i64 0) (.int .i64 0) (.string ⟨#[43]⟩) (.slice (some ⟨L, 0, none⟩) 2 2)
    rw [hL] at hkl
    have hLs : L < (w2.alloc (.cells #[.int .i64 k1, .int .i64 0, .int .i64 0, .int .i64 0, .string t1, .slice p1 n1 c1, .int .i64 2, .int .i64 0, .int .i64 0, .int .i64 0, .string ⟨#[80]⟩, .slice none 0 0] 27)).heap.size := hkl.lt
    have hkL2 := hkl.eqv (hup.block L hLs (fun e => by have : L = b5 := e; omega))
    skip
    have H4 := Lib.hid (And.intro hbk (And.intro hkL2 (And.intro hbl (And.intro hlt5 (And.intro hup (And.intro hn (show w2.heap.size = L from hL)))))))
    clear hn hk hkl hup hbk hbl hkL2 hLs hlt5
    go_upto_region 5 with fail
    (try rw [hL])
    clear x0 r0 f0
    clear x1 r1 f1
    clear x2 r2 f2
    clear x3 r3 f3
    clear x4 r4 f4
    clear x5 r5 f5
    change Hid (Blk (((((((w2.alloc (.cells #[.int .i64 k1, .int .i64 0, .int .i64 0, .int .i64 0, .string t1, .slice p1 n1 c1, .int .i64 2, .int .i64 0, .int .i64 0, .int .i64 0, .string ⟨#[80]⟩, .slice none 0 0] 27)).setCell ⟨b5, 0, none⟩ (.int .i64 4)).setCell ⟨b5, 1, none⟩ (.int .i64 0)).setCell ⟨b5, 2, none⟩ (.int .i64 0)).setCell ⟨b5, 3, none⟩ (.int .i64 0)).setCell ⟨b5, 4, none⟩ (.string ⟨#[43]⟩)).setCell ⟨b5, 5, none⟩ (.slice (some ⟨L, 0, none⟩) 2 2)) _ _ _ ∧ _) at H4
    have hcg : Hid (Upd (One b5) (One b5) (w2.alloc (.cells #[.int .i64 k1, .int .i64 0, .int .i64 0, .int .i64 0, .string t1, .slice p1 n1 c1, .int .i64 2, .int .i64 0, .int .i64 0, .int .i64 0, .string ⟨#[80]⟩, .slice none 0 0] 27)) (((((((w2.alloc (.cells #[.int .i64 k1, .int .i64 0, .int .i64 0, .int .i64 0, .string t1, .slice p1 n1 c1, .int .i64 2, .int .i64 0, .int .i64 0, .int .i64 0, .string ⟨#[80]⟩, .slice none 0 0] 27)).setCell ⟨b5, 0, none⟩ (.int .i64 4)).setCell ⟨b5, 1, none⟩ (.int .i64 0)).setCell ⟨b5, 2, none⟩ (.int .i64 0)).setCell ⟨b5, 3, none⟩ (.int .i64 0)).setCell ⟨b5, 4, none⟩ (.string ⟨#[43]⟩)).setCell ⟨b5, 5, none⟩ (.slice (some ⟨L, 0, none⟩) 2 2))) := Lib.hid H4.out.2.2.2.2.1
    generalize (((((((w2.alloc (.cells #[.int .i64 k1, .int .i64 0, .int .i64 0, .int .i64 0, .string t1, .slice p1 n1 c1, .int .i64 2, .int .i64 0, .int .i64 0, .int .i64 0, .string ⟨#[80]⟩, .slice none 0 0] 27)).setCell ⟨b5, 0, none⟩ (.int .i64 4)).setCell ⟨b5, 1, none⟩ (.int .i64 0)).setCell ⟨b5, 2, none⟩ (.int .i64 0)).setCell ⟨b5, 3, none⟩ (.int .i64 0)).setCell ⟨b5, 4, none⟩ (.string ⟨#[43]⟩)).setCell ⟨b5, 5, none⟩ (.slice (some ⟨L, 0, none⟩) 2 2)) = w4 at *
    have hxe : EX (fun k => k < w4.heap.size) w4 (.bin 0 e0 .nm) [.int .i64 4, .int .i64 0, .int .i64 0, .int .i64 0, .string ⟨#[43]⟩, .slice (some ⟨L, 0, none⟩) 2 2] := ⟨some ⟨L, 0, none⟩, 2, [.int .i64 k1, .int .i64 0, .int .i64 0, .int .i64 0, .string t1, .slice p1 n1 c1], [.int .i64 2, .int .i64 0, .int .i64 0, .int .i64 0, .string ⟨#[80]⟩, .slice none 0 0], rfl, (Blk.roaF (n := 2) (size := 6) H4.out.2.1 H4.out.2.2.2.1).turn (fun k h1 hl => ⟨hl, rfl⟩), (H2.out.2.1.turn (fun k h1 hl => ⟨Nat.lt_of_lt_of_le (Nat.lt_of_lt_of_le (show k < b5 from h1) (Nat.le_of_lt H4.out.2.2.2.1)) (Nat.le_of_lt H4.out.2.1.lt), (hcg.out.block k (Nat.lt_of_lt_of_le hl H4.out.2.2.2.2.2.1.size) (fun e => by have h2 : k = b5 := e; have h3 : k < b5 := h1; omega)).trans (H4.out.2.2.2.2.2.1.block k hl)⟩)), rfl⟩
    have H5 := Lib.hid (And.intro H4.out.1 (And.intro hxe (And.intro H4.out.2.2.1 (And.intro (HR2.out.2.2.2.below H4.out.2.2.1) (Nat.lt_of_le_of_lt H2.out.2.2.2 (show b5 < w4.heap.size from H4.out.1.lt))))))
    have HW : Hid ((KE.bin 0 e0 .nm).wf ∧ (KE.bin 0 e0 .nm).size ≤ 33) := Lib.hid ⟨⟨by decide, HE.out.2.1, trivial⟩, by have h : (KE.bin 0 e0 .nm).size = e0.size + 1 + 1 := rfl; have := HE.out.2.2; omega⟩
    clear hxe hcg H4 H2 HR2 HE
    obtain ⟨e, hee⟩ : ∃ x, KE.bin 0 e0 .nm = x := ⟨_, rfl⟩
    rw [hee] at H5 HW
    clear hee
    go_cut [1] from 30 to 32 (fun v wx => wx = w4 ∧ ∃ nm : Int, v = .int .i64 nm ∧ fitI nm)
    case first =>
      clear H5 HW
      go_wp2_with fail
      all_goals go_meet
      all_goals (refine ⟨rfl, _, rfl, ?_⟩; unfold fitI; omega)
    case rest =>
      obtain ⟨hwx, nm, rfl, hfi⟩ := hcut
      have hwx := hwx.symm
      subst hwx
      have HF := Lib.hid hfi
      clear hfi
      go_upto_region 6 with fail
      have x0 := H5.out.1.cell (i := 0) rfl
      have x1 := H5.out.1.cell (i := 1) rfl
      have x2 := H5.out.1.cell (i := 2) rfl
      have x3 := H5.out.1.cell (i := 3) rfl
      have x4 := H5.out.1.cell (i := 4) rfl
      have x5 := H5.out.1.cell (i := 5) rfl
      have HTr := Lib.hid (Tr.nil w4)
      refine wp_region_webCR (w0 := w4) [.known (.agg #[.int .i64 4, .int .i64 0, .int .i64 0, .int .i64 0, .string ⟨#[43]⟩, .slice (some ⟨L, 0, none⟩) 2 2]), .known (.agg #[.slice none 0 0]), .known (.int .i64 nm), .rel (fun v W => ∃ (p : Option Addr) (c : Nat), v = .agg #[.slice p 1 c] ∧ ROA (fun k => k < W.heap.size) W (.slice p 1 c) 2 1 [.string ⟨#[80]⟩, .int .i64 nm]) (fun _ => []), .known (.tuple #[.int .i64 (kvN (evK nm e)), .agg #[.int .i64 0, .int .i64 0, .int .i64 0], .int .i64 (kvE (evK nm e))]), .known (.tuple #[.int .i64 (kvN (evK nm e)), .agg #[.int .i64 0, .int .i64 0, .int .i64 0], .int .i64 (kvE (evK nm e))]), .known (.int .i64 (kvN (evK nm e))), .rel (fun v W => v = .agg #[.int .i64 0, .int .i64 0, .int .i64 0]) (fun _ => []), .rel (fun v W => v = .int .i64 (kvE (evK nm e))) (fun _ => []), .box 24 [.int .i64 0, .int .i64 0, .int .i64 0]] [1, 1, 1, 1, 1, 1, 1, 2, 2, 1] [] 42 3 #[true, true, true, true, true, true, true, true, true, true, false, false, false] (by kernel_rfl) (by kernel_rfl) rfl rfl rfl (Nat.le_of_ble_eq_true rfl) ⟨Sp.Mono.known, Sp.Mono.known, Sp.Mono.known, (fun _ _ _ hb ⟨p, c, h1, h2⟩ => ⟨p, c, h1, h2.turn fun k hk hl => ⟨Nat.lt_of_lt_of_le hl hb.size, hb.block k hl⟩⟩), Sp.Mono.known, Sp.Mono.known, Sp.Mono.known, (fun _ _ _ _ h => h), (fun _ _ _ _ h => h), Sp.Mono.box, trivial⟩ HTr.out.drew (fun _ _ _ _ _ h => h) (A := ?_) ?_ ?_ ?_
      rotate_left
      · intro u
        simp only [fillC, Sp.val, Sp.box, Nat.reduceBEq, cond_false, Act.put, List.setIfInBounds_toArray, List.set_cons_zero, List.set_cons_succ]
        rfl
      iterate 3 (refine ob_yes (web_op (o := _) rfl (fun u W hT hd Q K hK => ?_)) ?_; · (have cc0 : W.cell? _ = some _ := After.cell x0 ⟨W, hT.bel⟩; have cc1 : W.cell? _ = some _ := After.cell x1 ⟨W, hT.bel⟩; have cc2 : W.cell? _ = some _ := After.cell x2 ⟨W, hT.bel⟩; have cc3 : W.cell? _ = some _ := After.cell x3 ⟨W, hT.bel⟩; have cc4 : W.cell? _ = some _ := After.cell x4 ⟨W, hT.bel⟩; have cc5 : W.cell? _ = some _ := After.cell x5 ⟨W, hT.bel⟩; go_simp; exact hK.out _ _ (Below.refl _ _) rfl (fun p hp => by cases hp) List.nodup_nil))
      refine ob_yes (web_op (o := _) rfl (fun u W hT hd Q K hK => ?_)) ?_
      · (try simp only [Act.put, List.setIfInBounds_toArray, List.set_cons_zero, List.set_cons_succ] at hK)
        have cc0 : W.cell? _ = some _ := After.cell x0 ⟨W, hT.bel⟩
        have cc1 : W.cell? _ = some _ := After.cell x1 ⟨W, hT.bel⟩
        have cc2 : W.cell? _ = some _ := After.cell x2 ⟨W, hT.bel⟩
        have cc3 : W.cell? _ = some _ := After.cell x3 ⟨W, hT.bel⟩
        have cc4 : W.cell? _ = some _ := After.cell x4 ⟨W, hT.bel⟩
        have cc5 : W.cell? _ = some _ := After.cell x5 ⟨W, hT.bel⟩
        go_simp
        refine (kwith_any nm).mono ?_; rintro r w9 ⟨p, c, rfl, h1, hb9⟩
        exact hK.out _ _ hb9 ⟨p, c, rfl, h1.turn fun k hk hl => ⟨hl, rfl⟩⟩ (fun p hp => by cases hp) List.nodup_nil
      refine ob_yes (web_op (o := _) rfl (fun u W hT hd Q K hK => ?_)) ?_
      · have d3 := hd 3 (by kernel_rfl)
        generalize u 3 = x3 at *
        obtain ⟨p3, c3, rfl, hv3⟩ := d3
        (try simp only [Act.put, List.setIfInBounds_toArray, List.set_cons_zero, List.set_cons_succ] at hK)
        have cc0 : W.cell? _ = some _ := After.cell x0 ⟨W, hT.bel⟩
        have cc1 : W.cell? _ = some _ := After.cell x1 ⟨W, hT.bel⟩
        have cc2 : W.cell? _ = some _ := After.cell x2 ⟨W, hT.bel⟩
        have cc3 : W.cell? _ = some _ := After.cell x3 ⟨W, hT.bel⟩
        have cc4 : W.cell? _ = some _ := After.cell x4 ⟨W, hT.bel⟩
        have cc5 : W.cell? _ = some _ := After.cell x5 ⟨W, hT.bel⟩
        go_simp
        refine (keval_any HF.out HW.out.1 (H5.out.2.1.turn (fun k hk hl => ⟨Nat.lt_of_lt_of_le hl hT.bel.size, hT.bel.block k hl⟩)) hv3 (H5.out.2.2.2.1.below hT.bel)).mono ?_; rintro r w9 h9; obtain ⟨rfl, hb9⟩ := h9.flat
        exact hK.out _ _ hb9 rfl (fun p hp => by cases hp) List.nodup_nil
      iterate 2 (refine ob_yes (web_op (o := _) rfl (fun u W hT hd Q K hK => ?_)) ?_; · (go_simp; exact hK.out _ _ (Below.refl _ _) rfl (fun p hp => by cases hp) List.nodup_nil))
      refine ob_pure (web_pure (o := _) rfl (fun u W hT hd => ?_)) ?_
      · have cc0 : W.cell? _ = some _ := After.cell x0 ⟨W, hT.bel⟩
        have cc1 : W.cell? _ = some _ := After.cell x1 ⟨W, hT.bel⟩
        have cc2 : W.cell? _ = some _ := After.cell x2 ⟨W, hT.bel⟩
        have cc3 : W.cell? _ = some _ := After.cell x3 ⟨W, hT.bel⟩
        have cc4 : W.cell? _ = some _ := After.cell x4 ⟨W, hT.bel⟩
        have cc5 : W.cell? _ = some _ := After.cell x5 ⟨W, hT.bel⟩
        exact ⟨_, Or.inl ⟨rfl, fun w => rfl⟩, rfl, rfl⟩
      refine ob_pure (web_pure (o := _) rfl (fun u W hT hd => ?_)) ?_
      · have cc0 : W.cell? _ = some _ := After.cell x0 ⟨W, hT.bel⟩
        have cc1 : W.cell? _ = some _ := After.cell x1 ⟨W, hT.bel⟩
        have cc2 : W.cell? _ = some _ := After.cell x2 ⟨W, hT.bel⟩
        have cc3 : W.cell? _ = some _ := After.cell x3 ⟨W, hT.bel⟩
        have cc4 : W.cell? _ = some _ := After.cell x4 ⟨W, hT.bel⟩
        have cc5 : W.cell? _ = some _ := After.cell x5 ⟨W, hT.bel⟩
        exact ⟨_, Or.inl ⟨rfl, fun w => rfl⟩, rfl, rfl⟩
      refine ob_yes (web_op (o := _) rfl (fun u W hT hd Q K hK => ?_)) ?_
      · (try simp only [Act.put, List.setIfInBounds_toArray, List.set_cons_zero, List.set_cons_succ] at hK)
        have cc0 : W.cell? _ = some _ := After.cell x0 ⟨W, hT.bel⟩
        have cc1 : W.cell? _ = some _ := After.cell x1 ⟨W, hT.bel⟩
        have cc2 : W.cell? _ = some _ := After.cell x2 ⟨W, hT.bel⟩
        have cc3 : W.cell? _ = some _ := After.cell x3 ⟨W, hT.bel⟩
        have cc4 : W.cell? _ = some _ := After.cell x4 ⟨W, hT.bel⟩
        have cc5 : W.cell? _ = some _ := After.cell x5 ⟨W, hT.bel⟩
        go_simp
        exact hK.out _ _ (Below.new _ _) ⟨_, rfl⟩ (fun p hp => by cases hp with | head => exact ⟨Blk.new 24 [.int .i64 0, .int .i64 0, .int .i64 0], Nat.le_refl _⟩ | tail _ hp => cases hp) (by simp [ownAt, spAt, Sp.own, Sp.box])
      exact ob_nil
      intro u wx hT hok
      obtain ⟨h0, h1, h2, h3, h4, h5, h6, h7, h8, h9, _⟩ := hok
      clear h0 h1 h2 h3 h4 h5 h6
      simp only [ownsC, Sp.own, Sp.box, Nat.reduceBEq, cond_false, List.nil_append, List.append_nil, Nat.zero_add, Nat.reduceAdd] at hT
      have d7 := h7 (by kernel_rfl)
      clear h7
      generalize u 7 = x7 at *
      subst d7
      have d8 := h8 (by kernel_rfl)
      clear h8
      generalize u 8 = x8 at *
      subst d8
      have d9 := h9 (by kernel_rfl)
      clear h9
      generalize u 9 = x9 at *
      obtain ⟨L9, rfl⟩ := d9
      (try dsimp only [List.nil_append, List.cons_append] at hT)
      have HTE := Lib.hid hT
      clear hT
      clear HTr x0 x1 x2 x3 x4 x5
      refine wpAny_of_held (S := fun _ => True) _ _ _ _ ?_
      refine wpAnyH_ready (rs := [10]) (by kernel_rfl) (by simp) ?_
      refine held_cons rfl (fun K hK => ?_) AllReadyH.nil
      go_simp
      refine hK.out _ _ trivial (fun _ => ?_)
      clear hK K
      (try simp only [List.setIfInBounds_toArray, List.set_cons_zero, List.set_cons_succ])
      have hge9 : w4.heap.size ≤ L9 := HTE.out.ge _ (List.mem_cons_self ..)
      refine wpAnyH_ready (rs := [11]) (by kernel_rfl) (by simp) ?_
      refine held_cons rfl (fun K hK => ?_) AllReadyH.nil
      refine step_store rfl _ _ _ rfl L9 [.int .i64 0, .int .i64 0, .int .i64 0] rfl rfl (HTE.out.at 0 rfl) (Nat.le_refl _) sizePos (by simp [Value.oneCell']) ?_
      refine hK.out _ _ trivial (fun _ => ?_)
      clear hK K
      (try simp only [Act.put, List.setIfInBounds_toArray, List.set_cons_zero, List.set_cons_succ])
      refine wpAnyH_ready (rs := [12]) (by kernel_rfl) (by simp) ?_
      refine held_cons rfl (fun K hK => ?_) AllReadyH.nil
      go_simp
      refine hK.out _ _ trivial (fun _ => ?_)
      clear hK K
      (try simp only [List.setIfInBounds_toArray, List.set_cons_zero, List.set_cons_succ])
      refine wpAnyH_done (by kernel_rfl) ?_ _
      have hb7 := Below.sets (b := L9) hge9 [.int .i64 0, .int .i64 0, .int .i64 0] 0 HTE.out.bel
      have H7 := Lib.hid (And.intro hb7 (And.intro (H5.out.1.next hb7) (And.intro (H5.out.2.1.turn (A' := fun k => k < (wx.setCells L9 0 [.int .i64 0, .int .i64 0, .int .i64 0]).heap.size) (fun k hk hl => ⟨Nat.lt_of_lt_of_le hl hb7.size, hb7.block k hl⟩)) (And.intro (Below.trans H5.out.2.2.1 (hb7.mono (Nat.le_of_lt H5.out.2.2.2.2))) (And.intro (H5.out.2.2.2.1.below hb7) (Nat.lt_of_lt_of_le H5.out.2.2.2.2 hb7.size))))))
      clear hb7 hge9 HTE H5
      generalize wx.setCells L9 0 [.int .i64 0, .int .i64 0, .int .i64 0] = w7 at *
      go_upto_region 7 with fail
      generalize u 3 = x3 at *
      have x0 := H7.out.2.1.cell (i := 0) rfl
      have x1 := H7.out.2.1.cell (i := 1) rfl
      have x2 := H7.out.2.1.cell (i := 2) rfl
      have x3 := H7.out.2.1.cell (i := 3) rfl
      have x4 := H7.out.2.1.cell (i := 4) rfl
      have x5 := H7.out.2.1.cell (i := 5) rfl
      have HTr := Lib.hid (Tr.nil w7)
      refine wp_region_webCR (w0 := w7) [.known (.agg #[.slice none 0 0, .slice none 0 0]), .known (.int .i64 nm), .rel (fun v W => ∃ (tp ep : Option Addr) (tc ec : Nat), v = .agg #[.slice tp 1 tc, .slice ep 1 ec] ∧ ROA (fun k => k < W.heap.size) W (.slice tp 1 tc) 19 1 (thC nm) ∧ ROA (fun k => k < W.heap.size) W (.slice ep 1 ec) 2 1 [.string ⟨#[80]⟩, .int .i64 nm]) (fun _ => []), .known (.agg #[.int .i64 4, .int .i64 0, .int .i64 0, .int .i64 0, .string ⟨#[43]⟩, .slice (some ⟨L, 0, none⟩) 2 2]), .rel (fun v W => ∃ (k4 op4 vw4 : Int) (vp4 ap4 : Option Addr) (vn4 vc4 an4 ac4 : Nat), v = .tuple #[.agg #[.int .i64 k4, .int .i64 op4, .int .i64 32, .int .i64 0, .int .i64 0, .bool false, .int .i64 vw4, .slice vp4 vn4 vc4, .slice ap4 an4 ac4], .agg #[.int .i64 0, .int .i64 0, .int .i64 0], .int .i64 0] ∧ TX nm (fun k => k < W.heap.size) W e [.int .i64 k4, .int .i64 op4, .int .i64 32, .int .i64 0, .int .i64 0, .bool false, .int .i64 vw4, .slice vp4 vn4 vc4, .slice ap4 an4 ac4]) (fun _ => []), .rel (fun v W => ∃ (k4 op4 vw4 : Int) (vp4 ap4 : Option Addr) (vn4 vc4 an4 ac4 : Nat), v = .tuple #[.agg #[.int .i64 k4, .int .i64 op4, .int .i64 32, .int .i64 0, .int .i64 0, .bool false, .int .i64 vw4, .slice vp4 vn4 vc4, .slice ap4 an4 ac4], .agg #[.int .i64 0, .int .i64 0, .int .i64 0], .int .i64 0] ∧ TX nm (fun k => k < W.heap.size) W e [.int .i64 k4, .int .i64 op4, .int .i64 32, .int .i64 0, .int .i64 0, .bool false, .int .i64 vw4, .slice vp4 vn4 vc4, .slice ap4 an4 ac4]) (fun _ => []), .rel (fun v W => ∃ (k4 op4 vw4 : Int) (vp4 ap4 : Option Addr) (vn4 vc4 an4 ac4 : Nat), v = .agg #[.int .i64 k4, .int .i64 op4, .int .i64 32, .int .i64 0, .int .i64 0, .bool false, .int .i64 vw4, .slice vp4 vn4 vc4, .slice ap4 an4 ac4] ∧ TX nm (fun k => k < W.heap.size) W e [.int .i64 k4, .int .i64 op4, .int .i64 32, .int .i64 0, .int .i64 0, .bool false, .int .i64 vw4, .slice vp4 vn4 vc4, .slice ap4 an4 ac4]) (fun _ => []), .rel (fun v W => v = .agg #[.int .i64 0, .int .i64 0, .int .i64 0]) (fun _ => []), .rel (fun v W => v = .int .i64 0) (fun _ => []), .box 42 [.int .i64 0, .int .i64 0, .int .i64 0, .int .i64 0, .int .i64 0, .bool false, .int .i64 0, .slice none 0 0, .slice none 0 0], .box 24 [.int .i64 0, .int .i64 0, .int .i64 0]] [1, 1, 1, 1, 1, 1, 1, 2, 2, 1, 1] [] 51 3 #[true, true, true, true, true, true, true, true, true, true, true, false, false, false] (by kernel_rfl) (by kernel_rfl) rfl rfl rfl (Nat.le_of_ble_eq_true rfl) ⟨Sp.Mono.known, Sp.Mono.known, (fun _ _ _ hb ⟨tp, ep, tc, ec, h1, h2, h3⟩ => ⟨tp, ep, tc, ec, h1, h2.turn fun k hk hl => ⟨Nat.lt_of_lt_of_le hl hb.size, hb.block k hl⟩, h3.turn fun k hk hl => ⟨Nat.lt_of_lt_of_le hl hb.size, hb.block k hl⟩⟩), Sp.Mono.known, (fun _ _ _ hb ⟨k4, op4, vw4, vp4, ap4, vn4, vc4, an4, ac4, h1, h2⟩ => ⟨k4, op4, vw4, vp4, ap4, vn4, vc4, an4, ac4, h1, h2.turn fun k hk hl => ⟨Nat.lt_of_lt_of_le hl hb.size, hb.block k hl⟩⟩), (fun _ _ _ hb ⟨k4, op4, vw4, vp4, ap4, vn4, vc4, an4, ac4, h1, h2⟩ => ⟨k4, op4, vw4, vp4, ap4, vn4, vc4, an4, ac4, h1, h2.turn fun k hk hl => ⟨Nat.lt_of_lt_of_le hl hb.size, hb.block k hl⟩⟩), (fun _ _ _ hb ⟨k4, op4, vw4, vp4, ap4, vn4, vc4, an4, ac4, h1, h2⟩ => ⟨k4, op4, vw4, vp4, ap4, vn4, vc4, an4, ac4, h1, h2.turn fun k hk hl => ⟨Nat.lt_of_lt_of_le hl hb.size, hb.block k hl⟩⟩), (fun _ _ _ _ h => h), (fun _ _ _ _ h => h), Sp.Mono.box, Sp.Mono.box, trivial⟩ HTr.out.drew (fun _ _ _ _ _ h => h) (A := ?_) ?_ ?_ ?_
      rotate_left
      · intro u
        simp only [fillC, Sp.val, Sp.box, Nat.reduceBEq, cond_false, Act.put, List.setIfInBounds_toArray, List.set_cons_zero, List.set_cons_succ]
        rfl
      iterate 2 (refine ob_yes (web_op (o := _) rfl (fun u W hT hd Q K hK => ?_)) ?_; · (go_simp; exact hK.out _ _ (Below.refl _ _) rfl (fun p hp => by cases hp) List.nodup_nil))
      refine ob_yes (web_op (o := _) rfl (fun u W hT hd Q K hK => ?_)) ?_
      · (try simp only [Act.put, List.setIfInBounds_toArray, List.set_cons_zero, List.set_cons_succ] at hK)
        have cc0 : W.cell? _ = some _ := After.cell x0 ⟨W, hT.bel⟩
        have cc1 : W.cell? _ = some _ := After.cell x1 ⟨W, hT.bel⟩
        have cc2 : W.cell? _ = some _ := After.cell x2 ⟨W, hT.bel⟩
        have cc3 : W.cell? _ = some _ := After.cell x3 ⟨W, hT.bel⟩
        have cc4 : W.cell? _ = some _ := After.cell x4 ⟨W, hT.bel⟩
        have cc5 : W.cell? _ = some _ := After.cell x5 ⟨W, hT.bel⟩
        go_simp
        refine (tconst_any nm).mono ?_; rintro r w9 ⟨tp, tc, ep, ec, rfl, h1, h2, hb9⟩
        exact hK.out _ _ hb9 ⟨tp, ep, tc, ec, rfl, h1.turn fun k hk hl => ⟨hl, rfl⟩, h2.turn fun k hk hl => ⟨hl, rfl⟩⟩ (fun p hp => by cases hp) List.nodup_nil
      (refine ob_yes (web_op (o := _) rfl (fun u W hT hd Q K hK => ?_)) ?_; · (have cc0 : W.cell? _ = some _ := After.cell x0 ⟨W, hT.bel⟩; have cc1 : W.cell? _ = some _ := After.cell x1 ⟨W, hT.bel⟩; have cc2 : W.cell? _ = some _ := After.cell x2 ⟨W, hT.bel⟩; have cc3 : W.cell? _ = some _ := After.cell x3 ⟨W, hT.bel⟩; have cc4 : W.cell? _ = some _ := After.cell x4 ⟨W, hT.bel⟩; have cc5 : W.cell? _ = some _ := After.cell x5 ⟨W, hT.bel⟩; go_simp; exact hK.out _ _ (Below.refl _ _) rfl (fun p hp => by cases hp) List.nodup_nil))
      refine ob_yes (web_op (o := _) rfl (fun u W hT hd Q K hK => ?_)) ?_
      · have d2 := hd 2 (by kernel_rfl)
        generalize u 2 = x2 at *
        obtain ⟨tp2, ep2, tc2, ec2, rfl, hv2a, hv2b⟩ := d2
        (try simp only [Act.put, List.setIfInBounds_toArray, List.set_cons_zero, List.set_cons_succ] at hK)
        have cc0 : W.cell? _ = some _ := After.cell x0 ⟨W, hT.bel⟩
        have cc1 : W.cell? _ = some _ := After.cell x1 ⟨W, hT.bel⟩
        have cc2 : W.cell? _ = some _ := After.cell x2 ⟨W, hT.bel⟩
        have cc3 : W.cell? _ = some _ := After.cell x3 ⟨W, hT.bel⟩
        have cc4 : W.cell? _ = some _ := After.cell x4 ⟨W, hT.bel⟩
        have cc5 : W.cell? _ = some _ := After.cell x5 ⟨W, hT.bel⟩
        go_simp
        refine (resolve_any HW.out.1 hv2a hv2b (H7.out.2.2.2.2.1.below hT.bel) (H7.out.2.2.1.turn (fun k hk hl => ⟨Nat.lt_of_lt_of_le hl hT.bel.size, hT.bel.block k hl⟩)) (Nat.le_trans HW.out.2 (by decide)) (Nat.le_trans (tsz_le e) (by have := HW.out.2; omega))).mono ?_; rintro r w9 ⟨cs, rfl, ht, hb9⟩
        obtain ⟨k4, op4, vw4, vp4, ap4, vn4, vc4, an4, ac4, e4⟩ := ht.form
        subst e4
        exact hK.out _ _ hb9 ⟨k4, op4, vw4, vp4, ap4, vn4, vc4, an4, ac4, rfl, ht.turn fun k hk hl => ⟨hl, rfl⟩⟩ (fun p hp => by cases hp) List.nodup_nil
      refine ob_yes (web_op (o := _) rfl (fun u W hT hd Q K hK => ?_)) ?_
      · have d4 := hd 4 (by kernel_rfl)
        generalize u 4 = x4 at *
        obtain ⟨k4, op4, vw4, vp4, ap4, vn4, vc4, an4, ac4, rfl, hv4⟩ := d4
        (try simp only [Act.put, List.setIfInBounds_toArray, List.set_cons_zero, List.set_cons_succ] at hK)
        have cc0 : W.cell? _ = some _ := After.cell x0 ⟨W, hT.bel⟩
        have cc1 : W.cell? _ = some _ := After.cell x1 ⟨W, hT.bel⟩
        have cc2 : W.cell? _ = some _ := After.cell x2 ⟨W, hT.bel⟩
        have cc3 : W.cell? _ = some _ := After.cell x3 ⟨W, hT.bel⟩
        have cc4 : W.cell? _ = some _ := After.cell x4 ⟨W, hT.bel⟩
        have cc5 : W.cell? _ = some _ := After.cell x5 ⟨W, hT.bel⟩
        go_simp
        exact hK.out _ _ (Below.refl _ _) ⟨k4, op4, vw4, vp4, ap4, vn4, vc4, an4, ac4, rfl, hv4⟩ (fun p hp => by cases hp) List.nodup_nil
      refine ob_yes (web_op (o := _) rfl (fun u W hT hd Q K hK => ?_)) ?_
      · have d5 := hd 5 (by kernel_rfl)
        generalize u 5 = x5 at *
        obtain ⟨k4, op4, vw4, vp4, ap4, vn4, vc4, an4, ac4, rfl, hv4⟩ := d5
        (try simp only [Act.put, List.setIfInBounds_toArray, List.set_cons_zero, List.set_cons_succ] at hK)
        have cc0 : W.cell? _ = some _ := After.cell x0 ⟨W, hT.bel⟩
        have cc1 : W.cell? _ = some _ := After.cell x1 ⟨W, hT.bel⟩
        have cc2 : W.cell? _ = some _ := After.cell x2 ⟨W, hT.bel⟩
        have cc3 : W.cell? _ = some _ := After.cell x3 ⟨W, hT.bel⟩
        have cc4 : W.cell? _ = some _ := After.cell x4 ⟨W, hT.bel⟩
        have cc5 : W.cell? _ = some _ := After.cell x5 ⟨W, hT.bel⟩
        go_simp
        exact hK.out _ _ (Below.refl _ _) ⟨k4, op4, vw4, vp4, ap4, vn4, vc4, an4, ac4, rfl, hv4⟩ (fun p hp => by cases hp) List.nodup_nil
      refine ob_pure (web_pure (o := _) rfl (fun u W hT hd => ?_)) ?_
      · have d5 := hd 5 (by kernel_rfl)
        generalize u 5 = x5 at *
        obtain ⟨k4, op4, vw4, vp4, ap4, vn4, vc4, an4, ac4, rfl, hv4⟩ := d5
        have cc0 : W.cell? _ = some _ := After.cell x0 ⟨W, hT.bel⟩
        have cc1 : W.cell? _ = some _ := After.cell x1 ⟨W, hT.bel⟩
        have cc2 : W.cell? _ = some _ := After.cell x2 ⟨W, hT.bel⟩
        have cc3 : W.cell? _ = some _ := After.cell x3 ⟨W, hT.bel⟩
        have cc4 : W.cell? _ = some _ := After.cell x4 ⟨W, hT.bel⟩
        have cc5 : W.cell? _ = some _ := After.cell x5 ⟨W, hT.bel⟩
        exact ⟨_, Or.inl ⟨rfl, fun w => rfl⟩, rfl, rfl⟩
      refine ob_pure (web_pure (o := _) rfl (fun u W hT hd => ?_)) ?_
      · have d5 := hd 5 (by kernel_rfl)
        generalize u 5 = x5 at *
        obtain ⟨k4, op4, vw4, vp4, ap4, vn4, vc4, an4, ac4, rfl, hv4⟩ := d5
        have cc0 : W.cell? _ = some _ := After.cell x0 ⟨W, hT.bel⟩
        have cc1 : W.cell? _ = some _ := After.cell x1 ⟨W, hT.bel⟩
        have cc2 : W.cell? _ = some _ := After.cell x2 ⟨W, hT.bel⟩
        have cc3 : W.cell? _ = some _ := After.cell x3 ⟨W, hT.bel⟩
        have cc4 : W.cell? _ = some _ := After.cell x4 ⟨W, hT.bel⟩
        have cc5 : W.cell? _ = some _ := After.cell x5 ⟨W, hT.bel⟩
        exact ⟨_, Or.inl ⟨rfl, fun w => rfl⟩, rfl, rfl⟩
      refine ob_yes (web_op (o := _) rfl (fun u W hT hd Q K hK => ?_)) ?_
      · (try simp only [Act.put, List.setIfInBounds_toArray, List.set_cons_zero, List.set_cons_succ] at hK)
        have cc0 : W.cell? _ = some _ := After.cell x0 ⟨W, hT.bel⟩
        have cc1 : W.cell? _ = some _ := After.cell x1 ⟨W, hT.bel⟩
        have cc2 : W.cell? _ = some _ := After.cell x2 ⟨W, hT.bel⟩
        have cc3 : W.cell? _ = some _ := After.cell x3 ⟨W, hT.bel⟩
        have cc4 : W.cell? _ = some _ := After.cell x4 ⟨W, hT.bel⟩
        have cc5 : W.cell? _ = some _ := After.cell x5 ⟨W, hT.bel⟩
        go_simp
        exact hK.out _ _ (Below.new _ _) ⟨_, rfl⟩ (fun p hp => by cases hp with | head => exact ⟨Blk.new 42 [.int .i64 0, .int .i64 0, .int .i64 0, .int .i64 0, .int .i64 0, .bool false, .int .i64 0, .slice none 0 0, .slice none 0 0], Nat.le_refl _⟩ | tail _ hp => cases hp) (by simp [ownAt, spAt, Sp.own, Sp.box])
      refine ob_yes (web_op (o := _) rfl (fun u W hT hd Q K hK => ?_)) ?_
      · (try simp only [Act.put, List.setIfInBounds_toArray, List.set_cons_zero, List.set_cons_succ] at hK)
        have cc0 : W.cell? _ = some _ := After.cell x0 ⟨W, hT.bel⟩
        have cc1 : W.cell? _ = some _ := After.cell x1 ⟨W, hT.bel⟩
        have cc2 : W.cell? _ = some _ := After.cell x2 ⟨W, hT.bel⟩
        have cc3 : W.cell? _ = some _ := After.cell x3 ⟨W, hT.bel⟩
        have cc4 : W.cell? _ = some _ := After.cell x4 ⟨W, hT.bel⟩
        have cc5 : W.cell? _ = some _ := After.cell x5 ⟨W, hT.bel⟩
        go_simp
        exact hK.out _ _ (Below.new _ _) ⟨_, rfl⟩ (fun p hp => by cases hp with | head => exact ⟨Blk.new 24 [.int .i64 0, .int .i64 0, .int .i64 0], Nat.le_refl _⟩ | tail _ hp => cases hp) (by simp [ownAt, spAt, Sp.own, Sp.box])
      exact ob_nil
      intro u wx hT hok
      obtain ⟨h0, h1, h2, h3, h4, h5, h6, h7, h8, h9, h10, _⟩ := hok
      clear h0 h1 h2 h3 h4 h5
      simp only [ownsC, Sp.own, Sp.box, Nat.reduceBEq, cond_false, List.nil_append, List.append_nil, Nat.zero_add, Nat.reduceAdd] at hT
      have d6 := h6 (by kernel_rfl)
      clear h6
      generalize u 6 = x6 at *
      obtain ⟨k6, op6, vw6, vp6, ap6, vn6, vc6, an6, ac6, rfl, hv6⟩ := d6
      have d7 := h7 (by kernel_rfl)
      clear h7
      generalize u 7 = x7 at *
      subst d7
      have d8 := h8 (by kernel_rfl)
      clear h8
      generalize u 8 = x8 at *
      subst d8
      have d9 := h9 (by kernel_rfl)
      clear h9
      generalize u 9 = x9 at *
      obtain ⟨L9, rfl⟩ := d9
      have d10 := h10 (by kernel_rfl)
      clear h10
      generalize u 10 = x10 at *
      obtain ⟨L10, rfl⟩ := d10
      (try dsimp only [List.nil_append, List.cons_append] at hT)
      have HTE := Lib.hid hT
      clear hT
      clear HTr x0 x1 x2 x3 x4 x5
      refine wpAny_of_held (S := fun _ => True) _ _ _ _ ?_
      have hge9 : w7.heap.size ≤ L9 := HTE.out.ge _ (List.mem_cons_self ..)
      have hge10 : w7.heap.size ≤ L10 := HTE.out.ge _ (List.mem_cons_of_mem _ (List.mem_cons_self ..))
      have hne : L9 ≠ L10 := by have h := HTE.out.nd; simp at h; exact h
      have htx := TX.ne (HTE.out.at 1 rfl) (fun j y h => by rcases j with _ | _ | _ | j <;> simp at h) (by decide) rfl (TX.ne (HTE.out.at 0 rfl) (fun j y h => by rcases j with _ | _ | _ | _ | _ | _ | _ | _ | _ | j <;> simp at h) (by decide) rfl hv6)
      refine wpAnyH_ready (rs := [11]) (by kernel_rfl) (by simp) ?_
      refine held_cons rfl (fun K hK => ?_) AllReadyH.nil
      refine step_store rfl _ _ _ rfl L9 [.int .i64 k6, .int .i64 op6, .int .i64 32, .int .i64 0, .int .i64 0, .bool false, .int .i64 vw6, .slice vp6 vn6 vc6, .slice ap6 an6 ac6] rfl rfl (HTE.out.at 0 rfl) (Nat.le_refl _) sizeTE (by simp [Value.oneCell']) ?_
      refine hK.out _ _ trivial (fun _ => ?_)
      clear hK K
      (try simp only [Act.put, List.setIfInBounds_toArray, List.set_cons_zero, List.set_cons_succ])
      have hk10 := (HTE.out.at 1 rfl).eqv (put_other (vs := [.int .i64 k6, .int .i64 op6, .int .i64 32, .int .i64 0, .int .i64 0, .bool false, .int .i64 vw6, .slice vp6 vn6 vc6, .slice ap6 an6 ac6]) (w := wx) (b := L9) (k := L10) (Ne.symm hne))
      have hk9 := (HTE.out.at 0 rfl).put [.int .i64 k6, .int .i64 op6, .int .i64 32, .int .i64 0, .int .i64 0, .bool false, .int .i64 vw6, .slice vp6 vn6 vc6, .slice ap6 an6 ac6] rfl
      have hbA := Below.sets (b := L9) hge9 [.int .i64 k6, .int .i64 op6, .int .i64 32, .int .i64 0, .int .i64 0, .bool false, .int .i64 vw6, .slice vp6 vn6 vc6, .slice ap6 an6 ac6] 0 HTE.out.bel
      have htA := TX.turn (A' := fun k => k ≠ L10) (w' := wx.setCells L9 0 [.int .i64 k6, .int .i64 op6, .int .i64 32, .int .i64 0, .int .i64 0, .bool false, .int .i64 vw6, .slice vp6 vn6 vc6, .slice ap6 an6 ac6]) (fun k h1 hl => ⟨h1.2, put_other h1.1.2⟩) htx
      change Blk (wx.setCells L9 0 [.int .i64 k6, .int .i64 op6, .int .i64 32, .int .i64 0, .int .i64 0, .bool false, .int .i64 vw6, .slice vp6 vn6 vc6, .slice ap6 an6 ac6]) _ _ _ at hk10
      generalize wx.setCells L9 0 [.int .i64 k6, .int .i64 op6, .int .i64 32, .int .i64 0, .int .i64 0, .bool false, .int .i64 vw6, .slice vp6 vn6 vc6, .slice ap6 an6 ac6] = wA at *
      clear hv6 htx HTE
      refine wpAnyH_ready (rs := [12]) (by kernel_rfl) (by simp) ?_
      refine held_cons rfl (fun K hK => ?_) AllReadyH.nil
      refine step_store rfl _ _ _ rfl L10 [.int .i64 0, .int .i64 0, .int .i64 0] rfl rfl hk10 (Nat.le_refl _) sizePos (by simp [Value.oneCell']) ?_
      refine hK.out _ _ trivial (fun _ => ?_)
      clear hK K
      (try simp only [Act.put, List.setIfInBounds_toArray, List.set_cons_zero, List.set_cons_succ])
      refine wpAnyH_ready (rs := [13]) (by kernel_rfl) (by simp) ?_
      refine held_cons rfl (fun K hK => ?_) AllReadyH.nil
      go_simp
      refine hK.out _ _ trivial (fun _ => ?_)
      clear hK K
      (try simp only [List.setIfInBounds_toArray, List.set_cons_zero, List.set_cons_succ])
      refine wpAnyH_done (by kernel_rfl) ?_ _
      have hbB := Below.sets (b := L10) hge10 [.int .i64 0, .int .i64 0, .int .i64 0] 0 hbA
      have H9 := Lib.hid (And.intro (hk9.eqv (put_other (vs := [.int .i64 0, .int .i64 0, .int .i64 0]) (w := wA) (b := L10) (k := L9) hne)) (And.intro (TX.turn (A' := fun k => k < (wA.setCells L10 0 [.int .i64 0, .int .i64 0, .int .i64 0]).heap.size) (w' := wA.setCells L10 0 [.int .i64 0, .int .i64 0, .int .i64 0]) (fun k h1 hl => ⟨by rw [setCells_size]; exact hl, put_other h1⟩) htA) (Below.trans H7.out.2.2.2.1 (hbB.mono (Nat.le_of_lt H7.out.2.2.2.2.2)))))
      clear hbA hbB hk9 hk10 htA hne hge9 hge10 H7
      generalize wA.setCells L10 0 [.int .i64 0, .int .i64 0, .int .i64 0] = w9 at *
      have c2 := H9.out.1.cell (i := 2) rfl
      go_upto_region 10 with fail
      clear c2
      obtain ⟨kn, hkn⟩ : ∃ x, kvN (evK nm e) = x := ⟨_, rfl⟩
      obtain ⟨ke, hke⟩ : ∃ x, kvE (evK nm e) = x := ⟨_, rfl⟩
      rw [hkn, hke]
      have HK := Lib.hid (And.intro hkn hke)
      clear hkn hke
      have HG := Lib.hid (show w9.rangeAt L9 0 [.int .i64 k6, .int .i64 op6, .int .i64 32, .int .i64 0, .int .i64 0, .bool false, .int .i64 vw6, .slice vp6 vn6 vc6, .slice ap6 an6 ac6] from fun j u hj => by rw [Nat.zero_add]; exact H9.out.1.cell hj)
      go_wp2_with ((refine wpList_load_mid rfl 42 _ rfl L9 0 rfl [.int .i64 k6, .int .i64 op6, .int .i64 32, .int .i64 0, .int .i64 0, .bool false, .int .i64 vw6, .slice vp6 vn6 vc6, .slice ap6 an6 ac6] _ HG.out Tryz.underlying42 rfl sizeTE ?_))
      refine (eval_tx (nm := nm) (B := w9.heap.size) (Nat.le_refl _) HW.out.1 H9.out.2.1 w9 (Below.refl _ _)).mono ?_
      rintro r w10 ⟨pv, cv, rfl, hv, hb10⟩
      have hn := Below.new w10 (.cells #[.int .i64 32, .slice pv 1 cv] 39)
      have hb11 := Below.next hb10 hn
      have H11 := Lib.hid (And.intro (Blk.new (w := w10) 39 [.int .i64 32, .slice pv 1 cv]) (And.intro (hv.1.below hn) (Below.trans H9.out.2.2 (hb11.mono H9.out.2.2.size))))
      clear hn hb11 hv hb10 HG
      obtain ⟨b13, hb13⟩ : ∃ x, w10.heap.size = x := ⟨_, rfl⟩
      rw [hb13] at H11
      change Hid (Blk (w10.alloc (.cells #[.int .i64 32, .slice pv 1 cv] 39)) _ _ _ ∧ _) at H11
      go_upto_region 11 with fail
      generalize (w10.alloc (.cells #[.int .i64 32, .slice pv 1 cv] 39)) = w11 at *
      clear hb13
      have c0 := H11.out.1.cell (i := 0) rfl
      have c1 := H11.out.1.cell (i := 1) rfl
      have hcs : (ke = 3 ∧ evK nm e = none) ∨ ∃ v, evK nm e = some v ∧ kn = v ∧ ke = 0 := by have h1 := HK.out.1; have h2 := HK.out.2; rcases h : evK nm e with _ | v <;> rw [h] at h1 h2; exact .inl ⟨h2.symm, rfl⟩; exact .inr ⟨v, rfl, h1.symm, h2.symm⟩
      clear HK
      rcases hcs with ⟨rfl, hev⟩ | ⟨v, hev, rfl, rfl⟩
      · clear hev
        go_wp2_with fail
        refine (width_any H11.out.2.1).mono ?_
        rintro r w12 ⟨rfl, hb12⟩
        go_wp2_with fail
        go_ret
        exact ⟨rfl, Below.trans H11.out.2.2 (hb12.mono H11.out.2.2.size)⟩
      · have HV := Lib.hid hev
        clear hev
        obtain ⟨n, hn⟩ : ∃ n : Nat, (n : Int) = kn % 18446744073709551616 := ⟨(kn % 18446744073709551616).toNat, by omega⟩
        have hwr : IntKind.u64.wrap kn = (n : Int) := by rw [hn]; rfl
        have HNN := Lib.hid (show n < 18446744073709551616 ∧ n % 2 ^ 32 = lo32 kn from ⟨by omega, by have := lo32_cast kn; omega⟩)
        clear hn
        go_wp2_with fail
        refine (new_32 (w := w11) n HNN.out.1 55).mono ?_
        rintro r w12 ⟨vn, rfl, hv2, hb12, hf12⟩
        clear c0 c1 hf12
        rw [HNN.out.2] at hv2
        obtain ⟨pw, cw, ew, _⟩ := hv2.ex
        replace ew : vn = .agg #[.int .i64 32, .slice pw 1 cw] := ew
        subst ew
        have hn1 := Below.new w11 (.cells #[.int .u64 (n : Nat)] 55)
        have hn2 := Below.new w12 (.cells #[.int .i64 32, .slice pw 1 cw] 39)
        have hb13 := Below.next (Below.next hn1 hb12) hn2
        have H13 := Lib.hid (And.intro (H11.out.1.next hb13) (And.intro (Blk.new (w := w12) 39 [.int .i64 32, .slice pw 1 cw]) (And.intro (H11.out.2.1.below hb13) (And.intro (hv2.below hn2) (Below.trans H11.out.2.2 (hb13.mono H11.out.2.2.size))))))
        clear hn1 hn2 hb13 hb12 hv2
        obtain ⟨b14, hb14⟩ : ∃ x, w12.heap.size = x := ⟨_, rfl⟩
        rw [hb14] at H13
        change Hid (Blk (w12.alloc (.cells #[.int .i64 32, .slice pw 1 cw] 39)) _ _ _ ∧ _) at H13
        go_upto_region 14 with fail
        generalize (w12.alloc (.cells #[.int .i64 32, .slice pw 1 cw] 39)) = w13 at *
        clear hb14
        have c0 := H13.out.1.cell (i := 0) rfl
        have c1 := H13.out.1.cell (i := 1) rfl
        have e0 := H13.out.2.1.cell (i := 0) rfl
        have e1 := H13.out.2.1.cell (i := 1) rfl
        go_wp2_with fail
        refine (equal_any H13.out.2.2.1 H13.out.2.2.2.1).mono ?_
        rintro r w14 ⟨rfl, hb15⟩
        have hq : decide (32 = 32 ∧ evN (lo32 nm) e = lo32 kn) = true := decide_eq_true ⟨rfl, ev_lo HW.out.1 HV.out⟩
        rw [hq]
        go_wp2_with fail
        go_ret
        exact ⟨rfl, Below.trans H13.out.2.2.2.2 (hb15.mono H13.out.2.2.2.2.size)⟩
end Go.Proofs.YtkoggfahjlnecaaGreatDoor
