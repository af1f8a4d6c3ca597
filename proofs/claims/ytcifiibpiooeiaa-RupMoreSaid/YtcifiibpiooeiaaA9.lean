import Derived.Test.YtcifiibpiooeiaaA8
import Derived.Laws.EntriesVeiled
namespace Go.Proofs.Ytcifiibpiooeiaa
set_option linter.unusedVariables false
open Go.RowKit

/-- the clause at i; none beyond -/
def clsI (cls : List (List Int)) (i : Int) : List Int := if 0 ≤ i ∧ i < cls.length then cls.getD i.toNat [] else []
theorem clsI_nat (cls : List (List Int)) (i : Nat) (h : i < cls.length) : clsI cls i = cls.getD i [] := by
  unfold clsI; rw [if_pos ⟨by omega, by omega⟩]; simp
/-- a list of numbers in memory of the call's own -/
def RetI (w : World) (l : List Int) (e : Ending) (w' : World) : Prop := ∃ v, e = .returned v ∧ w'.ownsRow w.heap.size 3 1 v l.length (ints l) ∧ Below w.heap.size w w'

set_option maxHeartbeats 2000000 in
theorem clause_any {A : Nat → Prop} {w : World} {bc : Nat} {F v cls} (h : HasC A w bc F v cls) (hw : WFC v cls) (i : Int) :
    Calls Try.prog 46 #[.pointer (some ⟨bc, 0, none⟩), .int .i64 i] w (RetI w (clsI cls i)) := by
  obtain ⟨sv, sls, h, _⟩ := h
  obtain ⟨p, c, rfl⟩ := ownsRow_form h.own
  have h1 := h.c1
  by_cases h0 : i < 0
  · have e0 : clsI cls i = [] := by unfold clsI; rw [if_neg (by omega)]
    rw [e0]
    clear h
    go_enter Try.func46, Try.ntmps46
    go_wp2_with fail
    go_ret
    exact ⟨_, rfl, World.ownsRow_nil _ _ _ _, Below.refl _ _⟩
  · by_cases hn : i < cls.length
    · obtain ⟨k, rfl⟩ : ∃ k : Nat, i = k := ⟨i.toNat, by omega⟩
      have hk : k < cls.length := by omega
      rw [clsI_nat cls k hk]
      obtain ⟨N, hN⟩ : ∃ N, cls.length = N := ⟨_, rfl⟩
      have hr := h.rd k hk
      have hat := slvs_at sls k (by rw [h.len]; exact hk)
      have hro := RO.own h.own
      obtain ⟨b, o, rfl⟩ := hro.sl hat
      have hc := hro.cell hat
      have HC := clone_ints (w := w) hr.ro (ints_one _) (by have := (hw.l k hk).2.2.2; omega)
      rw [hN] at h1 hn
      unfold slv at hc HC
      generalize (sls.getD k default).1 = s1 at hc HC
      generalize (sls.getD k default).2.1 = s2 at hc HC
      generalize (sls.getD k default).2.2 = s3 at hc HC
      replace HC := Lib.hid HC
      clear h hw hr hat hro hk h0 hN
      go_enter Try.func46, Try.ntmps46
      go_wp2_with fail
      refine HC.out.mono ?_; rintro e w1 ⟨v1, rfl, hr, hb1⟩
      have HX := Lib.hid (And.intro hr hb1)
      obtain ⟨p1, c1, rfl⟩ := ownsRow_form hr
      clear hr hb1
      go_wp2_with fail
      go_ret
      exact ⟨_, rfl, HX.out.1, HX.out.2⟩
    · have e0 : clsI cls i = [] := by unfold clsI; rw [if_neg (by omega)]
      rw [e0]
      obtain ⟨N, hN⟩ : ∃ N, cls.length = N := ⟨_, rfl⟩
      rw [hN] at h1 hn
      have hn' : (N : Int) ≤ i := by omega
      have h0' : 0 ≤ i := by omega
      clear h hn h0 hN
      go_enter Try.func46, Try.ntmps46
      go_wp2_with fail
      go_ret
      exact ⟨_, rfl, World.ownsRow_nil _ _ _ _, Below.refl _ _⟩

/-- does a literal hold? -/
def litB (mb : List Bool) (x : Int) : Bool := (decide (x.natAbs ≤ mb.length) && mb.getD (x.natAbs - 1) false) == decide (0 < x)
def holdsB (mb : List Bool) (cls : List (List Int)) : Bool := cls.all fun l => l.any (litB mb)
set_option maxHeartbeats 2000000 in
theorem lit_any {w : World} {bx m cm : Nat} {pm : Option Addr} {mb : List Bool} (hm : RO w (.slice pm m cm) 1 m (bools mb)) (hml : mb.length = m) (hx : w.cell? ⟨bx, 0, none⟩ = some (.slice pm m cm)) (x : Int) (h0 : x ≠ 0) (hb : x.natAbs ≤ 60000) :
    Calls Try.prog 49 #[.int .i64 x, .pointer (some ⟨bx, 0, none⟩)] w fun e w' => e = .returned (.bool (litB mb x)) ∧ w = w' := by
  have HO := Lib.hid (of_any x (by omega) w)
  obtain ⟨a, ha⟩ : ∃ a, x.natAbs = a := ⟨_, rfl⟩
  rw [ha] at HO
  have ha1 : 1 ≤ a := by omega
  have H := Lib.hid (And.intro hm (And.intro hml ha))
  have hwr : IntKind.i64.wrap ((a : Int) - 1) = ((a - 1 : Nat) : Int) := by rw [i64_of (by omega)]; omega
  by_cases hle : a ≤ m
  · have hat := bools_at mb (a - 1) (by omega)
    obtain ⟨b, o, rfl⟩ := hm.sl hat
    have hc := hm.cell hat
    obtain ⟨q, hq⟩ : ∃ q, mb.getD (a - 1) false = q := ⟨_, rfl⟩
    rw [hq] at hc
    obtain ⟨k, hk⟩ : ∃ k, a - 1 = k := ⟨_, rfl⟩
    rw [hk] at hc hwr
    have hkm : (k : Int) < m := by omega
    have hli : (a : Int) ≤ m := by omega
    have e : litB mb x = (q == decide (0 < x)) := by
      unfold litB; rw [ha, hml, hq, decide_eq_true hle, Bool.true_and]
    rw [e]
    clear hm hml h0 hb ha ha1 hle hat hq hk e
    go_enter Try.func49, Try.ntmps49
    go_wp2_with fail
    refine HO.out.mono ?_; rintro e w' ⟨rfl, rfl⟩
    go_wp2_with fail
    go_ret
    exact ⟨rfl, rfl⟩
  · have hli : (m : Int) < a := by omega
    have hd : decide ((a : Int) ≤ m) = false := decide_eq_false (by omega)
    have e : litB mb x = (false == decide (0 < x)) := by
      unfold litB; rw [ha, hml, decide_eq_false hle, Bool.false_and]
    rw [e]
    clear hm hml h0 hb ha ha1 hle e
    go_enter Try.func49, Try.ntmps49
    go_wp2_with fail
    refine HO.out.mono ?_; rintro e w' ⟨rfl, rfl⟩
    go_wp2_with fail
    go_ret
    exact ⟨by simp, rfl⟩
set_option maxHeartbeats 2000000 in
theorem clausef_any {w : World} {bx bz m cm : Nat} {pm : Option Addr} {mb : List Bool} (hm : RO w (.slice pm m cm) 1 m (bools mb)) (hml : mb.length = m) (hx : w.cell? ⟨bx, 0, none⟩ = some (.slice pm m cm))
    (hz : w.cell? ⟨bz, 0, none⟩ = some (.func (.func 49) #[] #[.pointer (some ⟨bx, 0, none⟩)])) {v : Value} {l : List Int} (hl : RO w v 1 l.length (ints l)) (hb : ∀ x ∈ l, x ≠ 0 ∧ x.natAbs ≤ 60000) (hn : l.length ≤ 1000000000000) :
    Calls Try.prog 52 #[v, .pointer (some ⟨bz, 0, none⟩)] w fun e w' => e = .returned (.bool (!(l.any (litB mb)))) ∧ w = w' := by
  have HC := Lib.hid (contains_any 49 #[.pointer (some ⟨bx, 0, none⟩)] (litB mb) (enters_of Try.func49 (by kernel_rfl) rfl) hl hn (fun x hx' => lit_any hm hml hx x (hb x hx').1 (hb x hx').2))
  obtain ⟨p, c, rfl⟩ := hl.form
  obtain ⟨q, hq⟩ : ∃ q, l.any (litB mb) = q := ⟨_, rfl⟩
  rw [hq] at HC ⊢
  clear hm hml hx hl hb hn hq
  go_enter Try.func52, Try.ntmps52
  go_wp2_with fail
  refine HC.out.mono ?_; rintro e w' ⟨rfl, rfl⟩
  go_wp2_with fail
  go_ret
  exact ⟨rfl, rfl⟩

theorem all_range (cls : List (List Int)) (p : List Int → Bool) : (!((List.range cls.length).any fun j => !(p (cls.getD j [])))) = cls.all p := by
  rw [Bool.eq_iff_iff]
  simp only [Bool.not_eq_true', List.any_eq_false, List.all_eq_true, List.mem_range]
  constructor
  · intro h x hx
    obtain ⟨i, hi, e⟩ := List.getElem_of_mem hx
    have := h i hi
    simpa [List.getD, List.getElem?_eq_getElem hi, e] using this
  · intro h i hi
    simpa using h _ (show cls.getD i [] ∈ cls by simp [List.getD, List.getElem?_eq_getElem hi])
set_option maxHeartbeats 2000000 in
theorem holds_any {A : Nat → Prop} {w : World} {bc : Nat} {F v cls} (h : HasC A w bc F v cls) (hw : WFC v cls) {mv : Value} {mb : List Bool} (hm : RO w mv 1 mb.length (bools mb)) :
    Calls Try.prog 21 #[.pointer (some ⟨bc, 0, none⟩), mv] w fun e w' => e = .returned (.bool (holdsB mb cls)) ∧ Below w.heap.size w w' := by
  obtain ⟨pm, cm, rfl⟩ := hm.form
  obtain ⟨m, hml⟩ : ∃ m, mb.length = m := ⟨_, rfl⟩
  rw [hml] at hm ⊢
  have hb1 := Below.new w (.cells #[.slice pm m cm] 37)
  have hB1 : Blk (w.alloc (.cells #[.slice pm m cm] 37)) w.heap.size 37 [.slice pm m cm] := Blk.new _ _
  obtain ⟨W1, hW1⟩ : ∃ W1, w.alloc (.cells #[.slice pm m cm] 37) = W1 := ⟨_, rfl⟩
  rw [hW1] at hb1 hB1
  have hs1 : W1.heap.size = w.heap.size + 1 := by rw [← hW1]; simp
  have hb2 := Below.new W1 (.cells #[.func (.func 49) #[] #[.pointer (some ⟨w.heap.size, 0, none⟩)]] 62)
  have hB2 : Blk (W1.alloc (.cells #[.func (.func 49) #[] #[.pointer (some ⟨w.heap.size, 0, none⟩)]] 62)) W1.heap.size 62 [.func (.func 49) #[] #[.pointer (some ⟨w.heap.size, 0, none⟩)]] := Blk.new _ _
  have hB1' := hB1.next hb2
  obtain ⟨W2, hW2⟩ : ∃ W2, W1.alloc (.cells #[.func (.func 49) #[] #[.pointer (some ⟨w.heap.size, 0, none⟩)]] 62) = W2 := ⟨_, rfl⟩
  rw [hW2] at hb2 hB2 hB1'
  have hbw : Below w.heap.size w W2 := Below.next hb1 hb2
  obtain ⟨sv, sls, hC, _⟩ := h.below hbw
  obtain ⟨ps, cs, rfl⟩ := ownsRow_form hC.own
  have hro := RO.own hC.own
  have HC := containsl_any (w := W2) 52 #[.pointer (some ⟨W1.heap.size, 0, none⟩)] (fun j => !((cls.getD j []).any (litB mb))) (enters_of Try.func52 (by kernel_rfl) rfl) hro hC.len (by have := hw.n; omega)
    (fun j hj => clausef_any (hm.below hbw) hml (hB1'.cell (i := 0) rfl) (hB2.cell (i := 0) rfl) (hC.rd j hj).ro (fun x hx => ⟨((hw.l j hj).2.1 x hx).1, by have := ((hw.l j hj).2.1 x hx).2; have := hw.hv; omega⟩) (by have := (hw.l j hj).2.2.2; omega))
  have he : (!((List.range cls.length).any fun j => !((cls.getD j []).any (litB mb)))) = holdsB mb cls := all_range cls (fun l => l.any (litB mb))
  obtain ⟨q, hq⟩ : ∃ q, ((List.range cls.length).any fun j => !((cls.getD j []).any (litB mb))) = q := ⟨_, rfl⟩
  rw [hq] at he HC
  rw [← he]
  have h1 := hC.c1
  have HCC := Lib.hid HC
  have HB := Lib.hid hbw
  obtain ⟨N, hN⟩ : ∃ N, cls.length = N := ⟨_, rfl⟩
  rw [hN] at HCC h1
  rw [hs1] at HCC
  clear h hw hm hml hb1 hB1 hb2 hB2 hB1' hbw hC hro HC he hq hN hs1
  subst hW1
  go_enter Try.func21, Try.ntmps21
  go_upto_region 2 with fail
  clear hW2
  go_wp2_with fail
  refine HCC.out.mono ?_; rintro e w' ⟨rfl, rfl⟩
  go_wp2_with fail
  go_ret
  exact ⟨rfl, HB.out⟩
end Go.Proofs.Ytcifiibpiooeiaa
