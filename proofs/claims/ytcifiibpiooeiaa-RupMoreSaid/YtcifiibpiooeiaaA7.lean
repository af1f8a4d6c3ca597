import Derived.Test.YtcifiibpiooeiaaA6
import Derived.Deep.RegionLaw
namespace Go.Proofs.Ytcifiibpiooeiaa
set_option linter.unusedVariables false
open Go.RowKit

/-- a list that is read, whose memory lies outside F -/
def RC (F : Nat → Prop) (w : World) (s : Option Addr × Nat × Nat) (l : List Int) : Prop :=
  s.2.1 = l.length ∧ ∀ j u, (ints l)[j]? = some u → ∃ b o, s.1 = some ⟨b, o, none⟩ ∧ ¬ F b ∧ w.cell? ⟨b, o + j, none⟩ = some u
theorem RC.ro {F : Nat → Prop} {w : World} {s : Option Addr × Nat × Nat} {l : List Int} (h : RC F w s l) : RO w (slv s) 1 l.length (ints l) := by
  refine ⟨by simp [ints], s.1, s.2.2, by unfold slv; rw [h.1], fun j u hj => ?_⟩
  obtain ⟨b, o, e, _, hc⟩ := h.2 j u hj
  exact ⟨b, o, e, hc⟩
theorem RC.upd {F F' : Nat → Prop} {w w' : World} {s : Option Addr × Nat × Nat} {l : List Int} (h : RC F w s l) (hu : Upd F F' w w') : RC F' w' s l := by
  refine ⟨h.1, fun j u hj => ?_⟩
  obtain ⟨b, o, e, hn, hc⟩ := h.2 j u hj
  have hlt := World.block_lt_of_cell? _ _ hc
  refine ⟨b, o, e, fun hF => ?_, ?_⟩
  · rcases hu.sub b hF with h' | h'
    · exact hn h'
    · exact absurd hlt (by show ¬ b < _; omega)
  · rw [← hc]; exact World.cell?_of_block (hu.block b hlt hn)
theorem RC.below {F : Nat → Prop} {w w' : World} {s : Option Addr × Nat × Nat} {l : List Int} (h : RC F w s l) (hb : Below w.heap.size w w') : RC F w' s l := h.upd (Upd.below hb)
theorem RC.avoid {F F' : Nat → Prop} {w : World} {s : Option Addr × Nat × Nat} {l : List Int} (h : RC F w s l) (hF : ∀ k, k < w.heap.size → F' k → F k) : RC F' w s l := by
  refine ⟨h.1, fun j u hj => ?_⟩
  obtain ⟨b, o, e, hn, hc⟩ := h.2 j u hj
  exact ⟨b, o, e, fun h' => hn (hF b (World.block_lt_of_cell? _ _ hc) h'), hc⟩

/-- the blocks that a formula writes: its struct, and its list of clauses -/
def foot (bc : Nat) (sv : Value) (k : Nat) : Prop := k = bc ∨ sv.ownBlock = some k
structure CAt (w : World) (bc : Nat) (sv : Value) (sls : List (Option Addr × Nat × Nat)) (v : Nat) (cls : List (List Int)) : Prop where
  blk : Blk w bc 59 [.int .i64 v, sv]
  own : w.ownsRow 0 23 1 sv cls.length (slvs sls)
  ne : sv.ownBlock ≠ some bc
  len : sls.length = cls.length
  rd : ∀ i, i < cls.length → RC (foot bc sv) w (sls.getD i default) (cls.getD i [])
/-- a formula in memory: v variables, the clauses cls; F: what it writes; A: what its clauses' literals lie outside of -/
def HasC (A : Nat → Prop) (w : World) (bc : Nat) (F : Nat → Prop) (v : Nat) (cls : List (List Int)) : Prop := ∃ sv sls, CAt w bc sv sls v cls ∧ F = foot bc sv ∧ ∀ i, i < cls.length → RC A w (sls.getD i default) (cls.getD i [])
theorem CAt.lt {w : World} {bc : Nat} {sv : Value} {sls v cls} (h : CAt w bc sv sls v cls) : ∀ k, foot bc sv k → k < w.heap.size := by
  rintro k (rfl | hk)
  · exact h.blk.lt
  · rcases h.own.2 with ⟨rfl, _⟩ | ⟨g, cap, cur, rfl, _, hg, _⟩
    · cases hk
    · cases hk; exact (Array.getElem?_eq_some_iff.1 hg).1
theorem CAt.upd {F F' : Nat → Prop} {w w' : World} {bc : Nat} {sv : Value} {sls v cls} (h : CAt w bc sv sls v cls) (hu : Upd F F' w w') (hF : ∀ k, foot bc sv k → ¬ F k)
    (hr : ∀ i, i < cls.length → RC F w (sls.getD i default) (cls.getD i [])) : CAt w' bc sv sls v cls := by
  have hb : ∀ k, foot bc sv k → w'.heap[k]? = w.heap[k]? := fun k hk => hu.block k (h.lt k hk) (hF k hk)
  refine ⟨(hb bc (.inl rfl)).trans h.blk, ownsRow_keep h.own fun k hk => hb k (.inr hk), h.ne, h.len, fun i hi => ?_⟩
  refine ⟨(h.rd i hi).1, fun j u hj => ?_⟩
  obtain ⟨b, o, e, hn, hc⟩ := (h.rd i hi).2 j u hj
  obtain ⟨b', o', e', hn', hc'⟩ := (hr i hi).2 j u hj
  rw [e] at e'; cases e'
  exact ⟨b, o, e, hn, by rw [← hc]; exact World.cell?_of_block (hu.block b (World.block_lt_of_cell? _ _ hc) hn')⟩
theorem CAt.below {w w' : World} {bc : Nat} {sv : Value} {sls v cls} (h : CAt w bc sv sls v cls) {B : Nat} (hb : Below B w w') (hB : w.heap.size ≤ B) : CAt w' bc sv sls v cls := by
  have hb' := hb.mono hB
  refine ⟨h.blk.below hb' h.blk.lt, ownsRow_below h.own hb', h.ne, h.len, fun i hi => (h.rd i hi).below hb'⟩
theorem HasC.below {A : Nat → Prop} {w w' : World} {bc : Nat} {F v cls} (h : HasC A w bc F v cls) (hb : Below w.heap.size w w') : HasC A w' bc F v cls := by
  obtain ⟨sv, sls, h, rfl, ha⟩ := h
  exact ⟨sv, sls, h.below hb (Nat.le_refl _), rfl, fun i hi => (ha i hi).below hb⟩
theorem HasC.lt {A : Nat → Prop} {w : World} {bc : Nat} {F v cls} (h : HasC A w bc F v cls) : ∀ k, F k → k < w.heap.size := by
  obtain ⟨sv, sls, h, rfl, _⟩ := h
  exact h.lt

/-- the plain side of a formula -/
structure WFC (v : Nat) (cls : List (List Int)) : Prop where
  hv : v ≤ 60000
  n : cls.length ≤ 200000
  l : ∀ i, i < cls.length → SS (cls.getD i []) ∧ (∀ x ∈ cls.getD i [], x ≠ 0 ∧ x.natAbs ≤ v) ∧ taut (cls.getD i []) = false ∧ (cls.getD i []).length ≤ 1000

/-- a box that is no formula's is written -/
theorem HasC.keep {A B : Nat → Prop} {w w' : World} {bc : Nat} {F v cls} (h : HasC A w bc F v cls) (hu : Upd B B w w') (hF : ∀ k, F k → ¬ B k) (hB : ∀ k, B k → A k) : HasC A w' bc F v cls := by
  obtain ⟨sv, sls, h, rfl, ha⟩ := h
  refine ⟨sv, sls, h.upd hu hF fun i hi => (ha i hi).avoid fun k _ hk => hB k hk, rfl, fun i hi => ?_⟩
  refine ⟨(ha i hi).1, fun j u hj => ?_⟩
  obtain ⟨b, o, e, hn, hc⟩ := (ha i hi).2 j u hj
  exact ⟨b, o, e, hn, by rw [← hc]; exact World.cell?_of_block (hu.block b (World.block_lt_of_cell? _ _ hc) fun h' => hn (hB b h'))⟩

def newV (n : Int) : Nat := (max 0 (min n 60000)).toNat
theorem newV_int (n : Int) : ((newV n : Nat) : Int) = max 0 (min n 60000) := by unfold newV; omega
set_option maxHeartbeats 1000000 in
theorem new_any (n : Int) (w : World) : Calls Try.prog 22 #[.int .i64 n] w fun e w' => e = .returned (.pointer (some ⟨w.heap.size, 0, none⟩)) ∧ w' = w.alloc (.cells #[.int .i64 (newV n), .slice none 0 0] 59) := by
  go_enter Try.func22, Try.ntmps22
  go_wp2_with fail
  go_ret
  exact ⟨rfl, by rw [newV_int]⟩
theorem new_has (A : Nat → Prop) (n : Int) (w : World) : HasC A (w.alloc (.cells #[.int .i64 (newV n), .slice none 0 0] 59)) w.heap.size (foot w.heap.size (.slice none 0 0)) (newV n) [] :=
  ⟨.slice none 0 0, [], ⟨Blk.new 59 [.int .i64 (newV n), .slice none 0 0], World.ownsRow_nil _ _ _ _, by simp [Value.ownBlock], rfl, fun i hi => absurd hi (by simp)⟩, rfl, fun i hi => absurd hi (by simp)⟩

/-! the small methods -/
theorem CAt.c0 {w : World} {bc : Nat} {sv : Value} {sls v cls} (h : CAt w bc sv sls v cls) : w.cell? ⟨bc, 0, none⟩ = some (.int .i64 v) := h.blk.cell (i := 0) rfl
theorem CAt.c1 {w : World} {bc : Nat} {sv : Value} {sls v cls} (h : CAt w bc sv sls v cls) : w.cell? ⟨bc, 1, none⟩ = some sv := h.blk.cell (i := 1) rfl
set_option maxHeartbeats 1000000 in
theorem vars_any {A : Nat → Prop} {w : World} {bc : Nat} {F v cls} (h : HasC A w bc F v cls) : Calls Try.prog 33 #[.pointer (some ⟨bc, 0, none⟩)] w fun e w' => e = .returned (.int .i64 v) ∧ w = w' := by
  obtain ⟨sv, sls, h, _⟩ := h
  have h0 := h.c0
  clear h
  go_enter Try.func33, Try.ntmps33
  go_wp2_with fail
  go_ret
  exact ⟨rfl, rfl⟩
set_option maxHeartbeats 1000000 in
theorem len_any {A : Nat → Prop} {w : World} {bc : Nat} {F v cls} (h : HasC A w bc F v cls) : Calls Try.prog 45 #[.pointer (some ⟨bc, 0, none⟩)] w fun e w' => e = .returned (.int .i64 (cls.length : Nat)) ∧ w = w' := by
  obtain ⟨sv, sls, h, _⟩ := h
  obtain ⟨p, c, rfl⟩ := ownsRow_form h.own
  have h0 := h.c1
  clear h
  go_enter Try.func45, Try.ntmps45
  go_wp2_with fail
  go_ret
  exact ⟨rfl, rfl⟩
/-- is a number a literal of one of v variables? -/
def known (v : Nat) (x : Int) : Bool := decide (x ≠ 0 ∧ x.natAbs ≤ v)
set_option maxHeartbeats 1000000 in
theorem known_any {A : Nat → Prop} {w : World} {bc : Nat} {F v cls} (h : HasC A w bc F v cls) (hv : v ≤ 60000) (x : Int) : Calls Try.prog 31 #[.pointer (some ⟨bc, 0, none⟩), .int .i64 x] w fun e w' => e = .returned (.bool (known v x)) ∧ w = w' := by
  obtain ⟨sv, sls, h, _⟩ := h
  have h0 := h.c0
  have hw : IntKind.i64.wrap (-(v : Int)) = -(v : Int) := i64_of (by omega)
  have HV := Lib.hid hv
  clear h hv
  go_enter Try.func31, Try.ntmps31
  by_cases hx : x = 0
  · subst hx
    go_wp2_with fail
    go_ret
    exact ⟨rfl, rfl⟩
  · have hd : (x != 0) = true := by simp [hx]
    have HX := Lib.hid hx
    clear hx
    by_cases h1 : -(v : Int) ≤ x
    · by_cases h2 : x ≤ (v : Int)
      · have HK := Lib.hid (And.intro h1 h2)
        go_wp2_with fail
        go_ret
        exact ⟨by rw [show known v x = true by unfold known; exact decide_eq_true ⟨HX.out, by have := HK.out; omega⟩]; rfl, rfl⟩
      · have h2' : (v : Int) < x := by omega
        have HK := Lib.hid h2
        have hd2 : decide (x ≤ (v : Int)) = false := decide_eq_false h2
        clear h2
        go_wp2_with fail
        go_ret
        exact ⟨by rw [show known v x = false by unfold known; exact decide_eq_false fun hh => by have := HK.out; omega]; rfl, rfl⟩
    · have h1' : x < -(v : Int) := by omega
      have HK := Lib.hid h1
      have hd1 : decide (-(v : Int) ≤ x) = false := decide_eq_false h1
      clear h1
      go_wp2_with fail
      go_ret
      exact ⟨by rw [show known v x = false by unfold known; exact decide_eq_false fun hh => by have := HK.out; omega]; rfl, rfl⟩
set_option maxHeartbeats 1000000 in
/-- Add's closure -/
theorem add1_any {A : Nat → Prop} {w : World} {bx bc : Nat} {F v cls} (h : HasC A w bc F v cls) (hv : v ≤ 60000) (hx : w.cell? ⟨bx, 0, none⟩ = some (.pointer (some ⟨bc, 0, none⟩))) (x : Int) :
    Calls Try.prog 30 #[.int .i64 x, .pointer (some ⟨bx, 0, none⟩)] w fun e w' => e = .returned (.bool (!(known v x))) ∧ w = w' := by
  have HK := Lib.hid (known_any h hv x)
  obtain ⟨q, hq⟩ : ∃ q, known v x = q := ⟨_, rfl⟩
  rw [hq] at HK ⊢
  clear h hv hq
  go_enter Try.func30, Try.ntmps30
  go_wp2_with fail
  refine HK.out.mono ?_; rintro e w' ⟨rfl, rfl⟩
  go_wp2_with fail
  go_ret
  exact ⟨rfl, rfl⟩
end Go.Proofs.Ytcifiibpiooeiaa
