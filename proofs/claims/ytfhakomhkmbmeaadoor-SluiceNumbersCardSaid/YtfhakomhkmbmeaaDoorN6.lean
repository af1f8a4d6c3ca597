import Derived.Test.YtfhakomhkmbmeaaDoorN5
import Derived.Laws.Externs
import Derived.Lib.ItoaLen
namespace Go.Proofs.YtfhakomhkmbmeaaDoor
set_option linter.unusedVariables false
open Go.RowKit Go.Sort

theorem tab_below {P : Program} {w w' : World} {name : String} {k : IntKind} {zs : List Int} (h : Lib.TabIs P w name k zs) (hb : Below w.heap.size w w') : Lib.TabIs P w' name k zs := by
  unfold Lib.TabIs World.var? at h ⊢
  cases hg : P.globalNamed name with
  | none => rw [hg] at h; simp at h
  | some g =>
    rw [hg] at h
    simp only [Option.bind_some] at h ⊢
    have hlt : g < w.heap.size := by
      rcases Nat.lt_or_ge g w.heap.size with h' | h'
      · exact h'
      · rw [Array.getElem?_eq_none h'] at h; simp at h
    rw [hb.block g hlt]
    exact h
theorem grow_below (B : Nat) (w : World) (os : Array Obj) (hB : B ≤ w.heap.size) : Below B w (grow w os) :=
  ⟨rfl, rfl, rfl, by simp [grow], fun k hk => by simp only [grow]; rw [Array.getElem?_append_left (by omega)]⟩
theorem below_drewK {B : Nat} {w : World} (n : Nat) : Below B w (w.drewN n) := ⟨rfl, rfl, rfl, Nat.le_refl _, fun _ _ => rfl⟩
theorem bytes_ext {a b : ByteArray} (h : a.data.toList = b.data.toList) : a = b := by
  obtain ⟨⟨a⟩⟩ := a; obtain ⟨⟨b⟩⟩ := b
  simp at h; rw [h]
/-- the search's variable is laid -/
def Max (w : World) : Prop := ∃ m, w.cell? ⟨0, 0, none⟩ = some (.int .i64 m)
theorem Max.below {w w' : World} (h : Max w) (hb : Below w.heap.size w w') : Max w' := by
  obtain ⟨m, hm⟩ := h
  exact ⟨m, (hb.cell (World.block_lt_of_cell? _ _ hm)).trans hm⟩
def Tab (w : World) : Prop := Lib.TabIs Tryd.prog w "internal/strconv.uint64pow10" .u64 Lib.pow10Tab
/-- a number's value in memory -/
def litV (n : Nat) (p : Option Addr) (c : Nat) (sg sz : Bool) : Value := .agg #[.int .i64 n, .slice p (wcount n) c, .bool sg, .bool sz]
/-- the text of a number with a width -/
def textD (n : Nat) (sg : Bool) (x : Nat) : List UInt8 := Lib.itoa (n : Int) ++ 39 :: ((if sg then [115] else []) ++ 104 :: hexL (hexDs n x))
set_option maxRecDepth 100000 in
set_option maxHeartbeats 2000000 in
theorem plain_sized {w : World} {n : Nat} {p : Option Addr} {c : Nat} (sg : Bool) : Calls Tryd.prog 36 #[.agg #[.int .i64 n, .slice p (wcount n) c, .bool sg, .bool true]] w fun e w' => e = .returned (.bool false) ∧ Below w.heap.size w w' := by
  have hb := Below.new w (.cells #[.int .i64 n, .slice p (wcount n) c, .bool sg, .bool true] 29)
  have HB := Lib.hid hb
  clear hb
  cases sg
  · go_enter Tryd.func36, Tryd.ntmps36
    go_wp2_with fail
    go_ret
    exact ⟨rfl, HB.out⟩
  · go_enter Tryd.func36, Tryd.ntmps36
    go_wp2_with fail
    go_ret
    exact ⟨rfl, HB.out⟩
set_option maxRecDepth 100000 in
set_option maxHeartbeats 4000000 in
theorem ltext_any {w : World} {n x : Nat} {p : Option Addr} {c : Nat} (sg : Bool) (hA : VR w (.agg #[.int .i64 n, .slice p (wcount n) c]) n x) (hn : 0 < n) (ht : Tab w) :
    Calls Tryd.prog 10 #[.agg #[.int .i64 n, .slice p (wcount n) c, .bool sg, .bool true]] w fun e w' => e = .returned (.string ⟨(textD n sg x).toArray⟩) ∧ Below w.heap.size w w' := by
  have hle := hA.le
  have hni : (n : Int) ≤ 128 := by omega
  have hn0 : ((n : Int) == 0) = false := by simp; omega
  have hb0 := Below.new w (.cells #[.int .i64 n, .slice p (wcount n) c, .bool sg, .bool true] 29)
  have hk0 := Blk.new (w := w) 29 [.int .i64 n, .slice p (wcount n) c, .bool sg, .bool true]
  have HW : Hid (∀ w', Below w.heap.size w w' → Calls Tryd.prog 5 #[.agg #[.int .i64 n, .slice p (wcount n) c]] w' fun e w'' => e = .returned (.int .i64 n) ∧ Below w'.heap.size w' w'') := Lib.hid fun w' hb => width_any (hA.below hb)
  have HX : Hid (∀ w', Below w.heap.size w w' → Calls Tryd.prog 39 #[.agg #[.int .i64 n, .slice p (wcount n) c]] w' fun e w'' => e = .returned (.string ⟨(hexL (hexDs n x)).toArray⟩) ∧ Below w'.heap.size w' w'') := Lib.hid fun w' hb => hex_any (hA.below hb) hn
  have HI : Hid (∀ w', Below w.heap.size w w' → Calls Tryd.prog 37 #[.int .i64 n] w' fun e w'' => e = .returned (.string ⟨(Lib.itoa (n : Int)).toArray⟩) ∧ Below w'.heap.size w' w'') := Lib.hid fun w' hb => (Tryd.strconv_Itoa (n : Int) (by omega) (by omega) w' (tab_below ht hb)).mono fun e w'' ⟨he, k, os, hw⟩ => ⟨he, by rw [hw]; exact (below_drewK k).trans (grow_below _ _ os (Nat.le_refl _))⟩
  obtain ⟨D, hD⟩ : ∃ D, hexL (hexDs n x) = D := ⟨_, rfl⟩
  obtain ⟨I, hI⟩ : ∃ I, Lib.itoa (n : Int) = I := ⟨_, rfl⟩
  have hT : ∀ q, textD n q x = I ++ 39 :: ((if q then [115] else []) ++ 104 :: D) := fun q => by rw [textD, hD, hI]
  have hDl : (D.length : Int) ≤ 32 := by have h := hexF_len x ((n - 1) / 4 + 1) []; rw [← hD]; simp only [hexL, List.length_map, hexDs]; simp only [List.length_nil] at h; omega
  have hIl : (I.length : Int) ≤ 21 := by have := Lib.itoa_length_le (n : Int) (by omega) (by omega); rw [hI] at this; omega
  rw [hD] at HX
  rw [hI] at HI
  have HT := Lib.hid hT
  have HB := Lib.hid (And.intro hb0 hk0)
  clear hA hn ht hle hb0 hk0 hD hI hT
  go_enter Tryd.func10, Tryd.ntmps10
  go_wp2_with fail
  generalize w.alloc (.cells #[.int .i64 n, .slice p (wcount n) c, .bool sg, .bool true] 29) = W at *
  refine (HW.out _ HB.out.1).mono ?_; rintro e w1 ⟨rfl, hb1⟩
  have hbw1 := HB.out.1.trans (hb1.mono HB.out.1.size)
  have hk1 := HB.out.2.next hb1
  have c0 := hk1.cell (i := 0) rfl
  have c1 := hk1.cell (i := 1) rfl
  have c2 := hk1.cell (i := 2) rfl
  have c3 := hk1.cell (i := 3) rfl
  have H1 := Lib.hid (And.intro hbw1 hk1)
  have HPl := Lib.hid (plain_sized (w := w1) (n := n) (p := p) (c := c) sg)
  clear hb1 hbw1 hk1 HB
  go_wp2_with fail
  refine HPl.out.mono ?_; rintro e w2 ⟨rfl, hb2⟩
  clear c0 c1 c2 c3
  have hbw2 := H1.out.1.trans (hb2.mono H1.out.1.size)
  have hk2 := H1.out.2.next hb2
  have c2 := hk2.cell (i := 2) rfl
  have c3 := hk2.cell (i := 3) rfl
  have H2 := Lib.hid (And.intro hbw2 hk2)
  clear hb2 hbw2 hk2 HPl H1
  go_wp2_with fail
  refine (HI.out _ H2.out.1).mono ?_; rintro e w3 ⟨rfl, hb3⟩
  clear c2 c3
  have hbw3 := H2.out.1.trans (hb3.mono H2.out.1.size)
  have hk3 := H2.out.2.next hb3
  have c0 := hk3.cell (i := 0) rfl
  have c1 := hk3.cell (i := 1) rfl
  have c2 := hk3.cell (i := 2) rfl
  have H3 := Lib.hid hbw3
  clear hb3 hbw3 hk3 H2
  cases sg
  · have HCat : Hid (((⟨I.toArray⟩ ++ ⟨#[39]⟩ : ByteArray) ++ ⟨#[104]⟩) ++ ⟨D.toArray⟩ = ⟨(textD n false x).toArray⟩) := Lib.hid (bytes_ext (by rw [HT.out]; simp))
    go_wp2_with fail
    refine (HX.out _ H3.out).mono ?_; rintro e w4 ⟨rfl, hb4⟩
    have H4 := Lib.hid (H3.out.trans (hb4.mono H3.out.size))
    clear hb4
    go_wp2_with fail
    go_ret
    exact ⟨congrArg (fun b => Ending.returned (Value.string b)) HCat.out, H4.out⟩
  · have HCat : Hid ((((⟨I.toArray⟩ ++ ⟨#[39]⟩ : ByteArray) ++ ⟨#[115]⟩) ++ ⟨#[104]⟩) ++ ⟨D.toArray⟩ = ⟨(textD n true x).toArray⟩) := Lib.hid (bytes_ext (by rw [HT.out]; simp))
    go_wp2_with fail
    refine (HX.out _ H3.out).mono ?_; rintro e w4 ⟨rfl, hb4⟩
    have H4 := Lib.hid (H3.out.trans (hb4.mono H3.out.size))
    clear hb4
    go_wp2_with fail
    go_ret
    exact ⟨congrArg (fun b => Ending.returned (Value.string b)) HCat.out, H4.out⟩
end Go.Proofs.YtfhakomhkmbmeaaDoor
