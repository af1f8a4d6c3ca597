import Derived.Test.YtkoggfahjlnecaaGreatDoorC13
import Derived.Laws.Rows
namespace Go.Proofs.YtkoggfahjlnecaaGreatDoor
set_option linter.unusedVariables false
open Go.RowKit Go.Sort

/-! # typed.Scope.find -/
def putAt : List Value → Nat → List Value → List Value
  | l, _, [] => l
  | l, o, v :: r => putAt (l.set o v) (o + 1) r
theorem putAt_at : ∀ (vs : List Value) (o : Nat) (l : List Value), o + vs.length ≤ l.length → putAt l o vs = l.take o ++ vs ++ l.drop (o + vs.length)
  | [], o, l, _ => by simp [putAt]
  | v :: r, o, l, h => by
    have ho : o < l.length := by simp only [List.length_cons] at h; omega
    have h' : o + 1 + r.length ≤ (l.set o v).length := by rw [List.length_set]; simp only [List.length_cons] at h; omega
    rw [putAt, putAt_at r (o + 1) _ h']
    have e1 : (l.set o v).take (o + 1) = l.take o ++ [v] := by
      apply List.ext_getElem?
      intro q
      rw [List.getElem?_take, List.getElem?_set, List.getElem?_append, List.length_take, List.getElem?_take]
      by_cases h1 : q < o
      · have h2 : q < min o l.length := by omega
        rw [if_pos (by omega), if_neg (by omega), if_pos h2, if_pos h1]
      · have h2 : ¬ q < min o l.length := by omega
        rw [if_neg h2]
        by_cases h3 : q = o
        · subst h3
          rw [if_pos (by omega), if_pos rfl, if_pos ho, show q - min q l.length = 0 by omega]; rfl
        · rw [if_neg (by omega)]
          rw [List.getElem?_eq_none (by simp only [List.length_singleton]; omega)]
    have e2 : (l.set o v).drop (o + 1 + r.length) = l.drop (o + (r.length + 1)) := by
      apply List.ext_getElem?
      intro q
      rw [List.getElem?_drop, List.getElem?_drop, List.getElem?_set, if_neg (by omega), show o + 1 + r.length + q = o + (r.length + 1) + q by omega]
    rw [e1, e2, List.length_cons]
    simp
theorem putAt_all {vs l : List Value} (h : vs.length = l.length) : putAt l 0 vs = vs := by
  rw [putAt_at vs 0 l (by omega)]
  simp [h]
theorem Blk.sets {b t : Nat} : ∀ (vs : List Value) (o : Nat) {w : World} {l : List Value}, Blk w b t l → Blk (w.setCells b o vs) b t (putAt l o vs)
  | [], _, _, _, h => h
  | v :: r, o, _, _, h => Blk.sets r (o + 1) (h.set o v)
theorem Blk.put {w : World} {b t : Nat} {l : List Value} (h : Blk w b t l) (vs : List Value) (hl : vs.length = l.length) : Blk (w.setCells b 0 vs) b t vs := by
  have h2 := Blk.sets vs 0 h
  rwa [putAt_all hl] at h2
theorem Below.sets {B b : Nat} {a : World} (hb : B ≤ b) : ∀ (vs : List Value) (o : Nat) {w : World}, Below B a w → Below B a (w.setCells b o vs)
  | [], _, _, h => h
  | v :: r, o, _, h => Below.sets hb r (o + 1) (Below.setCell h (p := ⟨b, o, none⟩) hb v)
set_option maxRecDepth 100000 in
theorem tname_any {w : World} {b : Nat} (n : Int) (hc : w.cell? ⟨b, 0, none⟩ = some (.string ⟨#[80]⟩)) : Calls Tryz.prog 134 #[.agg #[.string ⟨#[80]⟩, .int .i64 1, .int .i64 n, .string ⟨#[]⟩, .int .i64 0, .bool false, .int .i64 0, .slice none 0 0, .int .i64 0, .bool false, .int .i64 0, .int .i64 0, .int .i64 0, .int .i64 0, .int .i64 0, .bool false, .int .i64 0, .slice none 0 0, .slice none 0 0], .pointer (some ⟨b, 0, none⟩)] w fun e w' => e = .returned (.bool true) ∧ Below w.heap.size w w' := by
  have hlt := World.block_lt_of_cell? _ _ hc
  go_enter Tryz.func134, Tryz.ntmps134
  go_wp2_with fail
  go_ret
  exact ⟨rfl, (Below.refl _ _).alloc (Nat.le_refl _) _⟩
set_option maxRecDepth 100000 in
theorem tindex_one {w : World} {b : Nat} {p : Option Addr} {c : Nat} {n : Int} {A : Nat → Prop} (hr : ROA A w (.slice p 1 c) 19 1 (thC n)) (hc : w.cell? ⟨b, 0, none⟩ = some (.string ⟨#[80]⟩)) : Calls Tryz.prog 75 #[.slice p 1 c, .func (Fn.func 134) #[] #[.pointer (some ⟨b, 0, none⟩)]] w fun e w' => e = .returned (.int .i64 0) ∧ Below w.heap.size w w' := by
  obtain ⟨q, o, rfl⟩ := hr.sl (j := 0) rfl
  have HC := Lib.hid (And.intro hr hc)
  clear hr hc
  go_enter Tryz.func75, Tryz.ntmps75
  go_wp2_with fail
  go_loopw [8] (fun iv wr => iv = .int .i64 0 ∧ Below w.heap.size w wr) (fun _ _ => 0)
  case atStart => exact ⟨rfl, Below.refl _ _⟩
  case round =>
    obtain ⟨rfl, hb⟩ := hrel
    have hrg : wr.rangeAt q o (thC n) := fun j u hj => (hb.cell (World.block_lt_of_cell? _ _ (HC.out.1.ro.cell hj))).trans (HC.out.1.ro.cell hj)
    have HK := Lib.hid (tname_any (w := wr) n ((hb.cell (World.block_lt_of_cell? _ _ HC.out.2)).trans HC.out.2))
    have HB := Lib.hid (And.intro hb hrg)
    clear hb hrg
    go_wp2_with (refine wpList_load_mid rfl 81 _ rfl q o rfl (thC n) _ HB.out.2 Tryz.underlying81 rfl sizeTh ?_)
    refine HK.out.mono ?_; rintro e w2 ⟨rfl, hb2⟩
    have HF := Lib.hid (HB.out.1.trans (hb2.mono HB.out.1.size))
    clear hb2
    go_wp2_with fail
    go_ret
    exact ⟨rfl, HF.out⟩
set_option maxRecDepth 100000 in
theorem tfind_any {w : World} {p ep : Option Addr} {c ec : Nat} {n : Int} {A : Nat → Prop} (hr : ROA A w (.slice p 1 c) 19 1 (thC n)) : Calls Tryz.prog 101 #[.agg #[.slice p 1 c, .slice ep 1 ec], .string ⟨#[80]⟩] w fun e w' => e = .returned (.agg #[.string ⟨#[80]⟩, .int .i64 1, .int .i64 n, .string ⟨#[]⟩, .int .i64 0, .bool false, .int .i64 0, .slice none 0 0, .int .i64 0, .bool false, .int .i64 0, .int .i64 0, .int .i64 0, .int .i64 0, .int .i64 0, .bool false, .int .i64 0, .slice none 0 0, .slice none 0 0]) ∧ Below w.heap.size w w' := by
  have g1 := Below.new w (.cells #[.slice p 1 c, .slice ep 1 ec] 47)
  have g2 := Below.new (w.alloc (.cells #[.slice p 1 c, .slice ep 1 ec] 47)) (.cells #[.string ⟨#[80]⟩] 9)
  have g3 := Below.new ((w.alloc (.cells #[.slice p 1 c, .slice ep 1 ec] 47)).alloc (.cells #[.string ⟨#[80]⟩] 9)) (.cells #[.string ⟨#[]⟩, .int .i64 0, .int .i64 0, .string ⟨#[]⟩, .int .i64 0, .bool false, .int .i64 0, .slice none 0 0, .int .i64 0, .bool false, .int .i64 0, .int .i64 0, .int .i64 0, .int .i64 0, .int .i64 0, .bool false, .int .i64 0, .slice none 0 0, .slice none 0 0] 81)
  have gg := Below.next (Below.next g1 g2) g3
  have hr3 := hr.turn (A' := fun _ => True) fun b _ hl => ⟨trivial, gg.block b hl⟩
  have H := Lib.hid (And.intro ((Blk.new (w := w) 47 [.slice p 1 c, .slice ep 1 ec]).next (Below.next g2 g3)) (And.intro ((Blk.new (w := (w.alloc (.cells #[.slice p 1 c, .slice ep 1 ec] 47))) 9 [.string ⟨#[80]⟩]).next g3) (And.intro (Blk.new (w := ((w.alloc (.cells #[.slice p 1 c, .slice ep 1 ec] 47)).alloc (.cells #[.string ⟨#[80]⟩] 9))) 81 [.string ⟨#[]⟩, .int .i64 0, .int .i64 0, .string ⟨#[]⟩, .int .i64 0, .bool false, .int .i64 0, .slice none 0 0, .int .i64 0, .bool false, .int .i64 0, .int .i64 0, .int .i64 0, .int .i64 0, .int .i64 0, .bool false, .int .i64 0, .slice none 0 0, .slice none 0 0]) (And.intro gg hr3))))
  simp only [World.size_alloc] at H
  clear g1 g2 g3 gg hr hr3
  go_enter Tryz.func101, Tryz.ntmps101
  go_upto_region 1 with fail
  change Hid (Blk (((w.alloc (.cells #[.slice p 1 c, .slice ep 1 ec] 47)).alloc (.cells #[.string ⟨#[80]⟩] 9)).alloc (.cells #[.string ⟨#[]⟩, .int .i64 0, .int .i64 0, .string ⟨#[]⟩, .int .i64 0, .bool false, .int .i64 0, .slice none 0 0, .int .i64 0, .bool false, .int .i64 0, .int .i64 0, .int .i64 0, .int .i64 0, .int .i64 0, .bool false, .int .i64 0, .slice none 0 0, .slice none 0 0] 81)) _ _ _ ∧ _) at H
  generalize (((w.alloc (.cells #[.slice p 1 c, .slice ep 1 ec] 47)).alloc (.cells #[.string ⟨#[80]⟩] 9)).alloc (.cells #[.string ⟨#[]⟩, .int .i64 0, .int .i64 0, .string ⟨#[]⟩, .int .i64 0, .bool false, .int .i64 0, .slice none 0 0, .int .i64 0, .bool false, .int .i64 0, .int .i64 0, .int .i64 0, .int .i64 0, .int .i64 0, .bool false, .int .i64 0, .slice none 0 0, .slice none 0 0] 81)) = w1 at *
  obtain ⟨b0, hb0⟩ : ∃ b, w.heap.size = b := ⟨_, rfl⟩
  obtain ⟨b1, hb1⟩ : ∃ b, b0 + 1 = b := ⟨_, rfl⟩
  obtain ⟨b2, hb2⟩ : ∃ b, b1 + 1 = b := ⟨_, rfl⟩
  rw [hb0] at H ⊢
  rw [hb1] at H ⊢
  rw [hb2] at H ⊢
  have HB := Lib.hid (And.intro hb0 (And.intro hb1 hb2))
  clear hb0 hb1 hb2
  have v0 := H.out.1.cell (i := 0) rfl
  have HI := Lib.hid (tindex_one H.out.2.2.2.2 (H.out.2.1.cell (i := 0) rfl))
  go_wp2_with fail
  refine HI.out.mono ?_; rintro e w2 ⟨rfl, hbi⟩
  have hs1 : b0 ≤ w1.heap.size := Nat.le_of_lt H.out.1.lt
  have H2 := Lib.hid (And.intro (H.out.1.next hbi) (And.intro (H.out.2.2.1.next hbi) (And.intro (Below.trans H.out.2.2.2.1 (hbi.mono hs1)) (H.out.2.2.2.2.turn (A' := fun _ => True) (w' := w2) fun b _ hl => ⟨trivial, hbi.block b hl⟩))))
  clear v0 hbi hs1 HI H
  have v0 := H2.out.1.cell (i := 0) rfl
  obtain ⟨q, o, rfl⟩ := H2.out.2.2.2.sl (j := 0) rfl
  have HG : Hid (w2.rangeAt q o (thC n)) := Lib.hid fun j u hj => H2.out.2.2.2.ro.cell hj
  have HT : Hid (w2.there b2 0 19) := Lib.hid fun j hj => by
    rw [Nat.zero_add]
    exact ⟨by rw [H2.out.2.1.cell (List.getElem?_eq_getElem hj)]; rfl, H2.out.2.1.frz j⟩
  go_wp2_with ((first | (refine wpList_load_mid rfl 81 _ rfl q o rfl (thC n) _ HG.out Tryz.underlying81 rfl sizeTh ?_) | (refine wpList_store_mid rfl 81 _ _ rfl b2 0 (thC n).toArray rfl rfl HT.out sizeTh (by kernel_rfl) ?_)))
  have hk9 := H2.out.2.1.put (thC n) rfl
  have hb9 := Below.sets (b := b2) (by have := HB.out; omega) (thC n) 0 H2.out.2.2.1
  generalize w2.setCells b2 0 (thC n) = w9 at *
  exact bodyPost_ret (v := .agg (thC n).toArray) (results_cell_row rfl _ _ b2 _ _ _ _ rfl hk9 Tryz.underlying81 rfl sizeTh) rfl ⟨rfl, by rw [HB.out.1]; exact hb9⟩
end Go.Proofs.YtkoggfahjlnecaaGreatDoor
