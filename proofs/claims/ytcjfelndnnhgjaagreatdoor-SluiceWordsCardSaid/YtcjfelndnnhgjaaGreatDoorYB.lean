/- Texts of this claim, one behind another: X6, X7, X8. They state lemmas; each names its own conditions. -/
import Derived.Test.YtcjfelndnnhgjaaGreatDoorYA
import Derived.Test.YtcjfelndnnhgjaaGreatDoorZ7
import Derived.Deep.RegionWith
import Derived.Test.YtcjfelndnnhgjaaGreatDoorZF
namespace Go.Proofs.YtcjfelndnnhgjaaGreatDoor
set_option linter.unusedVariables false
open Go.RowKit

/-! # lex.move -/
def mvP (p : Nat × Nat) (b : UInt8) : Nat × Nat := if b = 10 then (p.1 + 1, 1) else (p.1, p.2 + 1)
def mvL (p : Nat × Nat) (l : Bs) : Nat × Nat := l.foldl mvP p
theorem mvL_snoc (p : Nat × Nat) (l : Bs) (b : UInt8) : mvL p (l ++ [b]) = mvP (mvL p l) b := by simp [mvL]
theorem mvL_app (p : Nat × Nat) (l l' : Bs) : mvL p (l ++ l') = mvL (mvL p l) l' := by simp [mvL]
theorem mvP_le (p : Nat × Nat) (b : UInt8) : (mvP p b).1 ≤ p.1 + 1 ∧ (mvP p b).2 ≤ p.2 + 1 := by unfold mvP; split <;> simp
theorem mvL_le : ∀ (l : Bs) (p : Nat × Nat), (mvL p l).1 ≤ p.1 + l.length ∧ (mvL p l).2 ≤ p.2 + l.length
  | [], p => by simp [mvL]
  | b :: l, p => by
    have h1 := mvL_le l (mvP p b)
    have h2 := mvP_le p b
    have e : mvL p (b :: l) = mvL (mvP p b) l := rfl
    rw [e]; simp only [List.length_cons]; omega
theorem take_data {s : ByteArray} {k : Nat} (h : k < s.size) : s.data.toList.take (k + 1) = s.data.toList.take k ++ [s[k]] := by
  have h' : k < s.data.toList.length := by simpa using h
  rw [List.take_add_one, List.getElem?_eq_getElem h']
  simp [ByteArray.getElem_eq_getElem_data]
set_option maxRecDepth 100000 in
set_option maxHeartbeats 4000000 in
theorem move_any (f : Int) (l c : Nat) (s : ByteArray) (hs : s.size ≤ 1000000) (hl : l ≤ 1000000000) (hc : c ≤ 1000000000) (w : World) :
    Calls Tryz.prog 32 #[.agg #[.int .i64 f, .int .i64 l, .int .i64 c], .string s] w fun e w' => e = .returned (.agg #[.int .i64 f, .int .i64 (mvL (l, c) s.data.toList).1, .int .i64 (mvL (l, c) s.data.toList).2]) ∧ Below w.heap.size w w' := by
  have hb1 := Below.new w (.cells #[.int .i64 f, .int .i64 l, .int .i64 c] 32)
  have hk1 := Blk.new (w := w) 32 [.int .i64 f, .int .i64 l, .int .i64 c]
  have hb2 := Below.next hb1 (Below.new _ (.cells #[.int .i64 0, .int .i64 0, .int .i64 0] 32))
  have hk2 := Blk.new (w := w.alloc (.cells #[.int .i64 f, .int .i64 l, .int .i64 c] 32)) 32 [.int .i64 0, .int .i64 0, .int .i64 0]
  have hk1' := hk1.next (Below.new _ (.cells #[.int .i64 0, .int .i64 0, .int .i64 0] 32))
  have HH := Lib.hid (And.intro hb2 (And.intro hk1' (And.intro hk2 hs)))
  have hsi : (s.size : Int) ≤ 1000000 := by omega
  clear hb1 hb2 hk1 hk2 hk1' hs
  go_enter Tryz.func32, Tryz.ntmps32
  go_wp2_with fail
  go_loopw [8] (fun iv wr => ∃ k : Nat, k ≤ s.size ∧ iv = .int .i64 k ∧ Below w.heap.size w wr ∧ Blk wr w.heap.size 32 [.int .i64 f, .int .i64 (mvL (l, c) (s.data.toList.take k)).1, .int .i64 (mvL (l, c) (s.data.toList.take k)).2] ∧ Blk wr (w.heap.size + 1) 32 [.int .i64 0, .int .i64 0, .int .i64 0]) (fun iv _ => s.size - (intOf iv).toNat)
  case atStart => exact ⟨0, Nat.zero_le _, rfl, HH.out.1, HH.out.2.1, by have h := HH.out.2.2.1; rwa [show (w.alloc (.cells #[.int .i64 f, .int .i64 l, .int .i64 c] 32)).heap.size = w.heap.size + 1 from Array.size_push _] at h⟩
  case round =>
    obtain ⟨k, hk, rfl, hbel, hB, hR⟩ := hrel
    have HR := Lib.hid (And.intro hbel (And.intro hB hR))
    have k1 := hB.cell (i := 1) rfl
    have k2 := hB.cell (i := 2) rfl
    have k0 := hB.cell (i := 0) rfl
    have f1 := hB.frz 1
    have f2 := hB.frz 2
    have hle := mvL_le (s.data.toList.take k) (l, c)
    have hlt : (s.data.toList.take k).length ≤ 1000000 := by
      have h1 := List.length_take_le k s.data.toList
      have h2 := HH.out.2.2.2
      omega
    simp only at hle
    obtain ⟨q, hq⟩ : ∃ q, mvL (l, c) (s.data.toList.take k) = q := ⟨_, rfl⟩
    obtain ⟨a, b⟩ := q
    have HQ := Lib.hid hq
    rw [hq] at hle
    simp only [hq] at k1 k2 HR
    simp only at hle k1 k2 HR
    have ha : (a : Int) ≤ 2000000000 := by omega
    have hb : (b : Int) ≤ 2000000000 := by omega
    clear hq hle hlt hbel hB hR
    by_cases hks : k < s.size
    · have hsn := mvL_snoc (l, c) (s.data.toList.take k) s[k]
      rw [← take_data hks, HQ.out] at hsn
      have HS := Lib.hid hsn
      have hki : (k : Int) < s.size := by omega
      have w1 : IntKind.i64.wrap ((b : Int) + 1) = (b : Int) + 1 := L.i64_of (by omega)
      have w2 : IntKind.i64.wrap ((a : Int) + 1) = (a : Int) + 1 := L.i64_of (by omega)
      have w3 : IntKind.i64.wrap ((k : Int) + 1) = (k : Int) + 1 := L.i64_of (by omega)
      clear hsn
      by_cases h10 : s[k].toNat = 10
      · have h10i : (s[k].toNat : Int) = 10 := by omega
        have hm : mvP (a, b) s[k] = (a + 1, 1) := by unfold mvP; rw [if_pos (UInt8.toNat_inj.1 h10)]
        go_wp2_with fail
        go_roundw
        case rel =>
          refine ⟨k + 1, hks, by go_num, ((HR.out.1.setCell (Nat.le_refl _) _).setCell (Nat.le_refl _) _).setCell (Nat.le_refl _) _, ?_, ((HR.out.2.2.other _ (Nat.succ_ne_self _)).other _ (Nat.succ_ne_self _)).other _ (Nat.succ_ne_self _)⟩
          rw [HS.out, hm]
          exact ((HR.out.2.1.set 2 _).set 1 _).set 2 _
        case measure => simp [intOf]; omega
      · have h10i : ¬ (s[k].toNat : Int) = 10 := by omega
        have hm : mvP (a, b) s[k] = (a, b + 1) := by unfold mvP; rw [if_neg (fun h => h10 (by rw [h]; rfl))]
        go_wp2_with fail
        go_roundw
        case rel =>
          refine ⟨k + 1, hks, by go_num, HR.out.1.setCell (Nat.le_refl _) _, ?_, HR.out.2.2.other _ (Nat.succ_ne_self _)⟩
          rw [HS.out, hm]
          exact HR.out.2.1.set 2 _
        case measure => simp [intOf]; omega
    · obtain rfl : k = s.size := by omega
      have r0 := HR.out.2.2.cell (i := 0) rfl
      have r1 := HR.out.2.2.cell (i := 1) rfl
      have r2 := HR.out.2.2.cell (i := 2) rfl
      have g0 := HR.out.2.2.frz 0
      have g1 := HR.out.2.2.frz 1
      have g2 := HR.out.2.2.frz 2
      have htk : s.data.toList.take s.size = s.data.toList := List.take_of_length_le (by simp)
      go_wp2_with fail
      have K := ((HR.out.2.2.set 0 (.int .i64 f)).set 1 (.int .i64 a)).set 2 (.int .i64 b)
      have e0 := K.cell (i := 0) rfl
      have e1 := K.cell (i := 1) rfl
      have e2 := K.cell (i := 2) rfl
      have hb : Below w.heap.size w _ := ((HR.out.1.setCell (p := ⟨w.heap.size + 1, 0, none⟩) (Nat.le_succ _) (.int .i64 f)).setCell (p := ⟨w.heap.size + 1, 1, none⟩) (Nat.le_succ _) (.int .i64 a)).setCell (p := ⟨w.heap.size + 1, 2, none⟩) (Nat.le_succ _) (.int .i64 b)
      have hfin : mvL (l, c) s.data.toList = (a, b) := by rw [← htk]; exact HQ.out
      rw [hfin]
      exact bodyPost_ret (v := .agg #[.int .i64 f, .int .i64 a, .int .i64 b]) (by simp [results, Tryz.results32, go_sem, e0, e1, e2]) rfl ⟨rfl, hb⟩
end Go.Proofs.YtcjfelndnnhgjaaGreatDoor
namespace Go.Proofs.YtcjfelndnnhgjaaGreatDoor
set_option linter.unusedVariables false
open Go.RowKit

/-! # lex.piece's step -/
def pairF (ga gs : Nat) : Nat → Prop := fun g => g = ga ∨ g = gs
def StepR (ga gs : Nat) (f : Int) (q : Nat × Nat) (S : ByteArray) (n : Nat) (w : World) (e : Ending) (w' : World) : Prop :=
  e = .returned (.tuple #[]) ∧ Upd (pairF ga gs) (pairF ga gs) w w' ∧ Blk w' ga 32 [.int .i64 f, .int .i64 q.1, .int .i64 q.2] ∧ Blk w' gs 9 [.string (S.extract n S.size)]
theorem upd_a {ga gs i : Nat} {w : World} (u : Value) : Upd (pairF ga gs) (pairF ga gs) w (w.setCell ⟨ga, i, none⟩ u) := (upd_cell (w := w) (b := ga) (i := i) u).grow (fun _ h => .inl h) (fun _ h => .inl h)
theorem upd_s {ga gs i : Nat} {w : World} (u : Value) : Upd (pairF ga gs) (pairF ga gs) w (w.setCell ⟨gs, i, none⟩ u) := (upd_cell (w := w) (b := gs) (i := i) u).grow (fun _ h => .inr h) (fun _ h => .inl h)
set_option maxRecDepth 100000 in
set_option maxHeartbeats 8000000 in
theorem step_any {w : World} {gx ga gs : Nat} {fx : Bool} {f : Int} {a b n : Nat} {S : ByteArray} (kx : w.cell? ⟨gx, 4, none⟩ = some (.bool fx)) (ha : Blk w ga 32 [.int .i64 f, .int .i64 a, .int .i64 b]) (hs : Blk w gs 9 [.string S]) (hne : ga ≠ gs) (hn : n ≤ S.size) (hS : S.size ≤ 1000000) (h1 : a ≤ 1000000000) (h2 : b ≤ 1000000000) :
    Calls Tryz.prog 31 #[.int .i64 n, .pointer (some ⟨gx, 0, none⟩), .pointer (some ⟨ga, 0, none⟩), .pointer (some ⟨gs, 0, none⟩)] w (StepR ga gs f (if fx = true then (a, b) else mvL (a, b) (S.data.toList.take n)) S n w) := by
  have hz : (S.extract 0 n).size = n := by rw [ByteArray.size_extract]; omega
  have hd : (S.extract 0 n).data.toList = S.data.toList.take n := by simp [ByteArray.data_extract]
  have HM : Hid (∀ w', _) := Lib.hid fun w' => move_any f a b (S.extract 0 n) (by rw [hz]; omega) h1 h2 w'
  rw [hd] at HM
  have hni : (n : Int) ≤ S.size := by omega
  have hSi : (S.size : Int) ≤ 1000000 := by omega
  have HH := Lib.hid (And.intro ha (And.intro hs hne))
  have a0 := ha.cell (i := 0) rfl
  have a1 := ha.cell (i := 1) rfl
  have a2 := ha.cell (i := 2) rfl
  have s0 := hs.cell (i := 0) rfl
  have fs0 := hs.frz 0
  clear ha hs hz hd hn
  cases fx
  · go_enter Tryz.func31, Tryz.ntmps31
    go_upto_region 1 with fail
    generalize hQ : (if false = true then (a, b) else mvL (a, b) (S.data.toList.take n)) = q
    have hq : mvL (a, b) (S.data.toList.take n) = q := by rw [← hQ]; rfl
    rw [hq] at HM
    have HQ := Lib.hid hq
    clear hQ hq kx a0 a1 a2 s0 fs0
    have b0 := HH.out.1.drew.cell (i := 0) rfl
    have b1 := HH.out.1.drew.cell (i := 1) rfl
    have b2 := HH.out.1.drew.cell (i := 2) rfl
    have t0 := HH.out.2.1.drew.cell (i := 0) rfl
    go_region_with (go_at_call 32; refine (HM.out _).mono ?_; rintro e w1 ⟨rfl, hb1⟩; have ka := HH.out.1.drew.next hb1; have ks := HH.out.2.1.drew.next hb1; have c0 := ka.cell (i := 0) rfl; have c1 := ka.cell (i := 1) rfl; have c2 := ka.cell (i := 2) rfl; have g0 := ka.frz 0; have g1 := ka.frz 1; have g2 := ka.frz 2; have H1 := Lib.hid (And.intro hb1 (And.intro ka ks)); clear hb1 ka ks)
    all_goals
      have hU : Upd (pairF ga gs) (pairF ga gs) w _ := (((Upd.below (F := pairF ga gs) (show Below w.heap.size w w1 from (Below.refl w.heap.size w).drew.trans H1.out.1)).trans (upd_a (i := 0) (.int .i64 f))).trans (upd_a (i := 1) (.int .i64 q.1))).trans (upd_a (i := 2) (.int .i64 q.2))
      have kA := ((H1.out.2.1.set 0 (.int .i64 f)).set 1 (.int .i64 q.1)).set 2 (.int .i64 q.2)
      have kS := ((H1.out.2.2.other (a := ⟨ga, 0, none⟩) (.int .i64 f) (Ne.symm HH.out.2.2)).other (a := ⟨ga, 1, none⟩) (.int .i64 q.1) (Ne.symm HH.out.2.2)).other (a := ⟨ga, 2, none⟩) (.int .i64 q.2) (Ne.symm HH.out.2.2)
      have z0 := kS.cell (i := 0) rfl
      have y0 := kS.frz 0
      have HZ := Lib.hid (And.intro hU (And.intro kA kS))
      clear hU kA kS H1 c0 c1 c2 g0 g1 g2 b0 b1 b2 t0
      generalize ((w1.setCell ⟨ga, 0, none⟩ (.int .i64 f)).setCell ⟨ga, 1, none⟩ (.int .i64 q.1)).setCell ⟨ga, 2, none⟩ (.int .i64 q.2) = w3 at *
      go_wp2_with fail
      go_end0
      refine ⟨rfl, HZ.out.1.trans (upd_s _), ?_, HZ.out.2.2.set 0 _⟩
      have hfin := HZ.out.2.1.other (a := ⟨gs, 0, none⟩) (.string (S.extract n S.size)) HH.out.2.2
      first | exact hfin | (rw [← HQ.out] at hfin; exact hfin)
  · go_enter Tryz.func31, Tryz.ntmps31
    go_wp2_with fail
    go_end0
    exact ⟨rfl, upd_s _, HH.out.1.other _ HH.out.2.2, HH.out.2.1.set 0 _⟩
end Go.Proofs.YtcjfelndnnhgjaaGreatDoor
namespace Go.Proofs.YtcjfelndnnhgjaaGreatDoor
set_option linter.unusedVariables false
open Go.RowKit

/-! # lex.piece -/
structure Tk where
  kind : Int
  text : ByteArray
  f : Int
  l : Int
  c : Int
instance : Inhabited Tk := ⟨⟨0, ⟨#[]⟩, 0, 0, 0⟩⟩
def tkCells (t : Tk) : List Value := [.int .i64 t.kind, .string t.text, .int .i64 t.f, .int .i64 t.l, .int .i64 t.c]
def tksCells (l : List Tk) : List Value := l.flatMap tkCells
theorem tksCells_len (l : List Tk) : (tksCells l).length = l.length * 5 := flatMap_len tkCells 5 (fun _ => rfl) l
theorem tksCells_snoc (l : List Tk) (t : Tk) : tksCells (l ++ [t]) = tksCells l ++ tkCells t := by simp [tksCells]
theorem infoTk : (Tryz.prog.info? 41).map (fun i => (i.zero, i.size, i.bytes)) = some (some (.agg #[.int .i64 0, .string { data := #[] }, .int .i64 0, .int .i64 0, .int .i64 0]), 5, 48) := by kernel_rfl
theorem TTks : SlTy Tryz.prog 35 41 5 48 (.agg #[.int .i64 0, .string { data := #[] }, .int .i64 0, .int .i64 0, .int .i64 0]) := SlTy.of Tryz.underlying35 infoTk rfl (by decide)
/-- the place of the k-th byte of a piece -/
def plK (fx : Bool) (q : Nat × Nat) (X : ByteArray) (k : Nat) : Nat × Nat := if fx = true then q else mvL q (X.data.toList.take k)
/-- a word of a piece -/
def TokIn (f : Int) (fx : Bool) (q : Nat × Nat) (X : ByteArray) (t : Tk) : Prop :=
  ∃ k n, 1 ≤ n ∧ k + n ≤ X.size ∧ t.text = X.extract k (k + n) ∧ (∀ (i : Nat) (h : i < X.size), k ≤ i → i < k + n → X[i].toNat ≠ 32) ∧ t.f = f ∧ t.l = (plK fx q X k).1 ∧ t.c = (plK fx q X k).2
/-- the cells of x, which a region's loads read -/
theorem px_alloc {gx : Nat} {x y z u : Value} {W : World} (o : Obj) (h : W.cell? ⟨gx, 0, none⟩ = some x ∧ W.cell? ⟨gx, 1, none⟩ = some y ∧ W.cell? ⟨gx, 2, none⟩ = some z ∧ W.cell? ⟨gx, 3, none⟩ = some u) :
    (W.alloc o).cell? ⟨gx, 0, none⟩ = some x ∧ (W.alloc o).cell? ⟨gx, 1, none⟩ = some y ∧ (W.alloc o).cell? ⟨gx, 2, none⟩ = some z ∧ (W.alloc o).cell? ⟨gx, 3, none⟩ = some u :=
  have hb := Below.new W o
  ⟨(hb.cell (World.block_lt_of_cell? _ _ h.1)).trans h.1, (hb.cell (World.block_lt_of_cell? _ _ h.2.1)).trans h.2.1, (hb.cell (World.block_lt_of_cell? _ _ h.2.2.1)).trans h.2.2.1, (hb.cell (World.block_lt_of_cell? _ _ h.2.2.2)).trans h.2.2.2⟩
theorem px_set {gx : Nat} {x y z u : Value} {W : World} {g i : Nat} (v : Value) (hn : g ≠ gx) (h : W.cell? ⟨gx, 0, none⟩ = some x ∧ W.cell? ⟨gx, 1, none⟩ = some y ∧ W.cell? ⟨gx, 2, none⟩ = some z ∧ W.cell? ⟨gx, 3, none⟩ = some u) :
    (W.setCell ⟨g, i, none⟩ v).cell? ⟨gx, 0, none⟩ = some x ∧ (W.setCell ⟨g, i, none⟩ v).cell? ⟨gx, 1, none⟩ = some y ∧ (W.setCell ⟨g, i, none⟩ v).cell? ⟨gx, 2, none⟩ = some z ∧ (W.setCell ⟨g, i, none⟩ v).cell? ⟨gx, 3, none⟩ = some u :=
  ⟨(World.cell?_setCell_far _ _ _ _ hn).trans h.1, (World.cell?_setCell_far _ _ _ _ hn).trans h.2.1, (World.cell?_setCell_far _ _ _ _ hn).trans h.2.2.1, (World.cell?_setCell_far _ _ _ _ hn).trans h.2.2.2⟩
def PieceR (base : Nat) (f : Int) (fx : Bool) (q : Nat × Nat) (X : ByteArray) (ts : List Tk) (w : World) (e : Ending) (w' : World) : Prop :=
  ∃ (v : Value) (err : Int) (p : Int × Int × Int), e = .returned (.tuple #[v, .agg #[.int .i64 p.1, .int .i64 p.2.1, .int .i64 p.2.2], .int .i64 err]) ∧ Below base w w' ∧
    ((err = 0 ∧ p = (0, 0, 0) ∧ ∃ ts' : List Tk, w'.ownsRow base 41 5 v ts'.length (tksCells ts') ∧ ts'.length ≤ 12000 ∧ ∀ t ∈ ts', t ∈ ts ∨ TokIn f fx q X t) ∨
     (err ≠ 0 ∧ v = .slice none 0 0 ∧ ∃ k, k ≤ X.size ∧ p = (f, ((plK fx q X k).1 : Int), ((plK fx q X k).2 : Int))))
structure Fxd (base gx gr ga gs : Nat) : Prop where
  b1 : base ≤ gx
  b2 : base ≤ gr
  b3 : base ≤ ga
  b4 : base ≤ gs
  xr : gx ≠ gr
  xa : gx ≠ ga
  xs : gx ≠ gs
  ra : gr ≠ ga
  rs : gr ≠ gs
  ags : ga ≠ gs
/-- the loop's state: k bytes are read -/
structure PSt (base : Nat) (w : World) (gx gr ga gs : Nat) (f : Int) (fx : Bool) (q : Nat × Nat) (X : ByteArray) (ts : List Tk) (wr : World) (k : Nat) (v : Value) (ts' : List Tk) : Prop where
  below : Below base w wr
  own : wr.ownsRow base 41 5 v ts'.length (tksCells ts')
  len : ts'.length ≤ 12000
  toks : ∀ t ∈ ts', t ∈ ts ∨ TokIn f fx q X t
  bx : Blk wr gx 67 [.string X, .int .i64 f, .int .i64 q.1, .int .i64 q.2, .bool fx]
  br : Blk wr gr 32 [.int .i64 0, .int .i64 0, .int .i64 0]
  ba : Blk wr ga 32 [.int .i64 f, .int .i64 (plK fx q X k).1, .int .i64 (plK fx q X k).2]
  bs : Blk wr gs 9 [.string (X.extract k X.size)]
  nx : v.ownBlock ≠ some gx
  nr : v.ownBlock ≠ some gr
  na : v.ownBlock ≠ some ga
  ns : v.ownBlock ≠ some gs
  k : k ≤ X.size
variable {base : Nat} {w : World} {gx gr ga gs : Nat} {f : Int} {fx : Bool} {q : Nat × Nat} {X : ByteArray} {ts : List Tk} {wr : World} {k : Nat} {v : Value} {ts' : List Tk}
theorem PSt.base_le (h : PSt base w gx gr ga gs f fx q X ts wr k v ts') (F : Fxd base gx gr ga gs) : base ≤ wr.heap.size := Nat.le_trans F.b1 (Nat.le_of_lt h.bx.lt)
theorem PSt.next (h : PSt base w gx gr ga gs f fx q X ts wr k v ts') (F : Fxd base gx gr ga gs) {w2 : World} (hb : Below wr.heap.size wr w2) : PSt base w gx gr ga gs f fx q X ts w2 k v ts' :=
  ⟨h.below.trans (hb.mono (h.base_le F)), ownsRow_below h.own hb, h.len, h.toks, h.bx.next hb, h.br.next hb, h.ba.next hb, h.bs.next hb, h.nx, h.nr, h.na, h.ns, h.k⟩
theorem PSt.step (h : PSt base w gx gr ga gs f fx q X ts wr k v ts') (F : Fxd base gx gr ga gs) {w2 : World} {k2 : Nat} (hu : Upd (pairF ga gs) (pairF ga gs) wr w2)
    (ha : Blk w2 ga 32 [.int .i64 f, .int .i64 (plK fx q X k2).1, .int .i64 (plK fx q X k2).2]) (hs : Blk w2 gs 9 [.string (X.extract k2 X.size)]) (hk : k2 ≤ X.size) : PSt base w gx gr ga gs f fx q X ts w2 k2 v ts' := by
  have hlow : Below base wr w2 := hu.low (fun g hg => by rcases hg with rfl | rfl; exact F.b3; exact F.b4) (h.base_le F)
  refine ⟨h.below.trans hlow, ownsRow_keep h.own fun j hj => hu.block j (h.own.lt j hj).2 (fun hF => ?_), h.len, h.toks, (hu.keepBlk h.bx ?_).1, (hu.keepBlk h.br ?_).1, ha, hs, h.nx, h.nr, h.na, h.ns, hk⟩
  · rcases hF with rfl | rfl
    · exact h.na hj
    · exact h.ns hj
  · intro hF; rcases hF with e | e
    · exact F.xa e
    · exact F.xs e
  · intro hF; rcases hF with e | e
    · exact F.ra e
    · exact F.rs e
theorem PSt.app (h : PSt base w gx gr ga gs f fx q X ts wr k v ts') (F : Fxd base gx gr ga gs) {t : Tk} {g cap : Nat} {w3 : World} (happ : App base 41 5 wr v ts'.length 1 (tksCells ts' ++ tkCells t) g cap w3) (ht : TokIn f fx q X t) (hl : ts'.length < 12000) :
    PSt base w gx gr ga gs f fx q X ts w3 k (.slice (some ⟨g, 0, none⟩) (ts'.length + 1) cap) (ts' ++ [t]) := by
  have hg : ∀ j, v.ownBlock ≠ some j → j < wr.heap.size → (Value.slice (some ⟨g, 0, none⟩) (ts'.length + 1) cap).ownBlock ≠ some j := fun j hj hlt e => by
    simp only [Value.ownBlock, Option.some.injEq] at e
    subst e
    rcases happ.at_ with e | e
    · exact hj e
    · omega
  refine ⟨happ.below h.below (h.base_le F) (fun j hj => (h.own.lt j hj).1), ?_, by simp only [List.length_append, List.length_singleton]; omega, fun x hx => ?_, (happ.old h.bx.lt h.nx).trans h.bx, (happ.old h.br.lt h.nr).trans h.br, (happ.old h.ba.lt h.na).trans h.ba, (happ.old h.bs.lt h.ns).trans h.bs, hg _ h.nx h.bx.lt, hg _ h.nr h.br.lt, hg _ h.na h.ba.lt, hg _ h.ns h.bs.lt, h.k⟩
  · rw [tksCells_snoc, List.length_append, List.length_singleton]; exact happ.own
  · rcases List.mem_append.1 hx with hx | hx
    · exact h.toks x hx
    · rw [List.mem_singleton.1 hx]; exact .inr ht
theorem ext_ext {X : ByteArray} {k m : Nat} : (X.extract k X.size).extract m (X.extract k X.size).size = X.extract (k + m) X.size := by
  apply ByteArray.ext
  simp only [ByteArray.data_extract, ByteArray.size_extract, Array.extract_extract]
  congr 1
  omega
theorem ext_zero {X : ByteArray} {k n : Nat} (h : k + n ≤ X.size) : (X.extract k X.size).extract 0 n = X.extract k (k + n) := by
  apply ByteArray.ext
  simp only [ByteArray.data_extract, Array.extract_extract]
  congr 1
  omega
theorem ext_size {X : ByteArray} {k : Nat} : (X.extract k X.size).size = X.size - k := by rw [ByteArray.size_extract]; omega
theorem drop_ext {X : ByteArray} {k : Nat} : (X.extract k X.size).data.toList = X.data.toList.drop k := by
  rw [ByteArray.data_extract, Array.toList_extract]
  simp only [List.extract_eq_take_drop]
  exact List.take_of_length_le (by simp)
theorem plK_add {fx : Bool} {q : Nat × Nat} {X : ByteArray} {k m : Nat} (h : k + m ≤ X.size) : (if fx = true then plK fx q X k else mvL (plK fx q X k) ((X.extract k X.size).data.toList.take m)) = plK fx q X (k + m) := by
  unfold plK
  cases fx
  · simp only [Bool.false_eq_true, if_false]
    rw [← mvL_app, drop_ext, ← List.take_add]
  · rfl
end Go.Proofs.YtcjfelndnnhgjaaGreatDoor
