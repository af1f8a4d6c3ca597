import Derived.Test.YtkoggfahjlnecaaGreatDoorC1
import Derived.Test.YtkoggfahjlnecaaGreatDoorN3
import Derived.Test.YtkoggfahjlnecaaGreatDoorS1
import Derived.Lib.ItoaLen
import Derived.Laws.Strings
namespace Go.Proofs.YtkoggfahjlnecaaGreatDoor
set_option linter.unusedVariables false
open Go.RowKit Go.Sort

/-! # expressions of the source in memory; konst.Value -/
/-- a slice that is read, whose cells lie in blocks of A -/
def ROA (A : Nat → Prop) (w : World) (v : Value) (size n : Nat) (cs : List Value) : Prop :=
  cs.length = n * size ∧ ∃ p c, v = .slice p n c ∧ n ≤ c ∧ (∀ j u, cs[j]? = some u → ∃ b o, p = some ⟨b, o, none⟩ ∧ A b ∧ w.cell? ⟨b, o + j, none⟩ = some u)
section
variable {A A' : Nat → Prop} {w w' : World} {v : Value} {size n : Nat} {cs : List Value}
theorem ROA.ro (h : ROA A w v size n cs) : RO w v size n cs := by
  obtain ⟨h1, p, c, h2, _, h3⟩ := h
  refine ⟨h1, p, c, h2, fun j u hj => ?_⟩
  obtain ⟨b, o, e, _, hc⟩ := h3 j u hj
  exact ⟨b, o, e, hc⟩
theorem ROA.turn (h : ROA A w v size n cs) (hA : ∀ b, A b → b < w.heap.size → A' b ∧ w'.heap[b]? = w.heap[b]?) : ROA A' w' v size n cs := by
  obtain ⟨h1, p, c, h2, h4, h3⟩ := h
  refine ⟨h1, p, c, h2, h4, fun j u hj => ?_⟩
  obtain ⟨b, o, e, ha, hc⟩ := h3 j u hj
  have := hA b ha (World.block_lt_of_cell? _ _ hc)
  exact ⟨b, o, e, this.1, (World.cell?_of_block this.2).trans hc⟩
theorem ROA.form (h : ROA A w v size n cs) : ∃ p c, v = .slice p n c ∧ n ≤ c := by
  obtain ⟨h1, p, c, e, h4, h3⟩ := h
  exact ⟨p, c, e, h4⟩
theorem ROA.cap {p : Option Addr} {m c : Nat} (h : ROA A w (.slice p m c) size n cs) : n ≤ c := by
  obtain ⟨_, p', c', e, h4, _⟩ := h
  cases e; exact h4
theorem ROA.nil : ROA A w (.slice none 0 0) size 0 [] := ⟨by simp, none, 0, rfl, Nat.le_refl _, fun j u h => by simp at h⟩
theorem ROA.sl {p c m} (h : ROA A w (.slice p m c) size n cs) {j : Nat} {u : Value} (hu : cs[j]? = some u) : ∃ b o, p = some ⟨b, o, none⟩ := h.ro.sl hu
end
theorem grow_below (B : Nat) (w : World) (os : Array Obj) (hB : B ≤ w.heap.size) : Below B w (grow w os) :=
  ⟨rfl, rfl, rfl, by simp [grow], fun k hk => by simp only [grow]; rw [Array.getElem?_append_left (by omega)]⟩
theorem tab_below {P : Program} {w w' : World} {name : String} {k : IntKind} {zs : List Int} (h : Lib.TabIs P w name k zs) (hb : Below w.heap.size w w') : Lib.TabIs P w' name k zs := by
  unfold Lib.TabIs World.var? at h ⊢
  cases hg : P.globalNamed name with
  | none => rw [hg] at h; simp at h
  | some g =>
    rw [hg] at h
    simp only [Option.bind_some] at h ⊢
    have hlt : g < w.heap.size := by
      rcases Nat.lt_or_ge g w.heap.size with h' | h'
      · exact h'
      · rw [Array.getElem?_eq_none h'] at h; simp at h
    rw [hb.block g hlt]
    exact h
abbrev Tab (w : World) : Prop := Lib.TabIs Tryz.prog w "internal/strconv.uint64pow10" .u64 Lib.pow10Tab
/-- the text of a number -/
def dec (n : Nat) : ByteArray := ⟨(Lib.itoa (n : Int)).toArray⟩
def numC (n : Nat) : List Value := [.int .i64 1, .int .i64 0, .int .i64 0, .int .i64 0, .string (dec n), .slice none 0 0]
def nmC : List Value := [.int .i64 2, .int .i64 0, .int .i64 0, .int .i64 0, .string ⟨#[80]⟩, .slice none 0 0]
def opL : List ByteArray := [⟨#[43]⟩, ⟨#[45]⟩, ⟨#[42]⟩, ⟨#[38]⟩, ⟨#[124]⟩, ⟨#[94]⟩, ⟨#[126, 94]⟩]
def opT (o : Nat) : ByteArray := opL.getD o ⟨#[126, 94]⟩
/-- a block that lies behind B, read as a slice -/
theorem Blk.roaF {w : World} {b t B n size : Nat} {l : List Value} (h : Blk w b t l) (hB : B < b) (hl : l.length = n * size := by rfl) : ROA (fun k => B < k) w (.slice (some ⟨b, 0, none⟩) n n) size n l :=
  ⟨hl, _, _, rfl, Nat.le_refl _, fun j u hj => ⟨b, 0, rfl, hB, by rw [Nat.zero_add]; exact h.cell hj⟩⟩
/-- an expression's six cells -/
def EX (A : Nat → Prop) (w : World) : KE → List Value → Prop
  | .num n, cs => cs = numC n
  | .nm, cs => cs = nmC
  | .bin o a b, cs => ∃ p c ca cb, cs = [.int .i64 4, .int .i64 0, .int .i64 0, .int .i64 0, .string (opT o), .slice p 2 c] ∧ ROA A w (.slice p 2 c) 6 2 (ca ++ cb) ∧ EX A w a ca ∧ EX A w b cb
theorem EX.turn {A A' : Nat → Prop} {w w' : World} (hA : ∀ b, A b → b < w.heap.size → A' b ∧ w'.heap[b]? = w.heap[b]?) : ∀ {e : KE} {cs : List Value}, EX A w e cs → EX A' w' e cs
  | .num _, _, h => h
  | .nm, _, h => h
  | .bin _ _ _, _, ⟨p, c, ca, cb, h1, h2, h3, h4⟩ => ⟨p, c, ca, cb, h1, h2.turn hA, EX.turn hA h3, EX.turn hA h4⟩
theorem EX.len {A : Nat → Prop} {w : World} : ∀ {e : KE} {cs : List Value}, EX A w e cs → cs.length = 6
  | .num _, _, h => by rw [show _ = numC _ from h]; rfl
  | .nm, _, h => by rw [show _ = nmC from h]; rfl
  | .bin _ _ _, _, ⟨p, c, ca, cb, h1, _, _, _⟩ => by rw [h1]; rfl
theorem EX.form {A : Nat → Prop} {w : World} : ∀ {e : KE} {cs : List Value}, EX A w e cs → ∃ (k : Int) (t : ByteArray) (p : Option Addr) (n c : Nat), cs = [.int .i64 k, .int .i64 0, .int .i64 0, .int .i64 0, .string t, .slice p n c]
  | .num _, _, h => ⟨_, _, _, _, _, h⟩
  | .nm, _, h => ⟨_, _, _, _, _, h⟩
  | .bin _ _ _, _, ⟨p, c, ca, cb, h1, _, _, _⟩ => ⟨_, _, _, _, _, h1⟩
theorem EX.mono {A A' : Nat → Prop} {w : World} (hA : ∀ b, A b → A' b) {e : KE} {cs : List Value} (h : EX A w e cs) : EX A' w e cs := h.turn fun b hb _ => ⟨hA b hb, rfl⟩
theorem EX.up {A : Nat → Prop} {w w' : World} {e : KE} {cs : List Value} (h : EX A w e cs) (hb : Below w.heap.size w w') : EX A w' e cs := h.turn fun b ha hl => ⟨ha, hb.block b hl⟩
theorem dec_small (n : Nat) (h : n < 100) : (⟨(Lib.decDigits n).toArray⟩ : ByteArray) = dec n := by
  unfold dec Lib.itoa
  simp
theorem blk6 {W : World} {b t : Nat} {u0 u1 u2 u3 u4 u5 : Value} (h : Blk W b t [u0, u1, u2, u3, u4, u5]) (v0 v1 v2 v3 v4 v5 : Value) : Blk ((((((W.setCell ⟨b, 0, none⟩ v0).setCell ⟨b, 1, none⟩ v1).setCell ⟨b, 2, none⟩ v2).setCell ⟨b, 3, none⟩ v3).setCell ⟨b, 4, none⟩ v4).setCell ⟨b, 5, none⟩ v5) b t [v0, v1, v2, v3, v4, v5] :=
  (((((h.set 0 v0).set 1 v1).set 2 v2).set 3 v3).set 4 v4).set 5 v5
def One (b : Nat) : Nat → Prop := fun k => k = b
theorem upd_cell1 {w : World} {b i : Nat} (v : Value) : Upd (One b) (One b) w (w.setCell ⟨b, i, none⟩ v) :=
  ⟨rfl, rfl, rfl, by simp, fun k _ hn => Below.heap_setCell _ _ _ _ hn, fun k hk => .inl hk⟩
theorem upd6 (W : World) (b : Nat) (v0 v1 v2 v3 v4 v5 : Value) : Upd (One b) (One b) W ((((((W.setCell ⟨b, 0, none⟩ v0).setCell ⟨b, 1, none⟩ v1).setCell ⟨b, 2, none⟩ v2).setCell ⟨b, 3, none⟩ v3).setCell ⟨b, 4, none⟩ v4).setCell ⟨b, 5, none⟩ v5) :=
  (((((upd_cell1 _).trans (upd_cell1 _)).trans (upd_cell1 _)).trans (upd_cell1 _)).trans (upd_cell1 _)).trans (upd_cell1 _)
theorem below6 {w W : World} {B b : Nat} (h : Below B w W) (hb : B ≤ b) (v0 v1 v2 v3 v4 v5 : Value) : Below B w ((((((W.setCell ⟨b, 0, none⟩ v0).setCell ⟨b, 1, none⟩ v1).setCell ⟨b, 2, none⟩ v2).setCell ⟨b, 3, none⟩ v3).setCell ⟨b, 4, none⟩ v4).setCell ⟨b, 5, none⟩ v5) :=
  Below.setCell (Below.setCell (Below.setCell (Below.setCell (Below.setCell (Below.setCell h hb v0) hb v1) hb v2) hb v3) hb v4) hb v5
abbrev z6 : List Value := [.int .i64 0, .int .i64 0, .int .i64 0, .int .i64 0, .string ⟨#[]⟩, .slice none 0 0]
set_option maxRecDepth 100000 in
theorem kvalue_any (n : Nat) (h : n < 200) {w : World} (ht : Tab w) : Calls Tryz.prog 13 #[.int .i64 n] w fun e w' => e = .returned (.agg #[.int .i64 1, .int .i64 0, .int .i64 0, .int .i64 0, .string (dec n), .slice none 0 0]) ∧ Below w.heap.size w w' := by
  have hI := Lib.hid (fun w (ht : Tab w) => Tryz.strconv_Itoa (n : Int) (by omega) (by omega) w ht)
  have HT := Lib.hid ht
  have h1 : min (n : Int) 2147483647 = (n : Int) := by omega
  have h2 : max (-2147483648) (n : Int) = (n : Int) := by omega
  have h3 : ¬ (n : Int) = -2147483648 := by omega
  have h4 : ¬ (n : Int) < 0 := by omega
  clear ht h
  go_enter Tryz.func13, Tryz.ntmps13
  go_wp2_with fail
  have hn := Below.new w (.cells z6.toArray 27)
  refine (hI.out _ (tab_below HT.out hn)).mono ?_; rintro e w2 ⟨rfl, k, os, hw2⟩
  have hb2 : Below (w.alloc (.cells z6.toArray 27)).heap.size (w.alloc (.cells z6.toArray 27)) w2 := by rw [hw2]; exact Below.trans (below_drewN k) (grow_below _ _ _ (Nat.le_refl _))
  have hk := (Blk.new (w := w) 27 z6).next hb2
  have HK := Lib.hid (And.intro hk (Below.next hn hb2))
  have r0 := hk.cell (i := 0) rfl
  have r1 := hk.cell (i := 1) rfl
  have r2 := hk.cell (i := 2) rfl
  have r3 := hk.cell (i := 3) rfl
  have r4 := hk.cell (i := 4) rfl
  have r5 := hk.cell (i := 5) rfl
  have f0 := hk.frz 0
  have f1 := hk.frz 1
  have f2 := hk.frz 2
  have f3 := hk.frz 3
  have f4 := hk.frz 4
  have f5 := hk.frz 5
  clear hk hb2 hn hw2
  go_wp2_with fail
  have hf := blk6 HK.out.1 (.int .i64 1) (.int .i64 0) (.int .i64 0) (.int .i64 0) (.string ⟨(Lib.itoa (n : Int)).toArray⟩) (.slice none 0 0)
  have hbf := below6 HK.out.2 (Nat.le_refl _) (.int .i64 1) (.int .i64 0) (.int .i64 0) (.int .i64 0) (.string ⟨(Lib.itoa (n : Int)).toArray⟩) (.slice none 0 0)
  clear r0 r1 r2 r3 r4 r5 f0 f1 f2 f3 f4 f5
  generalize ((((((w2.setCell ⟨w.heap.size, 0, none⟩ (.int .i64 1)).setCell ⟨w.heap.size, 1, none⟩ (.int .i64 0)).setCell ⟨w.heap.size, 2, none⟩ (.int .i64 0)).setCell ⟨w.heap.size, 3, none⟩ (.int .i64 0)).setCell ⟨w.heap.size, 4, none⟩ (.string ⟨(Lib.itoa (n : Int)).toArray⟩)).setCell ⟨w.heap.size, 5, none⟩ (.slice none 0 0)) = w9 at *
  have e0 := hf.cell (i := 0) rfl
  have e1 := hf.cell (i := 1) rfl
  have e2 := hf.cell (i := 2) rfl
  have e3 := hf.cell (i := 3) rfl
  have e4 := hf.cell (i := 4) rfl
  have e5 := hf.cell (i := 5) rfl
  exact bodyPost_ret (v := .agg #[.int .i64 1, .int .i64 0, .int .i64 0, .int .i64 0, .string ⟨(Lib.itoa (n : Int)).toArray⟩, .slice none 0 0]) (by simp [results, Tryz.results13, go_sem, e0, e1, e2, e3, e4, e5]) rfl ⟨rfl, hbf⟩
end Go.Proofs.YtkoggfahjlnecaaGreatDoor
