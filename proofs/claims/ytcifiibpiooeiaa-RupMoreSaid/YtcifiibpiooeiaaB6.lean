import Derived.Test.YtcifiibpiooeiaaB5
namespace Go.Proofs.Ytcifiibpiooeiaa
set_option linter.unusedVariables false
open Go.RowKit

theorem Upd.toBelow {F F' : Nat → Prop} {w w' : World} (h : Upd F F' w w') {B : Nat} (hF : ∀ j, F j → B ≤ j) (hB : B ≤ w.heap.size) : Below B w w' :=
  ⟨h.os, h.tape, h.output, h.size, fun k hk => h.block k (by omega) fun hf => by have := hF k hf; omega⟩
theorem Upd.blk {F F' : Nat → Prop} {w w' : World} (h : Upd F F' w w') {b : Nat} {t : TypeId} {l : List Value} (hb : Blk w b t l) (hF : ¬ F b) : Blk w' b t l := (h.block b hb.lt hF).trans hb

theorem Upd.union {F F' A : Nat → Prop} {w w' : World} (h : Upd F F' w w') : Upd (fun k => F k ∨ A k) (fun k => F' k ∨ A k) w w' :=
  ⟨h.os, h.tape, h.output, h.size, fun k hk hn => h.block k hk fun hf => hn (.inl hf), fun k hk => by
    rcases hk with hk | hk
    · rcases h.sub k hk with h' | h'
      · exact .inl (.inl h')
      · exact .inr h'
    · exact .inl (.inr hk)⟩
theorem HasC.avoidA {A A' : Nat → Prop} {w : World} {bc : Nat} {F v cls} (h : HasC A w bc F v cls) (hA : ∀ k, A' k → A k) : HasC A' w bc F v cls := by
  obtain ⟨sv, sls, h, rfl, ha⟩ := h
  exact ⟨sv, sls, h, rfl, fun i hi => (ha i hi).avoid fun k _ hk => hA k hk⟩
theorem RefC.avoid {F F' : Nat → Prop} {w : World} {sv cls} (h : RefC F w sv cls) (hF : ∀ k, F' k → F k) : RefC F' w sv cls := by
  obtain ⟨p, c, sls, e, hl, hr, hi⟩ := h
  refine ⟨p, c, sls, e, hl, fun j u hj => ?_, fun i h => (hi i h).avoid fun k _ hk => hF k hk⟩
  obtain ⟨b, o, e, hn, hc⟩ := hr j u hj
  exact ⟨b, o, e, fun hb => hn (hF b hb), hc⟩
theorem RefC.keep {F B : Nat → Prop} {w w' : World} {sv cls} (h : RefC F w sv cls) (hu : Upd B B w w') (hB : ∀ k, B k → F k) : RefC F w' sv cls := by
  obtain ⟨p, c, sls, e, hl, hr, hi⟩ := h
  have hk : ∀ b o j u, ¬ F b → w.cell? ⟨b, o + j, none⟩ = some u → w'.cell? ⟨b, o + j, none⟩ = some u := fun b o j u hn hc => by
    rw [← hc]; exact World.cell?_of_block (hu.block b (World.block_lt_of_cell? _ _ hc) fun h' => hn (hB b h'))
  refine ⟨p, c, sls, e, hl, fun j u hj => ?_, fun i h => ⟨(hi i h).1, fun j u hj => ?_⟩⟩
  · obtain ⟨b, o, e, hn, hc⟩ := hr j u hj
    exact ⟨b, o, e, hn, hk b o j u hn hc⟩
  · obtain ⟨b, o, e, hn, hc⟩ := (hi i h).2 j u hj
    exact ⟨b, o, e, hn, hk b o j u hn hc⟩
theorem upd_two {w : World} {b : Nat} (x y : Value) : Upd (fun k => k = b) (fun k => k = b) w ((w.setCell ⟨b, 0, none⟩ x).setCell ⟨b, 1, none⟩ y) :=
  (upd_set (F := fun k => k = b) x rfl).trans (upd_set (F := fun k => k = b) y rfl)

/-- a list of lists that came in -/
def Nest (w : World) (sls : List (Option Addr × Nat × Nat)) (ll : List (List Int)) : Prop :=
  sls.length = ll.length ∧ ∀ i, i < ll.length → (sls.getD i default).2.1 = (ll.getD i []).length ∧ (sls.getD i default).2.1 ≤ (sls.getD i default).2.2 ∧ RO w (slv (sls.getD i default)) 1 (ll.getD i []).length (ints (ll.getD i []))

/-- the clauses that Make makes of the first k lists -/
def makeC (v : Nat) (ll : List (List Int)) (k : Nat) : List (List Int) := (ll.take k).foldl (fun cls l => (addC v cls (l.take 30)).1) []
theorem makeC_succ (v : Nat) (ll : List (List Int)) (k : Nat) (h : k < ll.length) : makeC v ll (k + 1) = (addC v (makeC v ll k) ((ll.getD k []).take 30)).1 := by
  unfold makeC
  have e : ll.take (k + 1) = ll.take k ++ [ll.getD k []] := by rw [List.take_add_one, List.getElem?_eq_getElem h]; simp [List.getD, List.getElem?_eq_getElem h]
  rw [e, List.foldl_append]
  rfl
theorem makeC_wf {v : Nat} (hv : v ≤ 60000) (ll : List (List Int)) : ∀ k, WFC v (makeC v ll k)
  | 0 => ⟨hv, by simp [makeC], fun i hi => absurd hi (by simp [makeC])⟩
  | k + 1 => by
    by_cases h : k < ll.length
    · rw [makeC_succ v ll k h]; exact addC_wf (makeC_wf hv ll k) _
    · have : makeC v ll (k + 1) = makeC v ll k := by unfold makeC; rw [List.take_of_length_le (by omega), List.take_of_length_le (by omega)]
      rw [this]; exact makeC_wf hv ll k
def makeV (n : Int) : Nat := (max 0 (min n 60)).toNat
theorem makeV_int (n : Int) : ((makeV n : Nat) : Int) = max 0 (min n 60) := by unfold makeV; omega
def makeAll (n : Int) (ll : List (List Int)) : List (List Int) := makeC (makeV n) ll (min ll.length 200)
theorem makeAll_wf (n : Int) (ll : List (List Int)) : WFC (makeV n) (makeAll n ll) := makeC_wf (by unfold makeV; omega) ll _

/-- the state of Make after i lists -/
structure MakeS (w : World) (v : Nat) (ll : List (List Int)) (i : Nat) (F : Nat → Prop) (sv : Value) (wr : World) : Prop where
  hc : HasC (fun k => k < w.heap.size + 3) wr (w.heap.size + 1) F v (makeC v ll i)
  rc : RefC (fun k => F k ∨ k < w.heap.size + 3) wr sv (makeC v ll i)
  b8 : Blk wr (w.heap.size + 1 + 1) 28 [.int .i64 v, sv]
  b5 : Blk wr w.heap.size 28 [.int .i64 0, .slice none 0 0]
  ge : ∀ k, F k → w.heap.size ≤ k
  n8 : ¬ F (w.heap.size + 1 + 1)
  n5 : ¬ F w.heap.size
  bel : Below w.heap.size w wr
theorem MakeS.below {w : World} {v : Nat} {ll : List (List Int)} {i : Nat} {F : Nat → Prop} {sv : Value} {wr wr' : World} (h : MakeS w v ll i F sv wr) (hb : Below wr.heap.size wr wr') : MakeS w v ll i F sv wr' :=
  ⟨h.hc.below hb, h.rc.below hb, h.b8.next hb, h.b5.next hb, h.ge, h.n8, h.n5, h.bel.trans (hb.mono h.bel.size)⟩
/-- the facts after Add: the reference still has i clauses -/
structure MakeT (w : World) (v : Nat) (ll : List (List Int)) (i : Nat) (F : Nat → Prop) (sv : Value) (wr : World) : Prop where
  hc : HasC (fun k => k < w.heap.size + 3) wr (w.heap.size + 1) F v (makeC v ll (i + 1))
  rc : RefC (fun k => F k ∨ k < w.heap.size + 3) wr sv (makeC v ll i)
  b8 : Blk wr (w.heap.size + 1 + 1) 28 [.int .i64 v, sv]
  b5 : Blk wr w.heap.size 28 [.int .i64 0, .slice none 0 0]
  ge : ∀ k, F k → w.heap.size ≤ k
  n8 : ¬ F (w.heap.size + 1 + 1)
  n5 : ¬ F w.heap.size
  bel : Below w.heap.size w wr
theorem MakeS.add {w : World} {v : Nat} {ll : List (List Int)} {i : Nat} {F : Nat → Prop} {sv : Value} {wr wr' : World} {e : Ending} (h : MakeS w v ll i F sv wr) (hi : i < ll.length)
    (ha : AddR (fun k => k < w.heap.size + 3) wr (w.heap.size + 1) F v (makeC v ll i) ((ll.getD i []).take 30) e wr') : ∃ F', MakeT w v ll i F' sv wr' := by
  obtain ⟨_, F', hc, hu⟩ := ha
  have hs := h.b8.lt
  refine ⟨F', by rw [makeC_succ v ll i hi]; exact hc, h.rc.upd hu.union, hu.blk h.b8 h.n8, hu.blk h.b5 h.n5, fun k hk => ?_, fun hk => ?_, fun hk => ?_, h.bel.trans (hu.toBelow h.ge h.bel.size)⟩
  · rcases hu.sub k hk with h' | h'
    · exact h.ge k h'
    · have := h.bel.size; omega
  · rcases hu.sub _ hk with h' | h'
    · exact h.n8 h'
    · omega
  · rcases hu.sub _ hk with h' | h'
    · exact h.n5 h'
    · omega
theorem MakeT.fin {w : World} {v : Nat} {ll : List (List Int)} {i : Nat} {F : Nat → Prop} {sv sv' : Value} {wr wr' : World} (h : MakeT w v ll i F sv wr)
    (hr : RefC (fun k => F k ∨ k < w.heap.size + 3) wr' sv' (makeC v ll (i + 1))) (hb : Below wr.heap.size wr wr') (o : Obj) :
    MakeS w v ll (i + 1) F sv' (((wr'.alloc o).setCell ⟨w.heap.size + 1 + 1, 0, none⟩ (.int .i64 v)).setCell ⟨w.heap.size + 1 + 1, 1, none⟩ sv') := by
  have hb2 : Below wr.heap.size wr (wr'.alloc o) := hb.alloc hb.size o
  have hs2 := (h.bel.trans (hb2.mono h.bel.size)).size
  have hsw := h.b8.lt
  have hu := upd_two (w := wr'.alloc o) (b := w.heap.size + 1 + 1) (.int .i64 v) sv'
  have hB8 := (((h.b8.below hb2 h.b8.lt).set 0 (.int .i64 v)).set 1 sv')
  refine ⟨(h.hc.below hb2).keep hu (fun k hk e => h.n8 (by rw [← e]; exact hk)) (fun k e => by omega), (hr.below (Below.new wr' o)).keep hu (fun k e => .inr (by omega)), hB8, hu.blk (h.b5.below hb2 h.b5.lt) (by omega), h.ge, h.n8, h.n5, (h.bel.trans (hb2.mono h.bel.size)).trans (hu.toBelow (fun j e => by omega) hs2)⟩

theorem MakeS.fin {w : World} {v : Nat} {ll : List (List Int)} {i : Nat} {F : Nat → Prop} {sv : Value} {wr : World} (h : MakeS w v ll i F sv wr) :
    Blk ((wr.setCell ⟨w.heap.size, 0, none⟩ (.int .i64 v)).setCell ⟨w.heap.size, 1, none⟩ sv).drew w.heap.size 28 [.int .i64 v, sv] ∧
    HasC (fun k => k < w.heap.size) ((wr.setCell ⟨w.heap.size, 0, none⟩ (.int .i64 v)).setCell ⟨w.heap.size, 1, none⟩ sv).drew (w.heap.size + 1) F v (makeC v ll i) ∧
    RefC F ((wr.setCell ⟨w.heap.size, 0, none⟩ (.int .i64 v)).setCell ⟨w.heap.size, 1, none⟩ sv).drew sv (makeC v ll i) ∧
    Below w.heap.size w ((wr.setCell ⟨w.heap.size, 0, none⟩ (.int .i64 v)).setCell ⟨w.heap.size, 1, none⟩ sv).drew := by
  have hu := upd_two (w := wr) (b := w.heap.size) (.int .i64 v) sv
  have hd := fun B => below_drewN (B := B) (w := (wr.setCell ⟨w.heap.size, 0, none⟩ (.int .i64 v)).setCell ⟨w.heap.size, 1, none⟩ sv) 1
  have hb := hu.toBelow (fun j e => by omega) h.bel.size
  refine ⟨((h.b5.set 0 (.int .i64 v)).set 1 sv).drew, ((h.hc.keep hu (fun k hk e => h.n5 (by rw [← e]; exact hk)) (fun k e => by omega)).below (hd _)).avoidA (fun k hk => by omega), ((h.rc.keep hu (fun k e => .inr (by omega))).below (hd _)).avoid (fun k hk => .inl hk), (h.bel.trans hb).trans (hd _)⟩

/-- what Make hands back -/
def MakeR (w : World) (n : Int) (ll : List (List Int)) (e : Ending) (w' : World) : Prop :=
  ∃ bc F sv, e = .returned (.tuple #[.pointer (some ⟨bc, 0, none⟩), .agg #[.int .i64 (makeV n), sv], .bool true]) ∧ HasC (fun k => k < w.heap.size) w' bc F (makeV n) (makeAll n ll) ∧ RefC F w' sv (makeAll n ll) ∧ (∀ k, F k → w.heap.size ≤ k) ∧ Below w.heap.size w w'

set_option maxRecDepth 100000 in
set_option maxHeartbeats 16000000 in
theorem make_any {w : World} {pl : Option Addr} {cl : Nat} {sls : List (Option Addr × Nat × Nat)} {ll : List (List Int)} (n : Int) (hl : RO w (.slice pl ll.length cl) 1 ll.length (slvs sls)) (hn : Nest w sls ll) (hb : ll.length ≤ 9223372036854775807) :
    Calls Try.prog 8 #[.int .i64 n, .slice pl ll.length cl] w (MakeR w n ll) := by
  obtain ⟨v, hv⟩ : ∃ v, makeV n = v := ⟨_, rfl⟩
  have hvi : (v : Int) = max 0 (min n 60) := by rw [← hv, makeV_int]
  have hv60 : v ≤ 60 := by omega
  have HVn := Lib.hid (And.intro hv hvi)
  obtain ⟨N, hN⟩ : ∃ N, ll.length = N := ⟨_, rfl⟩
  have HNN := Lib.hid (And.intro hN hv60)
  rw [hN] at hl hb ⊢
  have H := Lib.hid (And.intro hl hn)
  have hNi : (N : Int) ≤ 9223372036854775807 := by omega
  have hnv : newV (v : Int) = v := by unfold newV; omega
  have HNew := Lib.hid (fun W => by have h := new_any (v : Int) W; rw [hnv] at h; exact h)
  have HHas := Lib.hid (fun A W => by have h := new_has A (v : Int) W; rw [hnv] at h; exact h)
  clear hv hvi hv60 hN hl hn hb hnv
  go_enter Try.func8, Try.ntmps8
  go_upto_region 2 with fail
  rw [← HVn.out.2]
  have HMV := Lib.hid HVn.out.1
  clear HVn
  go_wp2_with fail
  refine (HNew.out _).mono ?_; rintro e w1 ⟨rfl, rfl⟩
  have hH := (HHas.out (fun k => k < w.heap.size + 3) (w.alloc (.cells #[.int .i64 0, .slice none 0 0] 28)))
  have hB5 : Blk (w.alloc (.cells #[.int .i64 0, .slice none 0 0] 28)) w.heap.size 28 [.int .i64 0, .slice none 0 0] := Blk.new _ _
  have hb1 := Below.new w (.cells #[.int .i64 0, .slice none 0 0] 28)
  have hbA := Below.new (w.alloc (.cells #[.int .i64 0, .slice none 0 0] 28)) (.cells #[.int .i64 v, .slice none 0 0] 59)
  have hbB := Below.new ((w.alloc (.cells #[.int .i64 0, .slice none 0 0] 28)).alloc (.cells #[.int .i64 v, .slice none 0 0] 59)) (.cells #[.int .i64 v, .slice none 0 0] 28)
  have hB8 : Blk (((w.alloc (.cells #[.int .i64 0, .slice none 0 0] 28)).alloc (.cells #[.int .i64 v, .slice none 0 0] 59)).alloc (.cells #[.int .i64 v, .slice none 0 0] 28)) ((w.alloc (.cells #[.int .i64 0, .slice none 0 0] 28)).alloc (.cells #[.int .i64 v, .slice none 0 0] 59)).heap.size 28 [.int .i64 v, .slice none 0 0] := Blk.new _ _
  have hH3 := hH.below hbB
  have hB53 := (hB5.next hbA).next hbB
  have hbel : Below w.heap.size w (((w.alloc (.cells #[.int .i64 0, .slice none 0 0] 28)).alloc (.cells #[.int .i64 v, .slice none 0 0] 59)).alloc (.cells #[.int .i64 v, .slice none 0 0] 28)) := Below.next (Below.next hb1 hbA) hbB
  simp only [World.size_alloc] at hH3 hB8
  have H3 := Lib.hid (And.intro hH3 (And.intro hB8 (And.intro hB53 hbel)))
  clear hH hB5 hb1 hbA hbB hB8 hH3 hB53 hbel
  go_wp2_with fail
  generalize ((w.alloc (.cells #[.int .i64 0, .slice none 0 0] 28)).alloc (.cells #[.int .i64 v, .slice none 0 0] 59)).alloc (.cells #[.int .i64 v, .slice none 0 0] 28) = W3 at *
  have h3 : MakeS w v ll 0 (foot (w.heap.size + 1) (.slice none 0 0)) (.slice none 0 0) W3 :=
    ⟨by have := H3.out.1; exact this, RefC.nil _ _, H3.out.2.1, H3.out.2.2.1, (fun k hk => by rcases hk with hk | hk <;> first | omega | cases hk), (fun hk => by rcases hk with hk | hk <;> first | omega | cases hk), (fun hk => by rcases hk with hk | hk <;> first | omega | cases hk), H3.out.2.2.2⟩
  have HS0 := Lib.hid h3
  clear h3 H3
  go_loopw [9] (fun iv wr => ∃ i : Nat, i ≤ N ∧ i ≤ 200 ∧ iv = .int .i64 i ∧ ∃ F sv, MakeS w v ll i F sv wr) (fun iv _ => 200 - (intOf iv).toNat)
  case atStart => exact ⟨0, Nat.zero_le _, Nat.zero_le _, rfl, _, _, HS0.out⟩
  case round =>
    obtain ⟨i, hi, hi2, rfl, F, sv, hS⟩ := hrel
    have HS := Lib.hid hS
    clear hS
    by_cases hlt : i < N ∧ i < 200
    · have hat := slvs_at sls i (by rw [H.out.2.1, HNN.out.1]; exact hlt.1)
      have hrl := H.out.1.below HS.out.bel
      obtain ⟨bl, ol, rfl⟩ := H.out.1.sl hat
      have f0 := hrl.cell hat
      obtain ⟨hs1, hs2, hs3⟩ := H.out.2.2 i (by rw [HNN.out.1]; exact hlt.1)
      unfold slv at f0 hs3
      obtain ⟨l, hle⟩ : ∃ l, ll.getD i [] = l := ⟨_, rfl⟩
      rw [hle] at hs1 hs3
      rw [hs1] at f0 hs3 hs2
      generalize (sls.getD i default).1 = s1 at f0 hs3
      generalize (sls.getD i default).2.2 = s3 at f0 hs3 hs2
      obtain ⟨n1, hn1⟩ : ∃ k, l.length = k := ⟨_, rfl⟩
      rw [hn1] at f0 hs3 hs2
      have hii : (i : Int) < N := by omega
      have hii2 : (i : Int) < 200 := by omega
      have hiw : IntKind.i64.wrap ((i : Int) + 1) = (i : Int) + 1 := i64_of (by omega)
      have HL := Lib.hid (And.intro hle (And.intro hn1 (And.intro hs3 (And.intro hlt hs2))))
      have hl1 := hlt.1
      have hl2 := hlt.2
      clear hat hrl hle hn1 hs1 hs3 hlt hi hi2 hs2
      by_cases h30 : n1 ≤ 30
      · have h30i : decide ((30 : Int) < n1) = false := decide_eq_false (by omega)
        go_upto_region 11 with fail
        have HK : Hid (((ll.getD i []).take 30).length = n1 ∧ RO w (.slice s1 n1 s3) 1 n1 (ints ((ll.getD i []).take 30)) ∧ n1 ≤ 30) := Lib.hid (by
          rw [HL.out.1]
          have hn := HL.out.2.1
          have hr := HL.out.2.2.1
          rw [List.take_of_length_le (by omega)]; exact ⟨hn, hr, h30⟩)
        obtain ⟨L, hL⟩ : ∃ L, (ll.getD i []).take 30 = L := ⟨_, rfl⟩
        rw [hL] at HK
        have HLL := Lib.hid hL
        clear hL
        have hr0 := HK.out.2.1.below HS.out.bel
        have hs0 := Stp.new (base := wr.heap.size) (wc := wr) 3 (Nat.le_refl _)
        have HP := Lib.hid (And.intro hs0 (hr0.below hs0.bel))
        have hwf := makeC_wf (v := v) (by have := HNN.out.2; omega) ll i
        have HW := Lib.hid hwf
        have hK := HK.out.2.2
        clear hr0 hs0 hwf
        go_wp2_with (at_builtin; refine wpList_appR rfl _ _ 23 rfl TInts wr.heap.size (.slice (some ⟨wr.heap.size, 0, none⟩) 0 0) 0 [] rfl HP.out.1.own _ n1 _ rfl HP.out.2 (ints_one _) (by omega) (by omega) (by simp) ?_; intro v8 w8 happ; have hs8 := HP.out.1.app happ; rw [Nat.zero_add, List.nil_append] at hs8; obtain ⟨p8, c8, ev8⟩ := ownsRow_form hs8.own; subst ev8; have H8 := Lib.hid hs8; clear happ hs8)
        have hS8 := HS.out.below H8.out.bel
        have hr8 : RO w8 (.slice p8 n1 c8) 1 L.length (ints L) := by rw [HK.out.1]; exact RO.own H8.out.own
        refine (add_any (A := fun k => k < w.heap.size + 3) (fun k hk => by have := hS8.b8.lt; omega) hS8.hc HW.out hr8 (by rw [HK.out.1]; omega)).mono ?_
        intro e w9 had
        rw [← HLL.out] at had
        obtain ⟨F9, hT⟩ := hS8.add (by rw [HNN.out.1]; exact hl1) had
        obtain ⟨he, -⟩ := had
        rw [HLL.out] at he
        obtain ⟨q, hq⟩ : ∃ q, (addC v (makeC v ll i) L).2 = q := ⟨_, rfl⟩
        rw [hq] at he
        subst he
        have HQ := Lib.hid hq
        have HT := Lib.hid hT
        clear hS8 hr8 hq hT
        have b0 := HT.out.b8.cell (i := 0) rfl
        have b1 := HT.out.b8.cell (i := 1) rfl
        go_wp2_with fail
        have hr9 : RO w9 (.slice s1 n1 s3) 1 L.length (ints L) := by rw [HK.out.1]; exact HK.out.2.1.below HT.out.bel
        refine (radd_any (F := fun k => F9 k ∨ k < w.heap.size + 3) (fun k hk => by
          have h8 := HT.out.b8.lt
          rcases hk with hk | hk
          · exact HT.out.hc.lt k hk
          · omega) HT.out.rc HW.out hr9 (by rw [HK.out.1]; omega)).mono ?_
        rintro e w10 ⟨sv', rfl, hrc, hb10⟩
        rw [HQ.out]
        rw [← HLL.out, ← makeC_succ v ll i (by rw [HNN.out.1]; exact hl1)] at hrc
        obtain ⟨ps2, n2, cs2, rfl⟩ : ∃ p n c, sv' = Value.slice p n c := by obtain ⟨p, c, e⟩ := hrc.form; exact ⟨_, _, _, e⟩
        have hF := HT.out.fin hrc hb10 (.cells #[.int .i64 v, (.slice ps2 n2 cs2)] 28)
        have HF := Lib.hid hF
        have g8 := ((HT.out.b8.next hb10).alloc (.cells #[.int .i64 v, (.slice ps2 n2 cs2)] 28))
        have g0 := g8.cell (i := 0) rfl
        have g1 := g8.cell (i := 1) rfl
        have gf0 := g8.frz 0
        have gf1 := g8.frz 1
        have hb2 : Blk (w10.alloc (.cells #[.int .i64 v, (.slice ps2 n2 cs2)] 28)) w10.heap.size 28 [.int .i64 v, (.slice ps2 n2 cs2)] := Blk.new _ _
        have k0 := hb2.cell (i := 0) rfl
        have k1 := hb2.cell (i := 1) rfl
        clear hr9 hrc hb10 hF g8 hb2
        go_wp2_with fail
        go_roundw
        case rel => exact ⟨i + 1, hl1, hl2, by go_num, F9, _, HF.out⟩
        case measure => simp [intOf]; omega
      · have h30i : decide ((30 : Int) < n1) = true := decide_eq_true (by omega)
        have hs30 : 30 ≤ s3 := by have := HL.out.2.2.2.2; omega
        go_upto_region 11 with fail
        have HK : Hid (((ll.getD i []).take 30).length = 30 ∧ RO w (.slice s1 30 s3) 1 30 (ints ((ll.getD i []).take 30)) ∧ 30 ≤ 30) := Lib.hid (by
          rw [HL.out.1]
          have hn := HL.out.2.1
          have hr := HL.out.2.2.1
          exact ⟨by simp; omega, by rw [← ints_take]; exact hr.takeS (by omega), Nat.le_refl _⟩)
        obtain ⟨L, hL⟩ : ∃ L, (ll.getD i []).take 30 = L := ⟨_, rfl⟩
        rw [hL] at HK
        have HLL := Lib.hid hL
        clear hL
        have hr0 := HK.out.2.1.below HS.out.bel
        have hs0 := Stp.new (base := wr.heap.size) (wc := wr) 3 (Nat.le_refl _)
        have HP := Lib.hid (And.intro hs0 (hr0.below hs0.bel))
        have hwf := makeC_wf (v := v) (by have := HNN.out.2; omega) ll i
        have HW := Lib.hid hwf
        have hK := HK.out.2.2
        clear hr0 hs0 hwf
        go_wp2_with (at_builtin; refine wpList_appR rfl _ _ 23 rfl TInts wr.heap.size (.slice (some ⟨wr.heap.size, 0, none⟩) 0 0) 0 [] rfl HP.out.1.own _ 30 _ rfl HP.out.2 (ints_one _) (by omega) (by omega) (by simp) ?_; intro v8 w8 happ; have hs8 := HP.out.1.app happ; rw [Nat.zero_add, List.nil_append] at hs8; obtain ⟨p8, c8, ev8⟩ := ownsRow_form hs8.own; subst ev8; have H8 := Lib.hid hs8; clear happ hs8)
        have hS8 := HS.out.below H8.out.bel
        have hr8 : RO w8 (.slice p8 30 c8) 1 L.length (ints L) := by rw [HK.out.1]; exact RO.own H8.out.own
        refine (add_any (A := fun k => k < w.heap.size + 3) (fun k hk => by have := hS8.b8.lt; omega) hS8.hc HW.out hr8 (by rw [HK.out.1]; omega)).mono ?_
        intro e w9 had
        rw [← HLL.out] at had
        obtain ⟨F9, hT⟩ := hS8.add (by rw [HNN.out.1]; exact hl1) had
        obtain ⟨he, -⟩ := had
        rw [HLL.out] at he
        obtain ⟨q, hq⟩ : ∃ q, (addC v (makeC v ll i) L).2 = q := ⟨_, rfl⟩
        rw [hq] at he
        subst he
        have HQ := Lib.hid hq
        have HT := Lib.hid hT
        clear hS8 hr8 hq hT
        have b0 := HT.out.b8.cell (i := 0) rfl
        have b1 := HT.out.b8.cell (i := 1) rfl
        go_wp2_with fail
        have hr9 : RO w9 (.slice s1 30 s3) 1 L.length (ints L) := by rw [HK.out.1]; exact HK.out.2.1.below HT.out.bel
        refine (radd_any (F := fun k => F9 k ∨ k < w.heap.size + 3) (fun k hk => by
          have h8 := HT.out.b8.lt
          rcases hk with hk | hk
          · exact HT.out.hc.lt k hk
          · omega) HT.out.rc HW.out hr9 (by rw [HK.out.1]; omega)).mono ?_
        rintro e w10 ⟨sv', rfl, hrc, hb10⟩
        rw [HQ.out]
        rw [← HLL.out, ← makeC_succ v ll i (by rw [HNN.out.1]; exact hl1)] at hrc
        obtain ⟨ps2, n2, cs2, rfl⟩ : ∃ p n c, sv' = Value.slice p n c := by obtain ⟨p, c, e⟩ := hrc.form; exact ⟨_, _, _, e⟩
        have hF := HT.out.fin hrc hb10 (.cells #[.int .i64 v, (.slice ps2 n2 cs2)] 28)
        have HF := Lib.hid hF
        have g8 := ((HT.out.b8.next hb10).alloc (.cells #[.int .i64 v, (.slice ps2 n2 cs2)] 28))
        have g0 := g8.cell (i := 0) rfl
        have g1 := g8.cell (i := 1) rfl
        have gf0 := g8.frz 0
        have gf1 := g8.frz 1
        have hb2 : Blk (w10.alloc (.cells #[.int .i64 v, (.slice ps2 n2 cs2)] 28)) w10.heap.size 28 [.int .i64 v, (.slice ps2 n2 cs2)] := Blk.new _ _
        have k0 := hb2.cell (i := 0) rfl
        have k1 := hb2.cell (i := 1) rfl
        clear hr9 hrc hb10 hF g8 hb2
        go_wp2_with fail
        go_roundw
        case rel => exact ⟨i + 1, hl1, hl2, by go_num, F9, _, HF.out⟩
        case measure => simp [intOf]; omega
    · have he : i = min N 200 := by omega
      have HE := Lib.hid he
      obtain ⟨ps2, n2, cs2, rfl⟩ : ∃ p n c, sv = Value.slice p n c := by obtain ⟨p, c, e⟩ := HS.out.rc.form; exact ⟨_, _, _, e⟩
      have b0 := HS.out.b8.cell (i := 0) rfl
      have b1 := HS.out.b8.cell (i := 1) rfl
      have bf0 := HS.out.b8.frz 0
      have bf1 := HS.out.b8.frz 1
      have z0 := HS.out.b5.cell (i := 0) rfl
      have z1 := HS.out.b5.cell (i := 1) rfl
      have zf0 := HS.out.b5.frz 0
      have zf1 := HS.out.b5.frz 1
      clear he
      by_cases hlN : i < N
      · have hd1 : (i : Int) < N := by omega
        have hd2 : decide ((i : Int) < 200) = false := decide_eq_false (by omega)
        clear hlt hi hi2 hlN
        go_wp2_with fail
        go_region
        go_wp2_with fail
        obtain ⟨hB, hC, hR, hL⟩ := HS.out.fin
        have q0 := hB.cell (i := 0) rfl
        have q1 := hB.cell (i := 1) rfl
        refine bodyPost_ret (v := .tuple #[.pointer (some ⟨w.heap.size + 1, 0, none⟩), .agg #[.int .i64 v, .slice ps2 n2 cs2], .bool true]) (by simp [results, Try.results8, go_sem, q0, q1]) rfl ?_
        unfold MakeR makeAll
        rw [HMV.out, HNN.out.1, ← HE.out]
        exact ⟨_, _, _, rfl, hC, hR, HS.out.ge, hL⟩
      · obtain rfl : i = N := by omega
        clear hlt hi hi2 hlN
        go_wp2_with fail
        go_region
        go_wp2_with fail
        obtain ⟨hB, hC, hR, hL⟩ := HS.out.fin
        have q0 := hB.cell (i := 0) rfl
        have q1 := hB.cell (i := 1) rfl
        refine bodyPost_ret (v := .tuple #[.pointer (some ⟨w.heap.size + 1, 0, none⟩), .agg #[.int .i64 v, .slice ps2 n2 cs2], .bool true]) (by simp [results, Try.results8, go_sem, q0, q1]) rfl ?_
        unfold MakeR makeAll
        rw [HMV.out, HNN.out.1, ← HE.out]
        exact ⟨_, _, _, rfl, hC, hR, HS.out.ge, hL⟩
end Go.Proofs.Ytcifiibpiooeiaa
