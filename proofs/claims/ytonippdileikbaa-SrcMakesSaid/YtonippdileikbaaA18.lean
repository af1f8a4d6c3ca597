import Derived.Test.YtonippdileikbaaA17
namespace Go.Proofs.Ytonippdileikbaa
set_option linter.unusedVariables false
open Go.RowKit

/-- a world that is w with new blocks -/
structure After (w : World) where
  val : World
  below : Below w.heap.size w val
instance (w : World) : Nonempty (After w) := ⟨⟨w, Below.refl _ _⟩⟩
theorem After.cell {w : World} {a : Addr} {v : Value} (h : w.cell? a = some v) (s : After w) : s.val.cell? a = some v := (s.below.cell (World.block_lt_of_cell? _ _ h)).trans h
theorem wp_region_after {P : Program} {id : Nat} {Q : Exit → Act → World → Prop} {a : Act} {w : World} {l : List Oper} (hm : P.follows .mixedOrders = true) (hB : Region.lexB .any l.toArray = true)
    (h : wpQuiet P l.toArray (fun w' => ∃ s : After w, w' = s.val) (fun a' => ∀ w', (∃ s : After w, w' = s.val) → Q .normal a' w') l a) : (Code.region id l.toArray true).wp P Q a w :=
  wp_region_quiet (C := fun w' => ∃ s : After w, w' = s.val) hm hB ⟨⟨w.drew, (Below.refl _ _).drew⟩, rfl⟩ (by simpa using h)
theorem Calls.after_of {P : Program} {f : FuncId} {args : Array Value} {w : World} {s : After w} {v : Value}
    (h : Calls P f args s.val fun e w' => e = .returned v ∧ Below s.val.heap.size s.val w') : Calls P f args s.val fun e w'' => e = .returned v ∧ ∃ t : After w, w'' = t.val :=
  h.mono fun _ w' ⟨he, hb⟩ => ⟨he, ⟨w', s.below.trans (hb.mono s.below.size)⟩, rfl⟩

theorem new_any {w : World} (v : Value) (fs : List Fil) (hr : RO w v 2 fs.length (filCells fs)) (hl : fs.length ≤ 1000000) (hsz : ∀ i, i < fs.length → (fs.getD i default).name.size ≤ maxLen) (htz : ∀ i, i < fs.length → (fs.getD i default).text.size ≤ 140737488355328) : Calls Try.prog 10 #[v] w (NewPost w fs) := by
  by_cases h1 : 16 < fs.length
  · exact new_many v fs hr hl h1
  · by_cases h2 : badName fs
    · exact new_bad v fs hr (by omega) hsz h2
    · exact new_rest v fs hr (by omega) hsz htz h2

/-- the table of the files fs -/
structure Made (w : World) (bt : Nat) (ps : List Part) (fs : List Fil) : Prop where
  tab : Tab w bt ps
  len : ps.length = fs.length
  nm : ∀ i, i < fs.length → (ps.getD i default).name = (fs.getD i default).name
  tx : ∀ i, i < fs.length → (ps.getD i default).text = (fs.getD i default).text
  kn : ∀ i, i < fs.length → Known w (ps.getD i default) (starts (fs.getD i default).text)
theorem Made.below {w w' bt ps fs} (h : Made w bt ps fs) (hb : Below w.heap.size w w') : Made w' bt ps fs := ⟨h.tab.below hb, h.len, h.nm, h.tx, fun i hi => (h.kn i hi).below hb⟩

def NewOk (w : World) (fs : List Fil) (e : Ending) (w' : World) : Prop := ∃ bt ps, e = .returned (.tuple #[.pointer (some ⟨bt, 0, none⟩), .int .i64 0]) ∧ Made w' bt ps fs ∧ Far w.heap.size w' bt ps ∧ Below w.heap.size w w'
theorem new_ok {w : World} (v : Value) (fs : List Fil) (hr : RO w v 2 fs.length (filCells fs)) (he : NewErr fs 0) (hsz : ∀ i, i < fs.length → (fs.getD i default).name.size ≤ maxLen) (htz : ∀ i, i < fs.length → (fs.getD i default).text.size ≤ 140737488355328) : Calls Try.prog 10 #[v] w (NewOk w fs) := by
  have hl : fs.length ≤ 1000000 := by
    rcases he with h | h | h | h | h
    · omega
    all_goals exact Nat.le_trans h.1 (by decide)
  refine (new_any v fs hr hl hsz htz).mono ?_
  rintro e w' ⟨err, p, h1, rfl, hb, _, hm⟩
  obtain rfl := NewErr.one h1 he
  obtain ⟨bt, ps, rfl, ht, hl, hfar, hx⟩ := hm rfl
  exact ⟨bt, ps, rfl, ⟨ht, hl, fun i hi => (hx i hi).1, fun i hi => (hx i hi).2.1, fun i hi => (hx i hi).2.2⟩, hfar, hb⟩

theorem err_one (nm tx : ByteArray) (hn : isName nm = true) (ht : tx.size ≤ 32768) : NewErr [⟨nm, tx⟩] 0 := by
  refine .inr (.inr (.inr (.inr ⟨by simp, ?_, ?_, by simpa [total] using ht, rfl⟩)))
  · rintro ⟨i, hi, h⟩
    obtain rfl : i = 0 := by simpa using hi
    simp [hn] at h
  · rintro ⟨i, j, hj, hi, h⟩
    simp at hi; omega

theorem Made.small {w bt ps fs} (h : Made w bt ps fs) (hl : fs.length ≤ 100000) : ps.length ≤ 100000 := h.len ▸ hl
theorem pos_made {w bt ps fs} (h : Made w bt ps fs) (hl : fs.length ≤ 100000) (n m : Nat) (f : Fil) (hf : fs.getD n default = f) (hn : n < fs.length) (hm : m ≤ f.text.size) :
    Calls Try.prog 18 #[.pointer (some ⟨bt, 0, none⟩), .int .i64 ((n : Int) + 1), .int .i64 m] w fun e w' => ∃ k, LineOf (starts f.text) m k ∧ e = .returned (.tuple #[.agg #[.int .i64 ((n : Int) + 1), .int .i64 ((k : Int) + 1), .int .i64 (1 + m - (starts f.text).getD k 0)], .int .i64 0]) ∧ Below w.heap.size w w' := by
  subst hf
  obtain ⟨h1, h2, h3⟩ := stTo_facts (fs.getD n default).text.data.toList (fs.getD n default).text.size
  exact pos_in h.tab n m (h.len ▸ hn) (h.small hl) (h.kn n hn) (by rw [h.tx n hn]; exact hm) (starts_len _).1 h3 h2

theorem lines_made {w bt ps fs} (h : Made w bt ps fs) (hl : fs.length ≤ 100000) (n : Nat) (f : Fil) (hf : fs.getD n default = f) (hn : n < fs.length) :
    Calls Try.prog 15 #[.pointer (some ⟨bt, 0, none⟩), .int .i64 ((n : Int) + 1)] w fun e w' => e = .returned (.int .i64 (starts f.text).length) ∧ Below w.heap.size w w' := by
  subst hf
  have := lines_in h.tab n (h.len ▸ hn) (h.small hl)
  have hc : (ps.getD n default).sn = _ := (h.kn n hn).ro.count
  rw [hc] at this
  exact this

theorem RO.far {w : World} {v : Value} {size n : Nat} {cs : List Value} (h : RO w v size n cs) {a : Addr} (ha : v.ownBlock ≠ some a.block) (u : Value) : RO (w.setCell a u) v size n cs := by
  obtain ⟨h1, p, c, rfl, h3⟩ := h
  refine ⟨h1, p, c, rfl, fun j x hj => ?_⟩
  obtain ⟨b, o, rfl, hc⟩ := h3 j x hj
  refine ⟨b, o, rfl, ?_⟩
  rw [World.cell?_setCell_far _ _ _ _ (fun e => ha (by simp [Value.ownBlock, e]))]
  exact hc
theorem Made.far {w bt ps fs B} (h : Made w bt ps fs) (hf : Far B w bt ps) {a : Addr} (ha : a.block < B) (u : Value) : Made (w.setCell a u) bt ps fs ∧ Far B (w.setCell a u) bt ps := by
  obtain ⟨f1, ⟨v, f2, f3⟩, f4⟩ := hf
  have hc : (w.setCell a u).cell? ⟨bt, 0, none⟩ = some v := by
    rw [World.cell?_setCell_far _ _ _ _ (by show a.block ≠ bt; omega)]; exact f2
  have hne : ∀ k, B ≤ k → k ≠ a.block := fun k hk => by omega
  refine ⟨⟨?_, h.len, h.nm, h.tx, fun i hi => ?_⟩, f1, ⟨v, hc, f3⟩, f4⟩
  · obtain ⟨v', h1, h2⟩ := h.tab
    obtain rfl : v' = v := by rw [h1] at f2; simpa using f2
    exact ⟨v', hc, h2.far (fun e => hne _ (f3 _ e) rfl) u⟩
  · have hk := h.kn i hi
    exact ⟨hk.ro.far (fun e => hne _ (f4 i (h.len ▸ hi) _ e) rfl) u, hk.len, hk.tx, hk.bd⟩
theorem Far.below {B w w' bt ps} (h : Far B w bt ps) (hb : Below w.heap.size w w') : Far B w' bt ps := by
  obtain ⟨f1, ⟨v, f2, f3⟩, f4⟩ := h
  exact ⟨f1, ⟨v, (hb.cell (World.block_lt_of_cell? _ _ f2)).trans f2, f3⟩, f4⟩

def awTx : ByteArray := ⟨#[97, 10, 98, 99]⟩
def awNm : ByteArray := ⟨#[97, 46, 118]⟩
theorem aw_name : isName awNm = true := by decide +kernel
theorem aw_starts : starts awTx = [0, 2] := by decide +kernel
theorem ro_one {w : World} {b : Nat} {t : TypeId} (nm tx : ByteArray) (h : Blk w b t [.string nm, .string tx]) : RO w (.slice (some ⟨b, 0, none⟩) 1 1) 2 [(⟨nm, tx⟩ : Fil)].length (filCells [⟨nm, tx⟩]) := by
  refine ⟨rfl, _, _, rfl, fun j u hj => ⟨b, 0, rfl, ?_⟩⟩
  rw [Nat.zero_add]
  exact h.cell hj
theorem aw_line (k : Nat) (h : LineOf [0, 2] 3 k) : k = 1 := by
  have h1 := h.lt
  rcases k with _ | _ | k
  · have := h.hi (by simp); simp at this
  · rfl
  · simp at h1; omega

set_option maxHeartbeats 2000000 in
theorem awake_any (w : World) : Calls Try.prog 8 #[] w fun e w' => e = .returned (.bool true) ∧ Below w.heap.size w w' := by
  have HN := Lib.hid (new_ok (w := w.alloc (.cells #[.string awNm, .string awTx] 34)) (.slice (some ⟨w.heap.size, 0, none⟩) 1 1) [⟨awNm, awTx⟩] (ro_one awNm awTx (Blk.new 34 _)) (err_one _ _ aw_name (by decide)) (fun i hi => by
      obtain rfl : i = 0 := by simpa using hi
      simp [awNm, maxLen, ByteArray.size]) (fun i hi => by
      obtain rfl : i = 0 := by simpa using hi
      simp [awTx, ByteArray.size]))
  go_enter Try.func8, Try.ntmps8
  go_wp2_with fail
  refine HN.out.mono ?_; rintro e w1 ⟨bt, ps, rfl, hM, _, hb⟩
  have hb1 : Below w.heap.size w w1 := Below.then ((Below.refl _ _).alloc (Nat.le_refl _) _) hb (Nat.le_refl _)
  have HM := Lib.hid (And.intro hM hb1)
  clear hM hb hb1
  go_wp2_with fail
  have hP := pos_made HM.out.1 (by simp) 0 3 ⟨awNm, awTx⟩ rfl (by simp) (by decide)
  rw [aw_starts] at hP
  have hP := Lib.hid hP
  refine hP.out.mono ?_; rintro e w2 ⟨k, hk, rfl, hb2⟩
  obtain rfl := aw_line k hk
  have hb2' := HM.out.2.trans (hb2.mono HM.out.2.size)
  have HM2 := Lib.hid (And.intro (HM.out.1.below hb2) hb2')
  clear hb2 hb2' hk
  rw [show (((0 : Nat) : Int) + 1) = 1 from rfl, show (((1 : Nat) : Int) + 1) = 2 from rfl, show (1 + ((3 : Nat) : Int) - ([0, 2] : List Int).getD 1 0) = 2 from rfl]
  go_wp2_with fail
  have HL := Lib.hid (lines_made (HM2.out.1.below ((Below.refl _ _).alloc (Nat.le_refl _) (Obj.cells #[Value.int .i64 1, Value.int .i64 2, Value.int .i64 2] 44))) (by simp) 0 ⟨awNm, awTx⟩ rfl (by simp))
  rw [aw_starts, show (((0 : Nat) : Int) + 1) = 1 from rfl, show (([0, 2] : List Int).length : Int) = 2 from rfl] at HL
  refine HL.out.mono ?_; rintro e w3 ⟨rfl, hb3⟩
  have HB := Lib.hid (Below.then (HM2.out.2.alloc HM2.out.2.size (Obj.cells #[Value.int .i64 1, Value.int .i64 2, Value.int .i64 2] 44)) hb3 (Nat.le_refl _))
  clear hb3
  go_wp2_with fail
  go_ret
  exact ⟨rfl, HB.out⟩
end Go.Proofs.Ytonippdileikbaa
