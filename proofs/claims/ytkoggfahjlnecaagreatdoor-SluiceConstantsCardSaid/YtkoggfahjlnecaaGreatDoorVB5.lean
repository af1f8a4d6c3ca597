
import Derived.Test.YtkoggfahjlnecaaGreatDoorVB4
import Derived.Laws.BytesString
namespace Go.Proofs.YtkoggfahjlnecaaGreatDoor
set_option linter.unusedVariables false
open Go.RowKit
theorem Tryz.info4 : (Tryz.prog.info? 4).map (fun i => (i.zero, i.size, i.bytes)) = some (some (.bool false), 1, 1) := by kernel_rfl
set_option maxRecDepth 100000 in
theorem mk_bools (n : Nat) (hn : n ≤ 1000000) (w : World) : (Instr.makeSlice 113 (.int .i64 n) (.int .i64 n)).run Tryz.prog w = .ok (.slice (some ⟨w.heap.size, 0, none⟩) n n) (w.alloc (.cells (bools (List.replicate n false)).toArray 4)) := by
  obtain ⟨i0, hi, hz0, hz1, hz2⟩ := info_parts Tryz.info4
  have h := run_make (P := Tryz.prog) w 113 4 i0 _ Tryz.underlying113 hi hz0 .i64 .i64 n n (by omega) (by omega) (by rw [hz2]; omega) (by omega)
  rw [h, hz1]
  simp only [Int.toNat_natCast, Nat.mul_one, Value.cells]
  congr 3
  apply Array.ext'
  rw [toList_madeCells_one]
  simp [bools]
def rl (n : Nat) (f : Nat → Bool) : List Bool := (List.range n).map f
theorem rl_length (n f) : (rl n f).length = n := by simp [rl]
theorem rl_congr {n : Nat} {f g : Nat → Bool} (h : ∀ i, i < n → f i = g i) : rl n f = rl n g := List.map_congr_left fun i hi => h i (List.mem_range.1 hi)
theorem rl_set (n : Nat) (f : Nat → Bool) (k : Nat) (q : Bool) : (rl n f).set k q = rl n (fun i => if i = k then q else f i) := by
  apply List.ext_getElem?
  intro j
  rw [List.getElem?_set]
  simp only [rl, List.getElem?_map, List.length_map, List.length_range]
  by_cases hj : j < n
  · rw [List.getElem?_range hj]
    by_cases e : k = j
    · subst e; simp [hj]
    · have : ¬ j = k := fun h => e h.symm
      simp [e, this]
  · rw [List.getElem?_eq_none (by simpa using hj)]
    split
    · rename_i e; subst e; simp [hj]
    · rfl
theorem rl_false (n : Nat) : rl n (fun _ => false) = List.replicate n false := by
  apply List.ext_getElem?
  intro j
  simp only [rl, List.getElem?_map, List.getElem?_replicate]
  by_cases hj : j < n
  · rw [List.getElem?_range hj, if_pos hj]; rfl
  · rw [List.getElem?_eq_none (by simpa using hj), if_neg hj]; rfl
theorem rl_getD (n : Nat) (f : Nat → Bool) (k : Nat) (h : k < n) : (rl n f).getD k false = f k := by
  rw [rl, List.getD, List.getElem?_map, List.getElem?_range h]; rfl
set_option maxRecDepth 100000 in
set_option maxHeartbeats 4000000 in
theorem bits_any {w : World} {va : Value} {n A : Nat} (hA : VR w va n A) : Calls Tryz.prog 49 #[va] w fun e w' => ∃ v, e = .returned v ∧ RO w' v 1 n (bools (bitsOf n A)) ∧ Below w.heap.size w w' := by
  have hn128 := hA.le
  have hni : (n : Int) ≤ 128 := by omega
  have HBit : Hid (∀ w' (k : Nat), Below w.heap.size w w' → Calls Tryz.prog 44 #[va, .int .i64 k] w' fun e w'' => e = .returned (.bool (A.testBit k)) ∧ Below w'.heap.size w' w'') := Lib.hid fun w' k hb => by
    have := bit_any (hA.below hb) k
    rwa [show bitI A (k : Int) = A.testBit k by unfold bitI; simp] at this
  obtain ⟨pa, ca, rfl, ra⟩ := hA.ex
  have hmk := fun w => mk_bools n (by omega) w
  have HN := Lib.hid hn128
  clear hA ra hn128
  go_enter Tryz.func49, Tryz.ntmps49
  go_wp2_with fail
  have k0 := (Blk.new (w := w) 39 [.int .i64 n, .slice pa (wcount n) ca]).alloc (.cells (bools (List.replicate n false)).toArray 4)
  have k1 := Blk.new (w := w.alloc (.cells #[.int .i64 n, .slice pa (wcount n) ca] 39)) 4 (bools (List.replicate n false))
  have hb : Below w.heap.size w ((w.alloc (.cells #[.int .i64 n, .slice pa (wcount n) ca] 39)).alloc (.cells (bools (List.replicate n false)).toArray 4)) := (Below.new _ _).alloc (by simp) _
  rw [World.size_alloc] at k1
  have HK := Lib.hid (And.intro k0 (And.intro k1 hb))
  clear k0 k1 hb hmk
  generalize (w.alloc (.cells #[.int .i64 n, .slice pa (wcount n) ca] 39)).alloc (.cells (bools (List.replicate n false)).toArray 4) = W at *
  go_loopw [10] (fun i wr => ∃ k : Nat, k ≤ n ∧ i = .int .i64 k ∧ Blk wr w.heap.size 39 [.int .i64 n, .slice pa (wcount n) ca] ∧ Blk wr (w.heap.size + 1) 4 (bools (rl n fun j => decide (j < k) && A.testBit j)) ∧ Below w.heap.size w wr) (fun i _ => n - (intOf i).toNat)
  case atStart =>
    refine ⟨0, Nat.zero_le _, rfl, HK.out.1, ?_, HK.out.2.2⟩
    have : (rl n fun j => decide (j < 0) && A.testBit j) = List.replicate n false := by rw [← rl_false]; exact rl_congr fun i _ => by simp
    rw [this]; exact HK.out.2.1
  case round =>
    obtain ⟨k, hk, rfl, h0, h1, hbel⟩ := hrel
    have HR := Lib.hid (And.intro h0 (And.intro h1 hbel))
    have c0 := h0.cell (i := 0) rfl
    have c1 := h0.cell (i := 1) rfl
    by_cases hlt : k < n
    · have hki : (k : Int) < n := by omega
      have HC := Lib.hid (HBit.out wr k hbel)
      have HS : Hid ((bools (rl n fun j => decide (j < k) && A.testBit j)).set k (.bool (A.testBit k)) = bools (rl n fun j => decide (j < k + 1) && A.testBit j)) := Lib.hid (by
        rw [bools_set, rl_set]
        congr 1
        exact rl_congr fun i hi => by
          by_cases e : i = k
          · subst e; simp
          · by_cases e2 : i < k
            · have : i < k + 1 := by omega
              simp [e, e2, this]
            · have : ¬ i < k + 1 := by omega
              simp [e, e2, this])
      have hat := bools_at (rl n fun j => decide (j < k) && A.testBit j) k (by rw [rl_length]; exact hlt)
      have HAt := Lib.hid hat
      generalize A.testBit k = q at *
      clear h0 h1 hbel hat
      go_wp2_with fail
      refine HC.out.mono ?_; rintro e w2 ⟨rfl, hb2⟩
      have h1' := HR.out.2.1.next hb2
      have d0 := h1'.cell HAt.out
      have d1 := h1'.frz k
      have HR2 := Lib.hid (And.intro (HR.out.1.next hb2) (And.intro h1' (HR.out.2.2.trans (hb2.mono HR.out.2.2.size))))
      clear hb2 h1' c0 c1
      go_wp2_with fail
      go_roundw
      case rel => exact ⟨k + 1, by omega, by go_num, HR2.out.1.other _ (by show w.heap.size ≠ w.heap.size + 1; omega), by rw [← HS.out]; exact HR2.out.2.1.set k _, HR2.out.2.2.setCell (Nat.le_succ _) _⟩
      case measure => simp [intOf]; omega
    · obtain rfl : k = n := by omega
      have hfin : (rl k fun j => decide (j < k) && A.testBit j) = bitsOf k A := rl_congr fun i hi => by simp [hi]
      have HF := Lib.hid hfin
      clear h0 h1 hbel hlt hfin
      go_wp2_with fail
      go_ret
      refine ⟨_, rfl, ?_, HR.out.2.2⟩
      have hk1 := HR.out.2.1
      rw [HF.out] at hk1
      exact ⟨by simp [bools, bitsOf], _, _, rfl, fun j u hj => ⟨_, _, rfl, by rw [Nat.zero_add]; exact hk1.cell hj⟩⟩
end Go.Proofs.YtkoggfahjlnecaaGreatDoor
namespace Go.Proofs.YtkoggfahjlnecaaGreatDoor
set_option linter.unusedVariables false
open Go.RowKit
theorem Tryz.info5 : (Tryz.prog.info? 5).map (fun i => (i.zero, i.size, i.bytes)) = some (some (.int .u8 0), 1, 1) := by kernel_rfl
def chr (q : Bool) : Int := if q then 49 else 48
def u8s (l : List Int) : List Value := l.map (.int .u8 ·)
def rn (n : Nat) (f : Nat → Int) : List Int := (List.range n).map f
theorem rn_congr {n : Nat} {f g : Nat → Int} (h : ∀ i, i < n → f i = g i) : rn n f = rn n g := List.map_congr_left fun i hi => h i (List.mem_range.1 hi)
theorem u8s_at (n : Nat) (f : Nat → Int) (k : Nat) (h : k < n) : (u8s (rn n f))[k]? = some (.int .u8 (f k)) := by simp [u8s, rn, h]
theorem u8s_set (n : Nat) (f : Nat → Int) (k : Nat) (q : Int) : (u8s (rn n f)).set k (.int .u8 q) = u8s (rn n (fun i => if i = k then q else f i)) := by
  apply List.ext_getElem?
  intro j
  rw [List.getElem?_set]
  simp only [u8s, rn, List.getElem?_map, List.length_map, List.length_range]
  by_cases hj : j < n
  · rw [List.getElem?_range hj]
    by_cases e : k = j
    · subst e; simp [hj]
    · have : ¬ j = k := fun h => e h.symm
      simp [e, this]
  · rw [List.getElem?_eq_none (by simpa using hj)]
    split
    · rename_i e; subst e; simp [hj]
    · rfl
set_option maxRecDepth 100000 in
theorem mk_bytes (n : Nat) (hn : n ≤ 1000000) (w : World) : (Instr.makeSlice 185 (.int .i64 n) (.int .i64 n)).run Tryz.prog w = .ok (.slice (some ⟨w.heap.size, 0, none⟩) n n) (w.alloc (.cells (u8s (rn n fun _ => 0)).toArray 5)) := by
  obtain ⟨i0, hi, hz0, hz1, hz2⟩ := info_parts Tryz.info5
  have h := run_make (P := Tryz.prog) w 185 5 i0 _ Tryz.underlying185 hi hz0 .i64 .i64 n n (by omega) (by omega) (by rw [hz2]; omega) (by omega)
  rw [h, hz1]
  simp only [Int.toNat_natCast, Nat.mul_one, Value.cells]
  congr 3
  apply Array.ext'
  rw [toList_madeCells_one]
  apply List.ext_getElem?
  intro j
  simp only [u8s, rn, List.getElem?_map, List.getElem?_replicate]
  by_cases hj : j < n
  · rw [List.getElem?_range hj, if_pos hj]; rfl
  · rw [List.getElem?_eq_none (by simpa using hj), if_neg hj]; rfl
/-- the bits as 0 and 1, the highest first -/
def textL (n A : Nat) : List UInt8 := (List.range n).map fun j => if A.testBit (n - 1 - j) then 49 else 48
def textS (n A : Nat) : ByteArray := ⟨(textL n A).toArray⟩
theorem fold_push (ns : List Int) : ∀ s : ByteArray, (ns.foldl (fun r n => r.push (UInt8.ofNat n.toNat)) s) = ⟨(s.data.toList ++ ns.map fun n => UInt8.ofNat n.toNat).toArray⟩ := by
  induction ns with
  | nil => intro s; simp
  | cons n ns ih =>
    intro s
    rw [List.foldl_cons, ih]
    simp
theorem run_text {w : World} {b n A : Nat} {t : TypeId} (h : Blk w b t (u8s (rn n fun j => chr (A.testBit (n - 1 - j))))) (c : Nat) :
    (convert 185 9 (.slice (some ⟨b, 0, none⟩) n c)).run Tryz.prog w = .ok (.string (textS n A)) w := by
  rw [run_convert_bytes_string w 185 9 5 _ n c Tryz.underlying185 Tryz.underlying5 Tryz.underlying9]
  rw [run_bytesToString w ⟨b, 0, none⟩ n c (rn n fun j => chr (A.testBit (n - 1 - j)))]
  · congr 2
    rw [fold_push]
    unfold textS textL
    congr 2
    simp only [rn, List.map_map, ByteArray.empty]
    show [] ++ _ = _
    rw [List.nil_append]
    apply List.map_congr_left
    intro j _
    show UInt8.ofNat (chr _).toNat = _
    cases A.testBit (n - 1 - j) <;> rfl
  · rw [run_loadCells w ⟨b, 0, none⟩ n (fun j => .int .u8 (chr (A.testBit (n - 1 - j)))) (fun j hj => by
      have hadd : (⟨b, 0, none⟩ : Addr).add j = ⟨b, j, none⟩ := by unfold Addr.add; split <;> simp_all
      rw [hadd]
      exact h.cell (u8s_at n _ j hj))]
    simp [rn]
end Go.Proofs.YtkoggfahjlnecaaGreatDoor
namespace Go.Proofs.YtkoggfahjlnecaaGreatDoor
set_option linter.unusedVariables false
open Go.RowKit
/-- what Slice gives: bit j is bit lo + j of A -/
def sliceF (A lo : Nat) (j : Nat) : Bool := A.testBit (lo + j)
theorem bitI_add (A lo k : Nat) : bitI A ((lo : Int) + (k : Int)) = sliceF A lo k := by
  unfold bitI sliceF
  rw [decide_eq_true (by omega), show ((lo : Int) + (k : Int)).toNat = lo + k by omega, Bool.true_and]
set_option maxRecDepth 100000 in
set_option maxHeartbeats 4000000 in
theorem slice_bad {w : World} {va : Value} {n A : Nat} (hA : VR w va n A) (lo k : Int) (hb : lo < 0 ∨ k < 1 ∨ (n : Int) < k ∨ (n : Int) - k < lo) :
    Calls Tryz.prog 45 #[va, .int .i64 lo, .int .i64 k] w (RetE w 0 0 3) := by
  have hn128 := hA.le
  have hni : (n : Int) ≤ 128 := by omega
  obtain ⟨pa, ca, rfl, ra⟩ := hA.ex
  have HB : Hid (∀ w1 : World, Below w.heap.size w ((w1.alloc (.cells #[.int .i64 n, .slice pa (wcount n) ca] 39))) → True) := Lib.hid fun _ _ => trivial
  have hbel : Below w.heap.size w ((w.alloc (.cells #[.int .i64 n, .slice pa (wcount n) ca] 39)).alloc (.cells #[.int .i64 0, .slice none 0 0] 39)) := (Below.new _ _).alloc (by simp) _
  have HBel := Lib.hid hbel
  clear hA ra hn128 HB hbel
  by_cases h0 : lo < 0
  · clear hb
    go_enter Tryz.func45, Tryz.ntmps45
    go_wp2_with fail
    exact bodyPost_ret (v := .tuple #[.agg #[.int .i64 0, .slice none 0 0], .int .i64 3]) (by simp [results, Tryz.results45, go_sem]) rfl ⟨_, rfl, VR.zero _, HBel.out, Far.zero _ _⟩
  by_cases h1 : k < 1
  · clear hb
    have g0 : decide (lo < 0) = false := by simp; omega
    go_enter Tryz.func45, Tryz.ntmps45
    go_wp2_with fail
    exact bodyPost_ret (v := .tuple #[.agg #[.int .i64 0, .slice none 0 0], .int .i64 3]) (by simp [results, Tryz.results45, go_sem]) rfl ⟨_, rfl, VR.zero _, HBel.out, Far.zero _ _⟩
  by_cases h2 : (n : Int) < k
  · clear hb
    have g0 : decide (lo < 0) = false := by simp; omega
    have g1 : decide (k < 1) = false := by simp; omega
    go_enter Tryz.func45, Tryz.ntmps45
    go_wp2_with fail
    exact bodyPost_ret (v := .tuple #[.agg #[.int .i64 0, .slice none 0 0], .int .i64 3]) (by simp [results, Tryz.results45, go_sem]) rfl ⟨_, rfl, VR.zero _, HBel.out, Far.zero _ _⟩
  · have h3 : (n : Int) - k < lo := by omega
    have g0 : decide (lo < 0) = false := by simp; omega
    have g1 : decide (k < 1) = false := by simp; omega
    have g2 : decide ((n : Int) < k) = false := by simp; omega
    have hw : IntKind.i64.wrap ((n : Int) - k) = (n : Int) - k := IntWalk.i64_in _ (by omega)
    clear hb
    go_enter Tryz.func45, Tryz.ntmps45
    go_wp2_with fail
    exact bodyPost_ret (v := .tuple #[.agg #[.int .i64 0, .slice none 0 0], .int .i64 3]) (by simp [results, Tryz.results45, go_sem]) rfl ⟨_, rfl, VR.zero _, HBel.out, Far.zero _ _⟩
set_option maxRecDepth 100000 in
set_option maxHeartbeats 4000000 in
theorem slice_good {w : World} {va : Value} {n A : Nat} (hA : VR w va n A) (lo m : Nat) (hm : 1 ≤ m) (hlm : lo + m ≤ n) :
    Calls Tryz.prog 45 #[va, .int .i64 lo, .int .i64 m] w (RetE w m (ofB (sliceF A lo) m) 0) := by
  have HA := Lib.hid hA
  have hn128 := hA.le
  have hni : (n : Int) ≤ 128 := by omega
  have hmi : (1 : Int) ≤ m := by omega
  have g0 : decide ((lo : Int) < 0) = false := by simp
  have g1 : decide ((m : Int) < 1) = false := by simp; omega
  have g2 : decide ((n : Int) < m) = false := by simp; omega
  have g3 : decide ((n : Int) - m < lo) = false := by simp; omega
  have g4 : (lo : Int) + m ≤ n := by omega
  have hw : IntKind.i64.wrap ((n : Int) - m) = (n : Int) - m := IntWalk.i64_in _ (by omega)
  have HBit := Lib.hid (fun w' (hb : Below w.heap.size w w') => bit_any (hA.below hb))
  obtain ⟨pa, ca, rfl, ra⟩ := hA.ex
  have HBl := Lib.hid (fun w => blank_any (w := w) m (by omega))
  clear hA ra hn128 hm hlm
  go_enter Tryz.func45, Tryz.ntmps45
  go_wp2_with fail
  have k0 := (Blk.new (w := w) 39 [.int .i64 n, .slice pa (wcount n) ca]).alloc (.cells #[.int .i64 0, .slice none 0 0] 39)
  have k2 := Blk.new (w := (w.alloc (.cells #[.int .i64 n, .slice pa (wcount n) ca] 39))) 39 [.int .i64 0, .slice none 0 0]
  have hb3 : Below w.heap.size w ((w.alloc (.cells #[.int .i64 n, .slice pa (wcount n) ca] 39)).alloc (.cells #[.int .i64 0, .slice none 0 0] 39)) := (Below.new _ _).alloc (by simp) _
  simp only [World.size_alloc] at k2
  generalize (w.alloc (.cells #[.int .i64 n, .slice pa (wcount n) ca] 39)).alloc (.cells #[.int .i64 0, .slice none 0 0] 39) = W at *
  have HK := Lib.hid (And.intro k0 (And.intro k2 hb3))
  clear k0 k2 hb3
  refine (HBl.out _).mono ?_; rintro e w1 ⟨v, b, rfl, hV, hge, hb1⟩
  obtain rfl := hV.e
  have hS := Bld.start (w := w) (bs := [(w.heap.size, [.int .i64 n, .slice pa (wcount n) ca]), (w.heap.size + 1, [.int .i64 0, .slice none 0 0])]) (by
    intro p hp
    simp only [List.mem_cons, List.not_mem_nil, or_false] at hp
    rcases hp with rfl | rfl
    · exact HK.out.1
    · exact HK.out.2.1) HK.out.2.2 hb1 hV hge
  have hS2 := Lib.hid (hS.push [.int .i64 m, .slice (some ⟨b, 0, none⟩) (wcount m) (wcount m)])
  clear hV hb1 hS hge
  go_wp2_with fail
  generalize w1.alloc (.cells #[.int .i64 m, .slice (some ⟨b, 0, none⟩) (wcount m) (wcount m)] 39) = w2 at *
  generalize w1.heap.size = L at *
  generalize hbs : [(L, [Value.int IntKind.i64 m, Value.slice (some ⟨b, 0, none⟩) (wcount m) (wcount m)]), (w.heap.size, [Value.int IntKind.i64 n, Value.slice pa (wcount n) ca]), (w.heap.size + 1, [Value.int IntKind.i64 0, Value.slice none 0 0])] = bs at *
  have hL : (L, [Value.int IntKind.i64 m, Value.slice (some ⟨b, 0, none⟩) (wcount m) (wcount m)]) ∈ bs := by rw [← hbs]; simp
  have ha : (w.heap.size, [Value.int IntKind.i64 n, Value.slice pa (wcount n) ca]) ∈ bs := by rw [← hbs]; simp
  have hR : (w.heap.size + 1, [Value.int IntKind.i64 0, Value.slice none 0 0]) ∈ bs := by rw [← hbs]; simp
  have HS := Lib.hid (And.intro hL (And.intro ha hR))
  clear hbs hL ha hR
  go_loopw [34] (fun i wr => ∃ k : Nat, k ≤ m ∧ i = .int .i64 k ∧ Bld w bs m (ofB (sliceF A lo) k) b wr) (fun i _ => m - (intOf i).toNat)
  case atStart => exact ⟨0, Nat.zero_le _, rfl, hS2.out⟩
  case round =>
    obtain ⟨k, hk, rfl, hX⟩ := hrel
    have HX := Lib.hid hX
    have s0 := hX.drew.four HS.out.1 HS.out.2.1
    by_cases hlt : k < m
    · have hki : (k : Int) < m := by omega
      have HST := Lib.hid (setB_ofB (sliceF A lo) k)
      have hb := HBit.out wr.drew hX.drew.bel ((lo : Int) + (k : Int))
      rw [bitI_add A lo k] at hb
      have HC := Lib.hid hb
      have hwr : IntKind.i64.wrap ((lo : Int) + (k : Int)) = (lo : Int) + (k : Int) := IntWalk.i64_in _ (by omega)
      generalize sliceF A lo k = r at *
      clear hX hb g0 g1 g2 g3
      go_wp2_with fail
      go_region_held3 (fun w' => w'.cell? ⟨L, 0, none⟩ = some (.int .i64 m) ∧ w'.cell? ⟨L, 1, none⟩ = some (.slice (some ⟨b, 0, none⟩) (wcount m) (wcount m)) ∧ w'.cell? ⟨w.heap.size, 0, none⟩ = some (.int .i64 n) ∧ w'.cell? ⟨w.heap.size, 1, none⟩ = some (.slice pa (wcount n) ca))
        (first | assumption)
        (first
          | (go_at_call 44; refine HC.out.mono ?_; rintro e w5 ⟨rfl, hb5⟩; have s5 := four_step s0 hb5; have H5 := Lib.hid (HX.out.drew.below hb5); clear hb5)
          | (go_at_call 76; refine (set_any H5.out.vo k r hlt).mono ?_; rintro e w6 ⟨rfl, hv6, hg6⟩; have h6 := H5.out.grown hg6 hv6; have s6 := h6.four HS.out.1 HS.out.2.1; have H6 := Lib.hid h6; clear hv6 hg6 h6))
      go_wp2_with fail
      go_roundw
      case rel => exact ⟨k + 1, by omega, by go_num, by rw [← HST.out]; exact H6.out⟩
      case measure => simp [intOf]; omega
    · obtain rfl : k = m := by omega
      have kr := hX.box HS.out.2.2
      have r0 := kr.cell (i := 0) rfl
      have r1 := kr.cell (i := 1) rfl
      have f0 := kr.frz 0
      have f1 := kr.frz 1
      have y0 := (hX.box HS.out.1).cell (i := 0) rfl
      have y1 := (hX.box HS.out.1).cell (i := 1) rfl
      dsimp only at r0 r1 f0 f1 y0 y1
      clear hX kr hlt s0
      go_wp2_with fail
      obtain ⟨e0, e1, hv, hbl⟩ := HX.out.ret HS.out.2.2 (by omega)
      exact bodyPost_ret (v := .tuple #[vecO k b, .int .i64 0]) (by simp [results, Tryz.results45, go_sem, e0, e1, vecO]) rfl ⟨_, rfl, hv.vr (ofB_lt _ _), hbl, Far.vec HX.out.ge⟩
end Go.Proofs.YtkoggfahjlnecaaGreatDoor
namespace Go.Proofs.YtkoggfahjlnecaaGreatDoor
set_option linter.unusedVariables false
open Go.RowKit Go.Deep Go.ChangeShapes Go.WideShapes
theorem own : ownKnob Tryz.prog.godebug = none := by kernel_rfl
theorem laidOut : laidOutB Tryz.prog = true := by kernel_rfl
/-- a slice of bits that is read, and its capacity -/
theorem rc_bools {H : Type} {enc : TypeId × Value → H} {P : Program} {w : World} {t e : Nat} {v : Value} {d : DataW H} {ps : List MemPlace} {r : Reach} {b0 : Nat}
    (ht : P.underlying t = some (.slice e)) (he : P.underlying e = some .bool) (hc : P.cellsOf e = 1)
    (hval : Value.okWide P w r b0 t v) (h : DataW.Trod enc P w 0 (fun _ => true) true t v d ps) :
    ∃ (l : List Bool) (p : Option Addr) (c : Nat), v = .slice p l.length c ∧ l.length ≤ c ∧ RO w v 1 l.length (bools l) ∧ l.length ≤ maxLen := by
  obtain ⟨l, h1, h2⟩ := ro_bools ht he hc hval h
  obtain ⟨p, c, rfl⟩ := h1.form
  refine ⟨l, p, c, rfl, ?_, h1, h2⟩
  obtain ⟨fuel, hfu⟩ := h
  rcases open_slice ht hfu with ⟨hcs, _⟩ | ⟨a, len, cap, m, n, D, Pl, hcs, _, hl, hm, hmm, _, hel⟩
  · simp [Value.cells] at hcs
    simp [hcs.2.1]
  · simp [Value.cells] at hcs
    obtain ⟨_, rfl, rfl⟩ := hcs
    have : m = c := by simpa using hmm
    simpa [this] using hl
theorem rl_self (l : List Bool) : rl l.length (fun i => l.getD i false) = l := by
  apply List.ext_getElem?
  intro i
  simp only [rl, List.getElem?_map]
  by_cases h : i < l.length
  · rw [List.getElem?_range h]; simp [h]
  · rw [List.getElem?_eq_none (by simpa using h), List.getElem?_eq_none (by omega)]; rfl
end Go.Proofs.YtkoggfahjlnecaaGreatDoor
namespace Go.Proofs.YtkoggfahjlnecaaGreatDoor
set_option linter.unusedVariables false
theorem i64_bd {n : Int} (h : (Lit.int .i64 n).wf = true) : -9223372036854775808 ≤ n ∧ n ≤ 9223372036854775807 := by
  simp [Lit.wf, IntKind.min, IntKind.max, IntKind.signed, IntKind.bits] at h
  omega
end Go.Proofs.YtkoggfahjlnecaaGreatDoor
