import Derived.Test.YtcifiibpiooeiaaGreatDoorC1
import Derived.Test.YtcifiibpiooeiaaGreatDoorS2
namespace Go.Proofs.YtcifiibpiooeiaaGreatDoor
set_option linter.unusedVariables false
open Go.RowKit Go.Sort

def hdr : List UInt8 := [112, 32, 99, 110, 102, 32]
/-- the file's text after i clauses -/
def textP (v : Nat) (cls : List (List Int)) (i : Nat) : List UInt8 := hdr ++ lineT [(v : Int), (cls.length : Int)] ++ ((cls.take i).map fun l => lineT (l ++ [0])).flatten
def textC (v : Nat) (cls : List (List Int)) : List UInt8 := textP v cls cls.length
theorem textP_succ (v : Nat) (cls : List (List Int)) (i : Nat) (h : i < cls.length) : textP v cls (i + 1) = textP v cls i ++ lineT (cls.getD i [] ++ [0]) := by
  unfold textP
  have e : cls.take (i + 1) = cls.take i ++ [cls.getD i []] := by rw [List.take_add_one, List.getElem?_eq_getElem h]; simp [List.getD, List.getElem?_eq_getElem h]
  rw [e, List.map_append, List.flatten_append, ← List.append_assoc]
  simp
theorem lineT_len (l : List Int) (h : ∀ x ∈ l, -9223372036854775808 ≤ x ∧ x ≤ 9223372036854775807) : (lineT l).length ≤ 22 * l.length + 1 := by
  unfold lineT
  have := join_itoa l h
  simp only [List.length_append, List.length_cons, List.length_nil]
  omega
def IsB (b : Nat) (l : List UInt8) (w : World) : Prop := Lib.IsBuilder 54 5 b b (Lib.byteCells l) w
theorem IsB.below {b : Nat} {l : List UInt8} {w w' : World} (h : IsB b l w) (hb : Below w.heap.size w w') : IsB b l w' := by
  have go : ∀ p, Lib.BuilderAt 54 5 b b p (Lib.byteCells l) w → Lib.BuilderAt 54 5 b b p (Lib.byteCells l) w' := fun p h => by
    have hlt := h.lt
    obtain ⟨hB, v, hv, hown, hne⟩ := h
    exact ⟨hB, v, (hb.block b hlt).trans hv, ownsRow_below hown hb, hne⟩
  exact h.elim (fun x => .inl (go _ x)) (fun x => .inr (go _ x))
theorem write_any {b : Nat} {l s : List UInt8} {w : World} (h : IsB b l w) (hlen : l.length + s.length ≤ 140737488355328) (hb : b ≤ w.heap.size) :
    Calls Tryz.prog 21 #[.pointer (some ⟨b, 0, none⟩), .string ⟨s.toArray⟩] w fun e w' => e = .returned (.tuple #[.int .i64 s.length, .nilIface]) ∧ IsB b (l ++ s) w' ∧ Below b w w' := by
  refine (Tryz.Builder_WriteString b b (Lib.byteCells l) ⟨s.toArray⟩ w h (by simp [Lib.byteCells, ByteArray.size]; omega) hb).mono ?_
  rintro e w' ⟨rfl, hB, hbl⟩
  refine ⟨by simp [ByteArray.size], .inr ?_, hbl⟩
  have e : Lib.byteCells (l ++ s) = Lib.byteCells l ++ Lib.strCells ⟨s.toArray⟩ := by simp [Lib.byteCells, Lib.strCells]
  rw [e]
  exact hB

set_option maxRecDepth 100000 in
set_option maxHeartbeats 8000000 in
theorem text_any {A : Nat → Prop} {w : World} {bc : Nat} {F v cls} (h : HasC A w bc F v cls) (hw : WFC v cls) (htab : Lib.TabIs Tryz.prog w "internal/strconv.uint64pow10" .u64 Lib.pow10Tab) :
    Calls Tryz.prog 7 #[.pointer (some ⟨bc, 0, none⟩)] w fun e w' => e = .returned (.string ⟨(textC v cls).toArray⟩) ∧ Below w.heap.size w w' := by
  obtain ⟨sv, sls, hc, -, -⟩ := h
  obtain ⟨N, hN⟩ : ∃ N, cls.length = N := ⟨_, rfl⟩
  obtain ⟨ps, cs, rfl⟩ := ownsRow_form hc.own
  have hbb := Below.new w (.cells #[.pointer none, .slice none 0 0] 54)
  have hB : IsB w.heap.size [] (w.alloc (.cells #[.pointer none, .slice none 0 0] 54)) := Lib.fresh_isBuilder _ _ w
  have HC := Lib.hid hc
  have HTab := Lib.hid htab
  have hcb := hc.below hbb (Nat.le_refl _)
  have c0 := hcb.c0
  have c1 := hcb.c1
  rw [hN] at c1
  have hln := (RO.own hcb.own)
  have htb := tab_below htab hbb
  have H := Lib.hid (And.intro hN (And.intro hw (And.intro hcb (And.intro hB (And.intro hbb htb)))))
  have hNi : (N : Int) ≤ 200000 := by have := hw.n; omega
  clear hN hw hcb hB hbb htb hc htab hln
  go_enter Tryz.func7, Tryz.ntmps7
  go_wp2_with fail
  generalize w.alloc (.cells #[.pointer none, .slice none 0 0] 54) = W at *
  obtain ⟨L0, hL0⟩ : ∃ L, lineT [(v : Int), (N : Int)] = L := ⟨_, rfl⟩
  have hl0 : L0.length ≤ 100 := by
    rw [← hL0]
    have hv := H.out.2.1.hv
    exact Nat.le_trans (lineT_len _ (by intro x hx; simp only [List.mem_cons, List.not_mem_nil, or_false] at hx; omega)) (by simp)
  have HT := Lib.hid (fun w' (hb : Below W.heap.size W w') => tab_below H.out.2.2.2.2.2 hb)
  have HL : Hid (Calls Tryz.prog 22 #[.slice (some ⟨W.heap.size, 0, none⟩) 2 2] (W.alloc (.cells #[.int .i64 v, .int .i64 N] 3)).drew fun e w' => e = .returned (.string ⟨L0.toArray⟩) ∧ Below W.heap.size W w') := Lib.hid (by
    have hbn := Below.new W (.cells #[.int .i64 v, .int .i64 N] 3)
    have hbd : Below W.heap.size W (W.alloc (.cells #[.int .i64 v, .int .i64 N] 3)).drew := hbn.trans (below_drewN 1)
    have hro : RO (W.alloc (.cells #[.int .i64 v, .int .i64 N] 3)).drew (.slice (some ⟨W.heap.size, 0, none⟩) 2 2) 1 2 (ints [(v : Int), (N : Int)]) := RO.ofCells (t := 3) (Blk.drew (Blk.new 3 [.int .i64 v, .int .i64 N])) rfl
    have hv := H.out.2.1.hv
    refine (line_any (l := [(v : Int), (N : Int)]) (HT.out _ hbd) hro (by intro x hx; simp only [List.mem_cons, List.not_mem_nil, or_false] at hx; omega) (by simp) (by simp)).mono ?_
    rintro e w' ⟨rfl, hb⟩
    rw [hL0]
    exact ⟨rfl, hbd.trans (hb.mono (by simp))⟩)
  have he : (⟨#[112, 32, 99, 110, 102, 32]⟩ : ByteArray) ++ ⟨L0.toArray⟩ = ⟨(hdr ++ L0).toArray⟩ := by
    first
    | rfl
    | (apply ByteArray.ext; simp [hdr])
  have HW : Hid (∀ w1, Below W.heap.size W w1 → Calls Tryz.prog 21 #[.pointer (some ⟨w.heap.size, 0, none⟩), .string (⟨#[112, 32, 99, 110, 102, 32]⟩ ++ ⟨L0.toArray⟩)] w1 fun e w' => e = .returned (.tuple #[.int .i64 (hdr ++ L0).length, .nilIface]) ∧ IsB w.heap.size (hdr ++ L0) w' ∧ Below w.heap.size w w') := Lib.hid (fun w1 hb => by
    have hbw := H.out.2.2.2.2.1.trans (hb.mono H.out.2.2.2.2.1.size)
    rw [he]
    refine (write_any (l := []) (s := hdr ++ L0) (H.out.2.2.2.1.below hb) (by simp [hdr]; omega) hbw.size).mono ?_
    rintro e w' ⟨rfl, h1, h2⟩
    exact ⟨rfl, h1, hbw.trans h2⟩)
  have hq1 : ¬ 9223372036854775807 < L0.length + 6 := by omega
  have hq2 : ¬ 9223372036854775807 < 6 + L0.length := by omega
  have HL0 := Lib.hid hL0
  have HLen := Lib.hid hl0
  clear he hL0 hl0
  go_region_with (first | (go_at_call 22; refine HL.out.mono ?_; rintro e w1 ⟨rfl, hb1⟩; have HX := Lib.hid hb1; clear hb1) | (go_at_call 21; refine (HW.out _ HX.out).mono ?_; rintro e w2 ⟨rfl, hb2⟩; have HY := Lib.hid hb2; clear hb2))
  all_goals
    have k1 := (HC.out.below HY.out.2 (Nat.le_refl _)).c1
    rw [H.out.1] at k1
    go_wp2_with fail
    clear k1 hq1 hq2 c0 c1
    go_loopw [24] (fun iv wr => ∃ i : Nat, i ≤ N ∧ iv = .int .i64 i ∧ IsB w.heap.size (textP v cls i) wr ∧ Below w.heap.size w wr ∧ (textP v cls i).length ≤ 200 + 30000 * i) (fun iv _ => N - (intOf iv).toNat)
    case atStart =>
      have e : textP v cls 0 = hdr ++ L0 := by unfold textP; rw [H.out.1, HL0.out]; simp
      refine ⟨0, Nat.zero_le _, rfl, ?_, HY.out.2, ?_⟩
      · rw [e]; exact HY.out.1
      · rw [e]; have := HLen.out; simp [hdr]; omega
    case round =>
      obtain ⟨i, hi, rfl, hB, hbl, hlen⟩ := hrel
      have HR := Lib.hid (And.intro hB (And.intro hbl hlen))
      clear hB hbl hlen
      by_cases hlt : i < N
      · have hCw := HC.out.below HR.out.2.1 (Nat.le_refl _)
        have hln := RO.own hCw.own
        rw [H.out.1] at hln
        have hat := slvs_at sls i (by rw [HC.out.len, H.out.1]; exact hlt)
        obtain ⟨bl, ol, rfl⟩ := hln.sl hat
        have f0 := hln.cell hat
        have hrc := hCw.rd i (by rw [H.out.1]; exact hlt)
        obtain ⟨l, hle⟩ : ∃ l, cls.getD i [] = l := ⟨_, rfl⟩
        have hwi := H.out.2.1.l i (by rw [H.out.1]; exact hlt)
        have hvv := H.out.2.1.hv
        rw [hle] at hrc hwi
        have hro := hrc.ro
        have hs2 := hrc.1
        unfold slv at f0 hro
        rw [hs2] at f0 hro
        generalize (sls.getD i default).1 = s1 at f0 hro
        generalize (sls.getD i default).2.2 = s3 at f0 hro
        obtain ⟨n, hn⟩ : ∃ n, l.length = n := ⟨_, rfl⟩
        have hn1 : n ≤ 1000 := by have := hwi.2.2.2; omega
        have hxl : ∀ x ∈ l ++ [0], -9223372036854775808 ≤ x ∧ x ≤ 9223372036854775807 := by
          intro x hx
          rcases List.mem_append.1 hx with hx | hx
          · have := hwi.2.1 x hx; omega
          · simp only [List.mem_cons, List.not_mem_nil, or_false] at hx; omega
        have hcl := clone_ints hro (ints_one _) (by omega)
        rw [hn] at f0 hcl
        have HCl := Lib.hid hcl
        have HL := Lib.hid (And.intro hle (And.intro hn (And.intro hxl hlt)))
        have hii : (i : Int) < N := by omega
        have hiw : IntKind.i64.wrap ((i : Int) + 1) = (i : Int) + 1 := i64_of (by omega)
        clear hCw hln hat hrc hle hwi hvv hro hs2 hn hxl hcl hlt hi
        go_wp2_with (first
          | (go_at_call 23; refine HCl.out.mono ?_; rintro e w3 ⟨v3, rfl, hr3, hb3⟩; obtain ⟨p3, c3, ev⟩ := ownsRow_form hr3; subst ev; have H3 := Lib.hid (Stp.mk hr3 (own_ge hr3) hb3); clear hr3 hb3)
          | (at_builtin; refine wpList_appR rfl _ _ 48 rfl TInts wr.heap.size (.slice p3 n c3) n _ rfl (H3.out.alloc _).own _ 1 _ rfl (ro_one _ _) (by simp [Value.oneCell']) (by omega) (by omega) (H3.out.alloc _).bel.size ?_; intro v4 w4 happ; have hs4 := (H3.out.alloc _).app happ; obtain ⟨p4, c4, ev4⟩ := ownsRow_form hs4.own; subst ev4; have H4 := Lib.hid hs4; clear happ hs4))
        have hbw4 := HR.out.2.1.trans (H4.out.bel.mono HR.out.2.1.size)
        have hr4 : RO w4 (.slice p4 (n + 1) c4) 1 (l ++ [0]).length (ints (l ++ [0])) := by
          have h := RO.own H4.out.own
          have e1 : (l ++ [0]).length = n + 1 := by simp [HL.out.2.1]
          have e2 : ints (l ++ [0]) = ints l ++ [.int .i64 0] := by simp [ints]
          rw [e1, e2]; exact h
        have hll : (l ++ [0]).length ≤ 1001 := by simp [HL.out.2.1]; omega
        refine (line_any (tab_below HTab.out hbw4) hr4 HL.out.2.2.1 (by simp) (by omega)).mono ?_
        rintro e w5 ⟨rfl, hb5⟩
        have hbw5 := hbw4.trans (hb5.mono hbw4.size)
        have hB5 := (HR.out.1.below H4.out.bel).below hb5
        have hlt5 := lineT_len _ HL.out.2.2.1
        have HWs := Lib.hid (write_any (s := lineT (l ++ [0])) hB5 (by have := HR.out.2.2; omega) hbw5.size)
        have HS5 := Lib.hid (And.intro hbw5 (And.intro hlt5 hll))
        clear hbw4 hr4 hll hb5 hbw5 hB5 hlt5
        go_wp2_with fail
        refine HWs.out.mono ?_
        rintro e w6 ⟨rfl, hB6, hb6⟩
        have hsucc := textP_succ v cls i (by rw [H.out.1]; exact HL.out.2.2.2)
        rw [HL.out.1] at hsucc
        rw [← hsucc] at hB6
        have hlen6 : (textP v cls (i + 1)).length ≤ 200 + 30000 * (i + 1) := by
          rw [hsucc, List.length_append]; have := HR.out.2.2; have := HS5.out.2.1; have := HS5.out.2.2; omega
        have HZ := Lib.hid (And.intro hB6 (And.intro (HS5.out.1.trans hb6) hlen6))
        clear hB6 hb6 hsucc hlen6
        go_wp2_with fail
        go_roundw
        case rel => exact ⟨i + 1, HL.out.2.2.2, by go_num, HZ.out.1, HZ.out.2.1, HZ.out.2.2⟩
        case measure => have := HL.out.2.2.2; simp [intOf]; omega
      · obtain rfl : i = N := by omega
        clear hlt hi
        go_wp2_with fail
        refine (Tryz.Builder_String_any w.heap.size w.heap.size (textP v cls i) wr HR.out.1 HR.out.2.1.size).mono ?_
        rintro e w7 ⟨rfl, hb7⟩
        go_wp2_with fail
        go_ret
        have he : textC v cls = textP v cls i := by unfold textC; rw [H.out.1]
        rw [he]
        exact ⟨rfl, HR.out.2.1.trans hb7⟩
end Go.Proofs.YtcifiibpiooeiaaGreatDoor
