import Derived.Test.YtcifiibpiooeiaaGreatDoorE4
namespace Go.Proofs.YtcifiibpiooeiaaGreatDoor
set_option linter.unusedVariables false
open Go.RowKit Go.Sort

/-- the first k numbers of a clause, a blank behind each -/
def numsT (l : List Int) (k : Nat) : List UInt8 := ((l.take k).map fun x => Lib.itoa x ++ [32]).flatten
theorem numsT_succ (l : List Int) (k : Nat) (h : k < l.length) : numsT l (k + 1) = numsT l k ++ (Lib.itoa (l.getD k 0) ++ [32]) := by
  unfold numsT
  rw [take_snoc h]
  simp
theorem numsT_all (l : List Int) : numsT l l.length ++ [48, 10] = lineT (l ++ [0]) := by
  unfold numsT lineT
  rw [List.take_length]
  induction l with
  | nil => decide +kernel
  | cons x r ih =>
    cases r with
    | nil =>
      simp only [List.map_cons, List.map_nil, List.flatten_cons, List.flatten_nil, List.nil_append, List.cons_append]
      rw [Lib.join_cons]
      simp [Lib.joinTail, show Lib.itoa 0 = [48] from by decide +kernel]
    | cons y r =>
      simp only [List.map_cons, List.flatten_cons, List.cons_append, List.append_assoc] at ih ⊢
      rw [Lib.join_cons]
      rw [Lib.join_cons] at ih
      simp only [Lib.joinTail, List.map_cons, List.flatten_cons, List.append_assoc, List.cons_append, List.nil_append] at ih ⊢
      rw [ih]
theorem numsT_len (l : List Int) (hb : ∀ x ∈ l, -9223372036854775808 ≤ x ∧ x ≤ 9223372036854775807) : ∀ k, k ≤ l.length → (numsT l k).length ≤ 22 * k
  | 0, _ => by simp [numsT]
  | k + 1, h => by
    have ih := numsT_len l hb k (by omega)
    have hm : l.getD k 0 ∈ l := by simp [List.getD, List.getElem?_eq_getElem (show k < l.length by omega)]
    have hx := hb _ hm
    have hi := Lib.itoa_length_le (l.getD k 0) hx.1 hx.2
    rw [numsT_succ l k (by omega)]
    simp only [List.length_append, List.length_cons, List.length_nil]
    omega
theorem textP_len {v : Nat} {cls : List (List Int)} (hw : WFC v cls) : ∀ i, i ≤ cls.length → (textP v cls i).length ≤ 100 + 30000 * i
  | 0, _ => by
    have hb := lineT_len [(v : Int), (cls.length : Int)] (fun x hx => by have := hw.hv; have := hw.n; simp at hx; omega)
    have : hdr.length = 6 := rfl
    simp only [List.length_cons, List.length_nil] at hb
    unfold textP
    simp only [List.take_zero, List.map_nil, List.flatten_nil, List.append_nil, List.length_append]
    omega
  | i + 1, h => by
    have ih := textP_len hw i (by omega)
    have hl := hw.l i (by omega)
    have hb := lineT_len (cls.getD i [] ++ [0]) (fun x hx => by
      rcases List.mem_append.1 hx with hx | hx
      · have := hl.2.1 x hx; have := hw.hv; omega
      · simp at hx; omega)
    have := hl.2.2.2
    rw [textP_succ v cls i (by omega), List.length_append]
    simp only [List.length_append, List.length_cons, List.length_nil] at hb
    omega

set_option maxRecDepth 100000 in
set_option maxHeartbeats 16000000 in
theorem rtext_any {F : Nat → Prop} {w : World} {sv : Value} {v : Nat} {cls : List (List Int)} (h : RefC F w sv cls) (hw : WFC v cls) (hn : cls.length ≤ 1000) :
    Calls Tryz.prog 9 #[.agg #[.int .i64 v, sv]] w fun e w' => e = .returned (.string ⟨(textC v cls).toArray⟩) ∧ Below w.heap.size w w' := by
  obtain ⟨ps, cs, rfl⟩ := h.form
  have hb0 := Below.new w (.cells #[.int .i64 v, .slice ps cls.length cs] 26)
  have hB0 : Blk (w.alloc (.cells #[.int .i64 v, .slice ps cls.length cs] 26)) w.heap.size 26 [.int .i64 v, .slice ps cls.length cs] := Blk.new _ _
  have hR0 := h.below hb0
  obtain ⟨n, hnl⟩ : ∃ n, cls.length = n := ⟨_, rfl⟩
  have hv := hw.hv
  have HI1 := Lib.hid (fun W => rint_any (w := W) (v : Int) (by omega))
  have HI2 := Lib.hid (fun W => rint_any (w := W) (n : Int) (by omega))
  have hni : (n : Int) ≤ 1000 := by omega
  have HW := Lib.hid (And.intro hw hnl)
  rw [hnl] at hb0 hB0 hR0 ⊢
  have H0 := Lib.hid (And.intro hb0 (And.intro hB0 hR0))
  clear h hw hn hb0 hB0 hR0 hnl hv
  obtain ⟨D1, hD1⟩ : ∃ D, Lib.itoa (v : Int) = D := ⟨_, rfl⟩
  obtain ⟨D2, hD2⟩ : ∃ D, Lib.itoa (n : Int) = D := ⟨_, rfl⟩
  have hl1 : (D1.length : Int) ≤ 21 := by have := Lib.itoa_length_le (v : Int) (by omega) (by have := HW.out.1.hv; omega); rw [hD1] at this; omega
  have hl2 : (D2.length : Int) ≤ 21 := by have := Lib.itoa_length_le (n : Int) (by omega) (by omega); rw [hD2] at this; omega
  rw [hD1] at HI1
  rw [hD2] at HI2
  have hhead : (((((⟨#[112, 32, 99, 110, 102, 32]⟩ ++ ⟨D1.toArray⟩) ++ ⟨#[32]⟩) ++ ⟨D2.toArray⟩) ++ ⟨#[10]⟩ : ByteArray)) = ⟨(textP v cls 0).toArray⟩ := by
    apply bytes_ext
    have e : textP v cls 0 = hdr ++ (D1 ++ ([32] ++ D2) ++ [10]) := by
      unfold textP lineT
      rw [HW.out.2, List.map_cons, List.map_cons, List.map_nil, Lib.join_cons, hD1, hD2]
      simp [Lib.joinTail]
    rw [e]
    simp [hdr]
  have HD := Lib.hid (And.intro hD1 (And.intro hD2 hhead))
  clear hD1 hD2 hhead
  go_enter Tryz.func9, Tryz.ntmps9
  go_upto_region 1 with fail
  generalize w.alloc (.cells #[.int .i64 v, .slice ps n cs] 26) = W at *
  have c0 := fun s : After W => After.cell (H0.out.2.1.cell (i := 0) rfl) s
  have c1 := fun s : After W => After.cell (H0.out.2.1.cell (i := 1) rfl) s
  have HJ1 : Hid (∀ s : After W, Calls Tryz.prog 28 #[.int .i64 v] s.val fun e w' => e = .returned (.string ⟨D1.toArray⟩) ∧ Below s.val.heap.size s.val w') := Lib.hid fun s => HI1.out s.val
  have HJ2 : Hid (∀ s : After W, Calls Tryz.prog 28 #[.int .i64 n] s.val fun e w' => e = .returned (.string ⟨D2.toArray⟩) ∧ Below s.val.heap.size s.val w') := Lib.hid fun s => HI2.out s.val
  clear HI1 HI2
  refine wp_region_after (by kernel_rfl) (by kernel_rfl) ?_
  repeat (go_big_quiet_step ((first | (with_reducible exact Calls.after_of (HJ1.out _)) | (with_reducible exact Calls.after_of (HJ2.out _)))))
  refine wpQuiet_nil ?_
  rintro _ ⟨s, rfl⟩
  have hs := Lib.hid s.below
  generalize s.val = W1 at *
  clear c0 c1 HJ1 HJ2
  go_wp2_with fail
  rw [HD.out.2.2]
  clear hl1 hl2
  have H1 := Lib.hid (And.intro (H0.out.2.1.next hs.out) (And.intro (H0.out.2.2.below hs.out) (H0.out.1.trans (hs.out.mono H0.out.1.size))))
  go_loopw [4, 3] (fun iv sv wr => ∃ i : Nat, i ≤ n ∧ iv = .int .i64 i ∧ sv = .string ⟨(textP v cls i).toArray⟩ ∧ Below W1.heap.size W1 wr) (fun iv _ _ => n - (intOf iv).toNat)
  case atStart => exact ⟨0, Nat.zero_le _, rfl, rfl, Below.refl _ _⟩
  case round =>
    obtain ⟨i, hi, rfl, rfl, hbr⟩ := hrel
    have HR := Lib.hid (And.intro (H1.out.1.next hbr) (And.intro (H1.out.2.1.below hbr) hbr))
    have c1 := HR.out.1.cell (i := 1) rfl
    by_cases hlt : i < n
    · have hii : (i : Int) < n := by omega
      have hiw : IntKind.i64.wrap ((i : Int) + 1) = (i : Int) + 1 := i64_of (by omega)
      obtain ⟨sls, hsl1, hsl2, hro, hrc⟩ := HR.out.2.1.ro
      have hat := slvs_at sls i (by rw [hsl2]; exact hlt)
      obtain ⟨bl, ol, rfl⟩ := hro.sl hat
      have cS := hro.cell hat
      obtain ⟨⟨sp, sn, sc⟩, hse⟩ : ∃ s, sls.getD i default = s := ⟨_, rfl⟩
      have hrci := (hrc i hlt).ro
      have hril := (hrc i hlt).1
      rw [hse] at cS hrci hril
      obtain ⟨l, hle⟩ : ∃ l, cls.getD i [] = l := ⟨_, rfl⟩
      have hwl := HW.out.1.l i (by rw [HW.out.2]; exact hlt)
      rw [hle] at hrci hril hwl
      have hsn : sn = l.length := hril
      subst hsn
      unfold slv at cS hrci
      simp only at cS hrci
      have hPl := textP_len HW.out.1 i (by rw [HW.out.2]; exact hi)
      obtain ⟨P, hP⟩ : ∃ P, textP v cls i = P := ⟨_, rfl⟩
      have hPs := textP_succ v cls i (by rw [HW.out.2]; exact hlt)
      rw [hP] at hPl hPs ⊢
      rw [hle] at hPs
      obtain ⟨K, hK⟩ : ∃ K, l.length = K := ⟨_, rfl⟩
      have hlb : ∀ x ∈ l, x.natAbs ≤ 60000 := fun x hx => by have := hwl.2.1 x hx; have := HW.out.1.hv; omega
      have HX := Lib.hid (And.intro hrci (And.intro hPs (And.intro hK (And.intro hlb hlt))))
      have hKi : (K : Int) ≤ 1000 := by have := hwl.2.2.2; omega
      have hPi : (P.length : Int) ≤ 30000100 := by omega
      rw [hK] at cS
      clear hbr hi hlt hro hat hrci hril hrc hle hwl hP hPs hPl hK hlb hsl1 hsl2 hse
      go_wp2_with fail
      go_loopw [5, 3] (fun kv sv wx => ∃ k : Nat, k ≤ K ∧ kv = .int .i64 k ∧ sv = .string ⟨(P ++ numsT l k).toArray⟩ ∧ Below wr.heap.size wr wx) (fun kv _ _ => K - (intOf kv).toNat)
      case atStart => exact ⟨0, Nat.zero_le _, rfl, by simp [numsT], Below.refl _ _⟩
      case round =>
        obtain ⟨k, hk, rfl, rfl, hbx⟩ := hrel
        have hd1 := (HR.out.1.next hbx).cell (i := 1) rfl
        have hdS := (hbx.cell (World.block_lt_of_cell? _ _ cS)).trans cS
        have hnl := numsT_len l (fun x hx => by have := HX.out.2.2.2.1 x hx; omega) k (by rw [HX.out.2.2.1]; exact hk)
        obtain ⟨Q, hQ⟩ : ∃ Q, P ++ numsT l k = Q := ⟨_, rfl⟩
        have hQi : (Q.length : Int) ≤ 31000100 := by rw [← hQ, List.length_append]; omega
        by_cases hlk : k < K
        · have hkk : (k : Int) < K := by omega
          have hkw : IntKind.i64.wrap ((k : Int) + 1) = (k : Int) + 1 := i64_of (by omega)
          have hll : k < l.length := by rw [HX.out.2.2.1]; exact hlk
          have hatk := ints_at l k hll
          obtain ⟨b2, o2, rfl⟩ := HX.out.1.sl hatk
          have hdk := (HX.out.1.below hbx).cell hatk
          have hns := numsT_succ l k hll
          have hmem : l.getD k 0 ∈ l := by simp [List.getD, List.getElem?_eq_getElem hll]
          have hxb := HX.out.2.2.2.1 _ hmem
          obtain ⟨x, hx⟩ : ∃ x, l.getD k 0 = x := ⟨_, rfl⟩
          rw [hx] at hdk hns hxb
          have HI := Lib.hid (fun W => rint_any (w := W) x (by omega))
          have hxl := Lib.itoa_length_le x (by omega) (by omega)
          obtain ⟨D, hD⟩ : ∃ D, Lib.itoa x = D := ⟨_, rfl⟩
          rw [hD] at HI hns hxl
          have hDi : (D.length : Int) ≤ 21 := by omega
          have hcat : ((⟨Q.toArray⟩ ++ ⟨D.toArray⟩) ++ ⟨#[32]⟩ : ByteArray) = ⟨(P ++ numsT l (k + 1)).toArray⟩ := bytes_ext (by rw [hns, ← List.append_assoc, hQ]; simp)
          have HY := Lib.hid (And.intro hcat (And.intro hbx hlk))
          rw [hQ]
          clear hk hbx hnl hQ hlk hll hatk hns hmem hxb hx hxl hD hcat
          go_wp2_with fail
          refine (HI.out _).mono ?_
          rintro e w3 ⟨rfl, hb3⟩
          have HB3 := Lib.hid (HY.out.2.1.trans (hb3.mono HY.out.2.1.size))
          clear hb3
          go_wp2_with fail
          go_roundw
          case rel => exact ⟨k + 1, HY.out.2.2, by go_num, by rw [HY.out.1], HB3.out⟩
          case measure => have := HY.out.2.2; simp [intOf]; omega
        · obtain rfl : k = K := by omega
          have hcat : (⟨Q.toArray⟩ ++ ⟨#[48, 10]⟩ : ByteArray) = ⟨(textP v cls (i + 1)).toArray⟩ := bytes_ext (by
            rw [HX.out.2.1, ← numsT_all, HX.out.2.2.1, ← List.append_assoc, hQ]; simp)
          have HY := Lib.hid (And.intro hcat hbx)
          rw [hQ]
          clear hk hbx hnl hQ hlk hcat
          go_wp2_with fail
          go_roundw
          case rel => exact ⟨i + 1, HX.out.2.2.2.2, by go_num, by rw [HY.out.1], HR.out.2.2.trans (HY.out.2.mono HR.out.2.2.size)⟩
          case measure => have := HX.out.2.2.2.2; simp [intOf]; omega
    · obtain rfl : i = n := by omega
      clear hlt hi hbr
      go_wp2_with fail
      go_ret
      refine ⟨?_, H1.out.2.2.trans (HR.out.2.2.mono H1.out.2.2.size)⟩
      unfold textC
      rw [HW.out.2]
      rfl
end Go.Proofs.YtcifiibpiooeiaaGreatDoor
