/- Texts of this claim, one behind another: V17, V18, V19. They state lemmas; each names its own conditions. -/
import Derived.Test.YtcdjkbgedmehjaaGreatDoorZH
namespace Go.Proofs.YtcdjkbgedmehjaaGreatDoor
set_option linter.unusedVariables false
open Go.RowKit Go.Sort

/-! # the names of Vars -/
theorem info_u8 : (Tryz.prog.info? 5).map (fun i => (i.zero, i.size, i.bytes)) = some (some (.int .u8 0), 1, 1) := by kernel_rfl
theorem TB : SlTy Tryz.prog 59 5 1 1 (.int .u8 0) := SlTy.of Tryz.underlying59 info_u8 rfl (by decide)
theorem run_bytes {w : World} {b c : Nat} (l : List UInt8) (h : ∀ j, j < l.length → w.cell? ⟨b, j, none⟩ = some (.int .u8 (((l.getD j 0).toNat : Nat) : Int))) :
    (convert 59 9 (.slice (some ⟨b, 0, none⟩) l.length c)).run Tryz.prog w = .ok (.string ⟨l.toArray⟩) w := by
  rw [run_convert_bytes_string w 59 9 5 _ l.length c Tryz.underlying59 Tryz.underlying5 Tryz.underlying9]
  rw [run_bytesToString w ⟨b, 0, none⟩ l.length c ((List.range l.length).map fun j => (((l.getD j 0).toNat : Nat) : Int))]
  · congr 2
    rw [fold_push]
    congr 2
    simp only [List.map_map, ByteArray.empty]
    show [] ++ _ = _
    rw [List.nil_append]
    apply List.ext_getElem?
    intro j
    rw [List.getElem?_map]
    by_cases hj : j < l.length
    · rw [List.getElem?_range hj]
      simp [List.getD, List.getElem?_eq_getElem hj]
    · rw [List.getElem?_eq_none (by simpa using hj), List.getElem?_eq_none (by omega)]; rfl
  · rw [run_loadCells w ⟨b, 0, none⟩ l.length (fun j => .int .u8 (((l.getD j 0).toNat : Nat) : Int)) (fun j hj => by
      have hadd : (⟨b, 0, none⟩ : Addr).add j = ⟨b, j, none⟩ := by unfold Addr.add; split <;> simp_all
      rw [hadd]
      exact h j hj)]
    simp

def byteV (l : List UInt8) : List Value := l.map fun c => .int .u8 ((c.toNat : Nat) : Int)
theorem run_own {w : World} {base L : Nat} {po : Option Addr} {co : Nat} {l : List UInt8} (ho : w.ownsRow base 5 1 (.slice po L co) L (byteV l)) (hL : L = l.length) (h0 : 0 < L) :
    (convert 59 9 (.slice po L co)).run Tryz.prog w = .ok (.string (bstr l)) w := by
  have hr := RO.own ho
  have hg : ∀ j, j < l.length → (byteV l)[j]? = some (.int .u8 (((l.getD j 0).toNat : Nat) : Int)) := fun j hj => by simp [byteV, List.getD, List.getElem?_eq_getElem hj]
  subst hL
  rcases ho.2 with ⟨_, e⟩ | ⟨g, cap, cur, hv, hb, _⟩
  · omega
  · cases hv
    exact run_bytes (w := w) (b := g) (c := co) l (fun j hj => by
      have h1 := hr.cell (hg j hj)
      rwa [Nat.zero_add] at h1)
theorem digC (n : Nat) : ((UInt8.ofNat (33 + n % 94)).toNat : Int) = 33 + ((n % 94 : Nat) : Int) := by
  simp only [UInt8.toNat_ofNat']
  omega
theorem digC' (n : Nat) : (33 + ((n % 94 : Nat) : Int)) = (((UInt8.ofNat (33 + n % 94)).toNat : Nat) : Int) := (digC n).symm
theorem idL_step (n : Nat) : idL n = UInt8.ofNat (33 + n % 94) :: (if n / 94 = 0 then [] else idL (n / 94)) := by
  rw [idL]
  split
  · rw [if_pos (by omega), Nat.mod_eq_of_lt (by omega)]
  · rw [if_neg (by omega)]
theorem tmod94 (n : Nat) : ((n : Int)).tmod 94 = ((n % 94 : Nat) : Int) := by rw [Int.tmod_eq_emod_of_nonneg (by omega)]; omega
theorem tdiv94 (n : Nat) : ((n : Int)).tdiv 94 = ((n / 94 : Nat) : Int) := by rw [Int.tdiv_eq_ediv_of_nonneg (by omega)]; omega
set_option maxRecDepth 100000 in
set_option maxHeartbeats 4000000 in
theorem id_any (n : Nat) (hn : n < 8836) (w : World) : Calls Tryz.prog 21 #[.int .i64 n] w fun e w' => e = .returned (.string (bstr (idL n))) ∧ Below w.heap.size w w' := by
  have h1 := tmod94 n
  have h2 := tdiv94 n
  have hid := idL_step n
  obtain ⟨r, hr⟩ : ∃ r, n % 94 = r := ⟨_, rfl⟩
  obtain ⟨q, hq⟩ : ∃ q, n / 94 = q := ⟨_, rfl⟩
  have hr94 : r < 94 := by omega
  have hq94 : q < 94 := by omega
  rw [hr] at h1 hid
  rw [hq] at h2 hid
  have HQ := Lib.hid (And.intro hid (And.intro hr94 hq94))
  clear hr hq hid
  have hw1 : IntKind.i64.wrap (r : Int) = (r : Int) := i64_of (by omega)
  have hw2 : IntKind.i64.wrap (q : Int) = (q : Int) := i64_of (by omega)
  have hw3 : IntKind.i64.wrap (33 + (r : Int)) = 33 + (r : Int) := i64_of (by omega)
  have hw4 : IntKind.u8.wrap (33 + (r : Int)) = 33 + (r : Int) := IntWalk.u8_in _ (by omega)
  go_enter Tryz.func21, Tryz.ntmps21
  go_upto_region 3 with fail
  have hb0 := Below.new w (.cells #[.int .u8 (33 + (r : Int))] 5)
  have hk0 := Blk.new (w := w) 5 [.int .u8 (33 + (r : Int))]
  have ho0 : (w.alloc (.cells #[.int .u8 (33 + (r : Int))] 5)).ownsRow w.heap.size 5 1 (.slice (some ⟨w.heap.size, 0, none⟩) 1 1) 1 (byteV [UInt8.ofNat (33 + r)]) := by
    have := hk0.own (n := 1) (size := 1) rfl (by decide) w.heap.size (Nat.le_refl _)
    have e : byteV [UInt8.ofNat (33 + r)] = [.int .u8 (33 + (r : Int))] := by
      have : ((UInt8.ofNat (33 + r)).toNat : Int) = 33 + (r : Int) := by simp only [UInt8.toNat_ofNat']; omega
      simp only [byteV, List.map_cons, List.map_nil, this]
    rw [e]; exact this
  have H0 := Lib.hid (And.intro ho0 hb0)
  clear hb0 hk0 ho0
  generalize w.alloc (.cells #[.int .u8 (33 + (r : Int))] 5) = W at *
  clear h1 h2 hr94 hq94 hn hw1 hw2 hw3 hw4
  go_loopw [0, 3] (fun nv ov wr => ∃ (k : Nat) (out : List UInt8), k < 94 ∧ nv = .int .i64 k ∧ out ++ (if k = 0 then [] else idL k) = idL n ∧ 1 ≤ out.length ∧ out.length ≤ 3 - (if k = 0 then 0 else 1) ∧ wr.ownsRow w.heap.size 5 1 ov out.length (byteV out) ∧ Below w.heap.size w wr) (fun nv _ _ => (intOf nv).toNat)
  case atStart => exact ⟨q, [UInt8.ofNat (33 + r)], HQ.out.2.2, rfl, HQ.out.1.symm, Nat.le_refl _, by split <;> simp, H0.out⟩
  case round =>
    obtain ⟨k, out, hk, rfl, he, hl1, hl2, ho, hb⟩ := hrel
    obtain ⟨po, co, rfl⟩ := ownsRow_form ho
    have HL := Lib.hid (And.intro he (And.intro ho (And.intro hb hl1)))
    clear he ho hb
    by_cases h0 : 0 < k
    · rw [if_neg (by omega)] at hl2
      have h1 := tmod94 k
      have h2 := tdiv94 k
      rw [show k % 94 = k by omega] at h1
      rw [show k / 94 = 0 by omega] at h2
      have hw1 : IntKind.i64.wrap (k : Int) = (k : Int) := i64_of (by omega)
      have hw3 : IntKind.i64.wrap (33 + (k : Int)) = 33 + (k : Int) := i64_of (by omega)
      have hw4 : IntKind.u8.wrap (33 + (k : Int)) = 33 + (k : Int) := IntWalk.u8_in _ (by omega)
      have hki : (0 : Int) < k := by omega
      have hbx := Below.new wr (.cells #[.int .u8 (33 + (k : Int))] 5)
      have hkx := Blk.new (w := wr) 5 [.int .u8 (33 + (k : Int))]
      have HA := Lib.hid (And.intro (ownsRow_below HL.out.2.1 hbx) (And.intro (RO.own (hkx.own (n := 1) (size := 1) rfl (by decide) 0 (Nat.zero_le _))) (And.intro (HL.out.2.2.1.trans (hbx.mono HL.out.2.2.1.size)) h0)))
      have HK := Lib.hid (And.intro hl1 (And.intro hl2 hk))
      clear hbx hkx h0 hl1
      go_wp2_with (at_builtin; refine wpList_appR rfl _ _ 59 rfl TB w.heap.size (.slice po out.length co) out.length _ rfl HA.out.1 _ 1 _ rfl HA.out.2.1 (by simp [Value.oneCell']) (by omega) (by omega) HA.out.2.2.1.size ?_; intro v4 w4 happ; obtain ⟨p4, c4, ev4⟩ := ownsRow_form happ.own; subst ev4; have HP := Lib.hid happ; clear happ)
      have hb4 := HP.out.below HA.out.2.2.1 HA.out.2.2.1.size (fun g hg => (own_lt HA.out.1 g hg).1)
      have hd : (33 + (k : Int)) = (((UInt8.ofNat (33 + k)).toNat : Nat) : Int) := by
        have := HK.out.2.2
        simp only [UInt8.toNat_ofNat']; omega
      have ho4 : w4.ownsRow w.heap.size 5 1 (.slice p4 (out.length + 1) c4) (out ++ [UInt8.ofNat (33 + k)]).length (byteV (out ++ [UInt8.ofNat (33 + k)])) := by
        have h := HP.out.own
        rw [hd] at h
        rw [List.length_append]
        have e : byteV (out ++ [UInt8.ofNat (33 + k)]) = byteV out ++ [.int .u8 (((UInt8.ofNat (33 + k)).toNat : Nat) : Int)] := by simp [byteV]
        rw [e]; exact h
      have heq : (out ++ [UInt8.ofNat (33 + k)]) ++ (if (0 : Nat) = 0 then [] else idL 0) = idL n := by
        have h := HL.out.1
        have h94 := HK.out.2.2
        rw [if_neg (by have := HA.out.2.2.2; omega), idL, dif_pos h94] at h
        rw [if_pos rfl, List.append_nil]; exact h
      have H4 := Lib.hid (And.intro heq (And.intro ho4 hb4))
      clear hb4 hd ho4 heq HP
      go_roundw
      case rel => exact ⟨0, _, by decide, by go_num, H4.out.1, by simp, by have := HK.out.2.1; simp; omega, H4.out.2.1, H4.out.2.2⟩
      case measure => have := HA.out.2.2.2; simp [intOf]; omega
    · obtain rfl : k = 0 := by omega
      have he := HL.out.1
      rw [if_pos rfl, List.append_nil] at he
      have hrun := run_own HL.out.2.1 rfl (by omega)
      have HE := Lib.hid he
      clear he hk h0 hl1 hl2
      go_wp2_with fail
      go_ret
      exact ⟨by rw [← HE.out]; rfl, HL.out.2.2.1⟩
end Go.Proofs.YtcdjkbgedmehjaaGreatDoor
namespace Go.Proofs.YtcdjkbgedmehjaaGreatDoor
set_option linter.unusedVariables false
open Go.RowKit Go.Sort

/-! # the reference's names; lines -/
theorem bytes_ext {a b : ByteArray} (h : a.data.toList = b.data.toList) : a = b := by
  obtain ⟨⟨a⟩⟩ := a; obtain ⟨⟨b⟩⟩ := b
  simp at h; rw [h]
theorem bstr_app (a b : Bs) : bstr a ++ bstr b = bstr (a ++ b) := bytes_ext (by simp [bstr])
theorem run_one {w : World} (x : Int) (c : UInt8) (hx : x = ((c.toNat : Nat) : Int)) : (convert 59 9 (.slice (some ⟨w.heap.size, 0, none⟩) 1 1)).run Tryz.prog (w.alloc (.cells #[.int .u8 x] 5)) = .ok (.string (bstr [c])) (w.alloc (.cells #[.int .u8 x] 5)) := by
  subst hx
  exact run_own (l := [c]) (base := w.heap.size) ((Blk.new (w := w) 5 [.int .u8 ((c.toNat : Nat) : Int)]).own (n := 1) (size := 1) rfl (by decide) w.heap.size (Nat.le_refl _)) rfl (by decide)
set_option maxRecDepth 100000 in
set_option maxHeartbeats 4000000 in
theorem refid_1 (n : Nat) (hn : n < 94) (w : World) : Calls Tryz.prog 39 #[.int .i64 n] w fun e w' => e = .returned (.string (bstr (idL n))) ∧ Below w.heap.size w w' := by
  have h1 := tmod94 n
  rw [show n % 94 = n by omega] at h1
  have hw1 : IntKind.i64.wrap (n : Int) = (n : Int) := i64_of (by omega)
  have hw3 : IntKind.i64.wrap (33 + (n : Int)) = 33 + (n : Int) := i64_of (by omega)
  have hw4 : IntKind.u8.wrap (33 + (n : Int)) = 33 + (n : Int) := IntWalk.u8_in _ (by omega)
  have hid : idL n = [UInt8.ofNat (33 + n)] := by rw [idL, dif_pos hn]
  have hrun := fun w => run_one (w := w) (33 + (n : Int)) (UInt8.ofNat (33 + n)) (by simp only [UInt8.toNat_ofNat']; omega)
  have hlt : ¬ (94 : Int) ≤ n := by omega
  have HB := Lib.hid (Below.new w (.cells #[.int .u8 (33 + (n : Int))] 5))
  rw [hid]
  clear hid hn
  go_enter Tryz.func39, Tryz.ntmps39
  go_wp2_with fail
  go_ret
  exact ⟨rfl, HB.out⟩
set_option maxRecDepth 100000 in
set_option maxHeartbeats 4000000 in
theorem refid_any (n : Nat) (hn : n < 8836) (w : World) : Calls Tryz.prog 39 #[.int .i64 n] w fun e w' => e = .returned (.string (bstr (idL n))) ∧ Below w.heap.size w w' := by
  by_cases h94 : n < 94
  · exact refid_1 n h94 w
  have h1 := tmod94 n
  have h2 := tdiv94 n
  obtain ⟨r, hr⟩ : ∃ r, n % 94 = r := ⟨_, rfl⟩
  obtain ⟨q, hq⟩ : ∃ q, n / 94 = q := ⟨_, rfl⟩
  rw [hr] at h1
  rw [hq] at h2
  have hr94 : r < 94 := by omega
  have hw1 : IntKind.i64.wrap (r : Int) = (r : Int) := i64_of (by omega)
  have hw2 : IntKind.i64.wrap (q : Int) = (q : Int) := i64_of (by omega)
  have hw3 : IntKind.i64.wrap (33 + (r : Int)) = 33 + (r : Int) := i64_of (by omega)
  have hw4 : IntKind.u8.wrap (33 + (r : Int)) = 33 + (r : Int) := IntWalk.u8_in _ (by omega)
  have hid : bstr (idL n) = bstr [UInt8.ofNat (33 + r)] ++ bstr (idL q) := by
    rw [bstr_app, idL, dif_neg h94, hr, hq]; rfl
  have hrun := fun w => run_one (w := w) (33 + (r : Int)) (UInt8.ofNat (33 + r)) (by simp only [UInt8.toNat_ofNat']; omega)
  have hlt : (94 : Int) ≤ n := by omega
  have HR := Lib.hid (fun w => refid_1 q (by omega) w)
  have HB := Lib.hid (Below.new w (.cells #[.int .u8 (33 + (r : Int))] 5))
  have hs1 : (bstr [UInt8.ofNat (33 + r)]).size = 1 := by rw [bstr_size]; rfl
  have hs2 : (bstr (idL q)).size ≤ 2 := by rw [bstr_size]; exact (idL_len q (by omega)).2
  rw [hid]
  generalize bstr [UInt8.ofNat (33 + r)] = A at *
  generalize bstr (idL q) = B at *
  have hs3 : ¬ (9223372036854775807 : Int) < (A.size : Int) + (B.size : Int) := by omega
  have hs4 : ¬ 9223372036854775807 < A.size + B.size := by omega
  clear hid hn h94 hr hq hs1 hs2
  go_enter Tryz.func39, Tryz.ntmps39
  go_wp2_with fail
  refine (HR.out _).mono ?_; rintro e w2 ⟨rfl, hb2⟩
  have H2 := Lib.hid (HB.out.trans (hb2.mono HB.out.size))
  clear hb2
  go_wp2_with fail
  all_goals try (exfalso; omega)
  go_ret
  exact ⟨rfl, H2.out⟩
/-! # a builder -/
def IsB (b : Nat) (l : List UInt8) (w : World) : Prop := Lib.IsBuilder 61 5 b b (Lib.byteCells l) w
theorem IsB.below {b : Nat} {l : List UInt8} {w w' : World} (h : IsB b l w) (hb : Below w.heap.size w w') : IsB b l w' := by
  have go : ∀ p, Lib.BuilderAt 61 5 b b p (Lib.byteCells l) w → Lib.BuilderAt 61 5 b b p (Lib.byteCells l) w' := fun p h => by
    have hlt := h.lt
    obtain ⟨hB, v, hv, hown, hne⟩ := h
    exact ⟨hB, v, (hb.block b hlt).trans hv, ownsRow_below hown hb, hne⟩
  exact h.elim (fun x => .inl (go _ x)) (fun x => .inr (go _ x))
theorem write_any {b : Nat} {l s : List UInt8} {w : World} (h : IsB b l w) (hlen : l.length + s.length ≤ 140737488355328) (hb : b ≤ w.heap.size) :
    Calls Tryz.prog 18 #[.pointer (some ⟨b, 0, none⟩), .string (bstr s)] w fun e w' => e = .returned (.tuple #[.int .i64 s.length, .nilIface]) ∧ IsB b (l ++ s) w' ∧ Below b w w' := by
  refine (Tryz.Builder_WriteString b b (Lib.byteCells l) (bstr s) w h (by rw [bstr_size]; simp [Lib.byteCells]; omega) hb).mono ?_
  rintro e w' ⟨rfl, hB, hbl⟩
  refine ⟨by rw [bstr_size], .inr ?_, hbl⟩
  have e : Lib.byteCells (l ++ s) = Lib.byteCells l ++ Lib.strCells (bstr s) := by simp [Lib.byteCells, Lib.strCells, bstr]
  rw [e]
  exact hB
theorem join_words {w : World} {g n : Nat} {ws : List Bs} (hB : Blk w g 9 (strCells ws)) (hn : ws.length = n) (hl : n ≤ 1000) (hj : (Lib.join ws [32]).length ≤ 1000000) :
    Calls Tryz.prog 19 #[.slice (some ⟨g, 0, none⟩) n n, .string ⟨#[32]⟩] w fun e w' => e = .returned (.string (bstr (Lib.join ws [32]))) ∧ Below w.heap.size w w' := by
  have hx : (ws.map bstr).length = n := by simpa using hn
  have he : (ws.map bstr).map (·.data.toList) = ws := by
    rw [List.map_map]
    conv => rhs; rw [← List.map_id ws]
    exact List.map_congr_left fun x _ => by simp [bstr]
  have h := Tryz.strings_Join g 0 n (ws.map bstr) ⟨#[32]⟩ w (fun j x hj => by
      rw [List.getElem?_map] at hj
      obtain ⟨y, hy, rfl⟩ := Option.map_eq_some_iff.1 hj
      rw [Nat.zero_add]
      exact hB.cell (by unfold strCells; rw [List.getElem?_map, hy]; rfl)) hB.lt (by omega) (by omega) (by rw [he]; show (Lib.join ws [32]).length ≤ _; omega)
  rw [hx, he] at h
  exact h
def lineG (ws : List Bs) : Bs := Lib.join ws [32] ++ [10]
set_option maxRecDepth 100000 in
set_option maxHeartbeats 4000000 in
theorem line_any {b g n : Nat} {l : Bs} {ws : List Bs} {w : World} (h : IsB b l w) (hB : Blk w g 9 (strCells ws)) (hn : ws.length = n) (hl : n ≤ 1000) (hj : (Lib.join ws [32]).length ≤ 1000000) (hll : l.length ≤ 100000000) (hb : b ≤ w.heap.size) :
    Calls Tryz.prog 17 #[.slice (some ⟨g, 0, none⟩) n n, .pointer (some ⟨b, 0, none⟩)] w fun e w' => e = .returned (.tuple #[]) ∧ IsB b (l ++ lineG ws) w' ∧ Below b w w' := by
  have HJ := Lib.hid (join_words hB hn hl hj)
  have HW : Hid (∀ w', Below w.heap.size w w' → Calls Tryz.prog 18 #[.pointer (some ⟨b, 0, none⟩), .string (bstr (Lib.join ws [32] ++ [10]))] w' fun e w'' => e = .returned (.tuple #[.int .i64 (Lib.join ws [32] ++ [10]).length, .nilIface]) ∧ IsB b (l ++ lineG ws) w'' ∧ Below b w' w'') := Lib.hid fun w' hbw =>
    write_any (h.below hbw) (by rw [List.length_append]; simp only [List.length_cons, List.length_nil]; omega) (Nat.le_trans hb hbw.size)
  have hcat : bstr (Lib.join ws [32]) ++ ⟨#[10]⟩ = bstr (Lib.join ws [32] ++ [10]) := bstr_app _ _
  have hjs : (bstr (Lib.join ws [32])).size ≤ 1000000 := by rw [bstr_size]; exact hj
  have HC := Lib.hid hcat
  have HBb := Lib.hid hb
  generalize hJ : bstr (Lib.join ws [32]) = J at *
  have h3 : ¬ (9223372036854775807 : Int) < (J.size : Int) + 1 := by omega
  have h4 : ¬ 9223372036854775807 < J.size + 1 := by omega
  clear h hB hn hl hj hll hb hcat hjs hJ
  go_enter Tryz.func17, Tryz.ntmps17
  go_wp2_with fail
  refine HJ.out.mono ?_; rintro e w2 ⟨rfl, hb2⟩
  have H2 := Lib.hid hb2
  have HW2 := Lib.hid (HW.out w2 hb2)
  rw [← HC.out] at HW2
  clear hb2
  go_wp2_with fail
  all_goals try (exfalso; omega)
  refine HW2.out.mono ?_; rintro e w3 ⟨rfl, h3, hb3⟩
  have H3 := Lib.hid (And.intro h3 ((H2.out.mono HBb.out).trans hb3))
  clear h3 hb3
  go_wp2_with fail
  go_end0
  exact ⟨rfl, H3.out.1, H3.out.2⟩
end Go.Proofs.YtcdjkbgedmehjaaGreatDoor
namespace Go.Proofs.YtcdjkbgedmehjaaGreatDoor
set_option linter.unusedVariables false
open Go.RowKit Go.Sort

/-! # Check -/
set_option maxRecDepth 100000 in
set_option maxHeartbeats 4000000 in
theorem fits_any {w : World} (x : Bs × Nat) (e : VecE) (hv : VR w (vecV e) e.w e.x) : Calls Tryz.prog 31 #[varV x, vecV e] w fun r w' => r = .returned (.bool (decide (x.2 = e.w))) ∧ Below w.heap.size w w' := by
  have HW : Hid (∀ w', Below w.heap.size w w' → Calls Tryz.prog 32 #[vecV e] w' fun r w'' => r = .returned (.int .i64 e.w) ∧ Below w'.heap.size w' w'') := Lib.hid fun w' hb => width_any (hv.below hb)
  obtain ⟨nm, wd⟩ := x
  obtain ⟨n, p, c, y⟩ := e
  unfold varV vecV at *
  simp only at HW ⊢
  generalize bstr nm = X at *
  have hq : ((wd : Int) == (n : Int)) = decide (wd = n) := by
    by_cases h : wd = n
    · subst h; simp
    · rw [decide_eq_false h, beq_eq_false_iff_ne]; omega
  have HQ := Lib.hid hq
  clear hq hv
  go_enter Tryz.func31, Tryz.ntmps31
  go_upto_region 1 with fail
  have k0 := (Blk.new (w := w) 51 [.string X, .int .i64 wd]).alloc (.cells #[.int .i64 n, .slice p (wcount n) c] 46)
  have k1 := Blk.new (w := w.alloc (.cells #[.string X, .int .i64 wd] 51)) 46 [.int .i64 n, .slice p (wcount n) c]
  have hb3 : Below w.heap.size w ((w.alloc (.cells #[.string X, .int .i64 wd] 51)).alloc (.cells #[.int .i64 n, .slice p (wcount n) c] 46)) := (Below.new _ _).alloc (by simp) _
  simp only [World.size_alloc] at k1
  generalize (w.alloc (.cells #[.string X, .int .i64 wd] 51)).alloc (.cells #[.int .i64 n, .slice p (wcount n) c] 46) = W at *
  have a1 := After.cell (k0.cell (i := 1) rfl)
  have b0 := After.cell (k1.cell (i := 0) rfl)
  have b1 := After.cell (k1.cell (i := 1) rfl)
  have HWs : Hid (∀ s : After W, Calls Tryz.prog 32 #[.agg #[.int .i64 n, .slice p (wcount n) c]] s.val fun r w' => r = .returned (.int .i64 n) ∧ Below s.val.heap.size s.val w') := Lib.hid fun s => HW.out _ (hb3.trans (s.below.mono hb3.size))
  have H3 := Lib.hid hb3
  clear k0 k1 hb3 HW
  refine wp_region_after (by kernel_rfl) (by kernel_rfl) ?_
  repeat (go_big_quiet_step ((first | (with_reducible exact Calls.after_of (HWs.out _)))))
  refine wpQuiet_nil ?_
  rintro _ ⟨s, rfl⟩
  have HS := Lib.hid (H3.out.trans (s.below.mono H3.out.size))
  generalize s.val = w1 at *
  clear a1 b0 b1 HWs
  go_wp2_with fail
  go_ret
  exact ⟨congrArg (fun b => Ending.returned (Value.bool b)) HQ.out, HS.out⟩
def fitsB (l : List (Bs × Nat)) (es : List VecE) : Bool := decide (es.map VecE.w = l.map Prod.snd)
set_option maxRecDepth 100000 in
set_option maxHeartbeats 8000000 in
theorem eqf_any {w : World} (l : List (Bs × Nat)) (es : List VecE) {v u : Value} (hl : RO w v 2 l.length (tokCells l)) (he : RO w u 2 es.length (rowCells es)) (hv : ∀ e ∈ es, VR w (vecV e) e.w e.x) (hn : (l.length : Int) ≤ 3000000) (hm : (es.length : Int) ≤ 140737488355328) :
    Calls Tryz.prog 33 #[v, u, .func (Fn.func 31) #[] #[]] w fun r w' => r = .returned (.bool (fitsB l es)) ∧ Below w.heap.size w w' := by
  obtain ⟨p, c, rfl⟩ := hl.form
  obtain ⟨p', c', rfl⟩ := he.form
  by_cases hlen : l.length = es.length
  · obtain ⟨n, hnn⟩ : ∃ n, l.length = n := ⟨_, rfl⟩
    have hmm : es.length = n := by omega
    have HH := Lib.hid (And.intro hl (And.intro he (And.intro hv (And.intro hnn hmm))))
    rw [hnn] at hn ⊢
    rw [hmm] at hm ⊢
    clear hl he hv hlen hnn hmm
    go_enter Tryz.func33, Tryz.ntmps33
    go_wp2_with fail
    go_loopw [17] (fun iv wr => ∃ i : Nat, i ≤ n ∧ iv = .int .i64 i ∧ (es.take i).map VecE.w = (l.take i).map Prod.snd ∧ Below w.heap.size w wr) (fun iv _ => n - (intOf iv).toNat)
    case atStart => exact ⟨0, Nat.zero_le _, rfl, rfl, Below.refl _ _⟩
    case round =>
      obtain ⟨i, hi, rfl, heq, hb⟩ := hrel
      have HL := Lib.hid (And.intro heq hb)
      clear heq hb
      by_cases hlt : i < n
      · obtain ⟨x, hx⟩ : ∃ x, l[i]? = some x := ⟨_, List.getElem?_eq_getElem (by rw [HH.out.2.2.2.1]; exact hlt)⟩
        obtain ⟨e, hee⟩ : ∃ e, es[i]? = some e := ⟨_, List.getElem?_eq_getElem (by rw [HH.out.2.2.2.2]; exact hlt)⟩
        have hl' := HH.out.1.below HL.out.2
        have he' := HH.out.2.1.below HL.out.2
        obtain ⟨vb, vo, rfl⟩ := hl'.sl (tokCells_at _ _ _ hx).1
        obtain ⟨eb, eo, rfl⟩ := he'.sl (rowCells_at _ _ _ hee).1
        have k0 := hl'.cell (tokCells_at _ _ _ hx).1
        have k1 := hl'.cell (tokCells_at _ _ _ hx).2
        have m0 := he'.cell (rowCells_at _ _ _ hee).1
        have m1 := he'.cell (rowCells_at _ _ _ hee).2
        rw [← Nat.add_assoc] at k1 m1
        have hve := (HH.out.2.2.1 e (List.mem_of_getElem? hee)).below HL.out.2
        have hbx := Below.next (Below.new wr (.cells #[.string (bstr x.1), .int .i64 x.2] 51)) (Below.new (wr.alloc (.cells #[.string (bstr x.1), .int .i64 x.2] 51)) (.cells #[.int .i64 e.w, .slice e.p (wcount e.w) e.c] 46))
        have HF := Lib.hid (fits_any x e (hve.below hbx))
        have hsn : (es.take (i + 1)).map VecE.w = (l.take (i + 1)).map Prod.snd ↔ x.2 = e.w := by
          rw [List.take_add_one, List.take_add_one, hx, hee, List.map_append, List.map_append, HL.out.1, List.append_cancel_left_eq]
          simp
          exact eq_comm
        have hall : ¬ x.2 = e.w → fitsB l es = false := fun h => decide_eq_false fun h' => h (by
          have h1 : (es.map VecE.w)[i]? = (l.map Prod.snd)[i]? := by rw [h']
          rw [List.getElem?_map, List.getElem?_map, hx, hee] at h1
          simpa using h1.symm)
        have HX := Lib.hid (And.intro hlt (And.intro hsn (And.intro hall (HL.out.2.trans (hbx.mono HL.out.2.size)))))
        obtain ⟨nm, wd⟩ := x
        obtain ⟨en, ep, ec, ex⟩ := e
        unfold varV vecV at HF
        simp only at k0 k1 m0 m1 HF HX
        generalize bstr nm = X at *
        have hii : (i : Int) < n := by omega
        have hi0 : (0 : Int) ≤ i := by omega
        have hiw : IntKind.i64.wrap ((i : Int) + 1) = (i : Int) + 1 := i64_of (by omega)
        obtain ⟨q, hq⟩ : ∃ q, decide (wd = en) = q := ⟨_, rfl⟩
        rw [hq] at HF
        have HQ := Lib.hid hq
        have m0' := ((Below.new wr (.cells #[.string X, .int .i64 wd] 51)).cell (World.block_lt_of_cell? _ _ m0)).trans m0
        have m1' := ((Below.new wr (.cells #[.string X, .int .i64 wd] 51)).cell (World.block_lt_of_cell? _ _ m1)).trans m1
        clear hl' he' hve hbx hx hee hsn hall hlt hi hq
        go_wp2_with fail
        refine HF.out.mono ?_; rintro r w2 ⟨rfl, hb2⟩
        have H2 := Lib.hid (HX.out.2.2.2.trans (hb2.mono HX.out.2.2.2.size))
        clear hb2 k0 k1 m0 m1 m0' m1'
        cases q
        · go_wp2_with fail
          go_ret
          exact ⟨by rw [HX.out.2.2.1 (of_decide_eq_false HQ.out)]; rfl, H2.out⟩
        · go_wp2_with fail
          go_roundw
          case rel => exact ⟨i + 1, HX.out.1, by go_num, HX.out.2.1.2 (of_decide_eq_true HQ.out), H2.out⟩
          case measure => have := HX.out.1; simp [intOf]; omega
      · obtain rfl : i = n := by omega
        clear hlt hi
        have hf : fitsB l es = true := decide_eq_true (by
          have h := HL.out.1
          rw [List.take_of_length_le (by rw [HH.out.2.2.2.2]; exact Nat.le_refl _), List.take_of_length_le (by rw [HH.out.2.2.2.1]; exact Nat.le_refl _)] at h
          exact h)
        have HF := Lib.hid hf
        clear hf
        go_wp2_with fail
        go_ret
        exact ⟨by rw [HF.out]; rfl, HL.out.2⟩
  · have hf : fitsB l es = false := decide_eq_false fun h => hlen (by have := congrArg List.length h; simpa using this.symm)
    rw [hf]
    have hne : ¬ (l.length : Int) = es.length := by omega
    have hneb : ((l.length : Int) != (es.length : Int)) = true := by simpa using hne
    generalize l.length = a at *
    generalize es.length = b at *
    clear hl he hv hf
    go_enter Tryz.func33, Tryz.ntmps33
    go_wp2_with fail
    go_ret
    exact ⟨rfl, Below.refl _ _⟩
end Go.Proofs.YtcdjkbgedmehjaaGreatDoor
