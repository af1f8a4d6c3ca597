import Derived.Test.YtcdjkbgedmehjaaDoorV16
namespace Go.Proofs.YtcdjkbgedmehjaaDoor
set_option linter.unusedVariables false
open Go.RowKit Go.Sort

/-! # the names of Vars -/
theorem info_u8 : (Tryd.prog.info? 5).map (fun i => (i.zero, i.size, i.bytes)) = some (some (.int .u8 0), 1, 1) := by kernel_rfl
theorem TB : SlTy Tryd.prog 44 5 1 1 (.int .u8 0) := SlTy.of Tryd.underlying44 info_u8 rfl (by decide)
theorem run_bytes {w : World} {b c : Nat} (l : List UInt8) (h : ∀ j, j < l.length → w.cell? ⟨b, j, none⟩ = some (.int .u8 (((l.getD j 0).toNat : Nat) : Int))) :
    (convert 44 9 (.slice (some ⟨b, 0, none⟩) l.length c)).run Tryd.prog w = .ok (.string ⟨l.toArray⟩) w := by
  rw [run_convert_bytes_string w 44 9 5 _ l.length c Tryd.underlying44 Tryd.underlying5 Tryd.underlying9]
  rw [run_bytesToString w ⟨b, 0, none⟩ l.length c ((List.range l.length).map fun j => (((l.getD j 0).toNat : Nat) : Int))]
  · congr 2
    rw [fold_push]
    congr 2
    simp only [List.map_map, ByteArray.empty]
    show [] ++ _ = _
    rw [List.nil_append]
    apply List.ext_getElem?
    intro j
    rw [List.getElem?_map]
    by_cases hj : j < l.length
    · rw [List.getElem?_range hj]
      simp [List.getD, List.getElem?_eq_getElem hj]
    · rw [List.getElem?_eq_none (by simpa using hj), List.getElem?_eq_none (by omega)]; rfl
  · rw [run_loadCells w ⟨b, 0, none⟩ l.length (fun j => .int .u8 (((l.getD j 0).toNat : Nat) : Int)) (fun j hj => by
      have hadd : (⟨b, 0, none⟩ : Addr).add j = ⟨b, j, none⟩ := by unfold Addr.add; split <;> simp_all
      rw [hadd]
      exact h j hj)]
    simp

def byteV (l : List UInt8) : List Value := l.map fun c => .int .u8 ((c.toNat : Nat) : Int)
theorem run_own {w : World} {base L : Nat} {po : Option Addr} {co : Nat} {l : List UInt8} (ho : w.ownsRow base 5 1 (.slice po L co) L (byteV l)) (hL : L = l.length) (h0 : 0 < L) :
    (convert 44 9 (.slice po L co)).run Tryd.prog w = .ok (.string (bstr l)) w := by
  have hr := RO.own ho
  have hg : ∀ j, j < l.length → (byteV l)[j]? = some (.int .u8 (((l.getD j 0).toNat : Nat) : Int)) := fun j hj => by simp [byteV, List.getD, List.getElem?_eq_getElem hj]
  subst hL
  rcases ho.2 with ⟨_, e⟩ | ⟨g, cap, cur, hv, hb, _⟩
  · omega
  · cases hv
    exact run_bytes (w := w) (b := g) (c := co) l (fun j hj => by
      have h1 := hr.cell (hg j hj)
      rwa [Nat.zero_add] at h1)
theorem digC (n : Nat) : ((UInt8.ofNat (33 + n % 94)).toNat : Int) = 33 + ((n % 94 : Nat) : Int) := by
  simp only [UInt8.toNat_ofNat']
  omega
theorem digC' (n : Nat) : (33 + ((n % 94 : Nat) : Int)) = (((UInt8.ofNat (33 + n % 94)).toNat : Nat) : Int) := (digC n).symm
theorem idL_step (n : Nat) : idL n = UInt8.ofNat (33 + n % 94) :: (if n / 94 = 0 then [] else idL (n / 94)) := by
  rw [idL]
  split
  · rw [if_pos (by omega), Nat.mod_eq_of_lt (by omega)]
  · rw [if_neg (by omega)]
theorem tmod94 (n : Nat) : ((n : Int)).tmod 94 = ((n % 94 : Nat) : Int) := by rw [Int.tmod_eq_emod_of_nonneg (by omega)]; omega
theorem tdiv94 (n : Nat) : ((n : Int)).tdiv 94 = ((n / 94 : Nat) : Int) := by rw [Int.tdiv_eq_ediv_of_nonneg (by omega)]; omega
set_option maxRecDepth 100000 in
set_option maxHeartbeats 4000000 in
theorem id_any (n : Nat) (hn : n < 8836) (w : World) : Calls Tryd.prog 18 #[.int .i64 n] w fun e w' => e = .returned (.string (bstr (idL n))) ∧ Below w.heap.size w w' := by
  have h1 := tmod94 n
  have h2 := tdiv94 n
  have hid := idL_step n
  obtain ⟨r, hr⟩ : ∃ r, n % 94 = r := ⟨_, rfl⟩
  obtain ⟨q, hq⟩ : ∃ q, n / 94 = q := ⟨_, rfl⟩
  have hr94 : r < 94 := by omega
  have hq94 : q < 94 := by omega
  rw [hr] at h1 hid
  rw [hq] at h2 hid
  have HQ := Lib.hid (And.intro hid (And.intro hr94 hq94))
  clear hr hq hid
  have hw1 : IntKind.i64.wrap (r : Int) = (r : Int) := i64_of (by omega)
  have hw2 : IntKind.i64.wrap (q : Int) = (q : Int) := i64_of (by omega)
  have hw3 : IntKind.i64.wrap (33 + (r : Int)) = 33 + (r : Int) := i64_of (by omega)
  have hw4 : IntKind.u8.wrap (33 + (r : Int)) = 33 + (r : Int) := IntWalk.u8_in _ (by omega)
  go_enter Tryd.func18, Tryd.ntmps18
  go_upto_region 3 with fail
  have hb0 := Below.new w (.cells #[.int .u8 (33 + (r : Int))] 5)
  have hk0 := Blk.new (w := w) 5 [.int .u8 (33 + (r : Int))]
  have ho0 : (w.alloc (.cells #[.int .u8 (33 + (r : Int))] 5)).ownsRow w.heap.size 5 1 (.slice (some ⟨w.heap.size, 0, none⟩) 1 1) 1 (byteV [UInt8.ofNat (33 + r)]) := by
    have := hk0.own (n := 1) (size := 1) rfl (by decide) w.heap.size (Nat.le_refl _)
    have e : byteV [UInt8.ofNat (33 + r)] = [.int .u8 (33 + (r : Int))] := by
      have : ((UInt8.ofNat (33 + r)).toNat : Int) = 33 + (r : Int) := by simp only [UInt8.toNat_ofNat']; omega
      simp only [byteV, List.map_cons, List.map_nil, this]
    rw [e]; exact this
  have H0 := Lib.hid (And.intro ho0 hb0)
  clear hb0 hk0 ho0
  generalize w.alloc (.cells #[.int .u8 (33 + (r : Int))] 5) = W at *
  clear h1 h2 hr94 hq94 hn hw1 hw2 hw3 hw4
  go_loopw [0, 3] (fun nv ov wr => ∃ (k : Nat) (out : List UInt8), k < 94 ∧ nv = .int .i64 k ∧ out ++ (if k = 0 then [] else idL k) = idL n ∧ 1 ≤ out.length ∧ out.length ≤ 3 - (if k = 0 then 0 else 1) ∧ wr.ownsRow w.heap.size 5 1 ov out.length (byteV out) ∧ Below w.heap.size w wr) (fun nv _ _ => (intOf nv).toNat)
  case atStart => exact ⟨q, [UInt8.ofNat (33 + r)], HQ.out.2.2, rfl, HQ.out.1.symm, Nat.le_refl _, by split <;> simp, H0.out⟩
  case round =>
    obtain ⟨k, out, hk, rfl, he, hl1, hl2, ho, hb⟩ := hrel
    obtain ⟨po, co, rfl⟩ := ownsRow_form ho
    have HL := Lib.hid (And.intro he (And.intro ho (And.intro hb hl1)))
    clear he ho hb
    by_cases h0 : 0 < k
    · rw [if_neg (by omega)] at hl2
      have h1 := tmod94 k
      have h2 := tdiv94 k
      rw [show k % 94 = k by omega] at h1
      rw [show k / 94 = 0 by omega] at h2
      have hw1 : IntKind.i64.wrap (k : Int) = (k : Int) := i64_of (by omega)
      have hw3 : IntKind.i64.wrap (33 + (k : Int)) = 33 + (k : Int) := i64_of (by omega)
      have hw4 : IntKind.u8.wrap (33 + (k : Int)) = 33 + (k : Int) := IntWalk.u8_in _ (by omega)
      have hki : (0 : Int) < k := by omega
      have hbx := Below.new wr (.cells #[.int .u8 (33 + (k : Int))] 5)
      have hkx := Blk.new (w := wr) 5 [.int .u8 (33 + (k : Int))]
      have HA := Lib.hid (And.intro (ownsRow_below HL.out.2.1 hbx) (And.intro (RO.own (hkx.own (n := 1) (size := 1) rfl (by decide) 0 (Nat.zero_le _))) (And.intro (HL.out.2.2.1.trans (hbx.mono HL.out.2.2.1.size)) h0)))
      have HK := Lib.hid (And.intro hl1 (And.intro hl2 hk))
      clear hbx hkx h0 hl1
      go_wp2_with (at_builtin; refine wpList_appR rfl _ _ 44 rfl TB w.heap.size (.slice po out.length co) out.length _ rfl HA.out.1 _ 1 _ rfl HA.out.2.1 (by simp [Value.oneCell']) (by omega) (by omega) HA.out.2.2.1.size ?_; intro v4 w4 happ; obtain ⟨p4, c4, ev4⟩ := ownsRow_form happ.own; subst ev4; have HP := Lib.hid happ; clear happ)
      have hb4 := HP.out.below HA.out.2.2.1 HA.out.2.2.1.size (fun g hg => (own_lt HA.out.1 g hg).1)
      have hd : (33 + (k : Int)) = (((UInt8.ofNat (33 + k)).toNat : Nat) : Int) := by
        have := HK.out.2.2
        simp only [UInt8.toNat_ofNat']; omega
      have ho4 : w4.ownsRow w.heap.size 5 1 (.slice p4 (out.length + 1) c4) (out ++ [UInt8.ofNat (33 + k)]).length (byteV (out ++ [UInt8.ofNat (33 + k)])) := by
        have h := HP.out.own
        rw [hd] at h
        rw [List.length_append]
        have e : byteV (out ++ [UInt8.ofNat (33 + k)]) = byteV out ++ [.int .u8 (((UInt8.ofNat (33 + k)).toNat : Nat) : Int)] := by simp [byteV]
        rw [e]; exact h
      have heq : (out ++ [UInt8.ofNat (33 + k)]) ++ (if (0 : Nat) = 0 then [] else idL 0) = idL n := by
        have h := HL.out.1
        have h94 := HK.out.2.2
        rw [if_neg (by have := HA.out.2.2.2; omega), idL, dif_pos h94] at h
        rw [if_pos rfl, List.append_nil]; exact h
      have H4 := Lib.hid (And.intro heq (And.intro ho4 hb4))
      clear hb4 hd ho4 heq HP
      go_roundw
      case rel => exact ⟨0, _, by decide, by go_num, H4.out.1, by simp, by have := HK.out.2.1; simp; omega, H4.out.2.1, H4.out.2.2⟩
      case measure => have := HA.out.2.2.2; simp [intOf]; omega
    · obtain rfl : k = 0 := by omega
      have he := HL.out.1
      rw [if_pos rfl, List.append_nil] at he
      have hrun := run_own HL.out.2.1 rfl (by omega)
      have HE := Lib.hid he
      clear he hk h0 hl1 hl2
      go_wp2_with fail
      go_ret
      exact ⟨by rw [← HE.out]; rfl, HL.out.2.2.1⟩
end Go.Proofs.YtcdjkbgedmehjaaDoor
