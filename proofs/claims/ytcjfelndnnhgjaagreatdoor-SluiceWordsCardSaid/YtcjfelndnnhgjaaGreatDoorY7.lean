/- Texts of this claim, one behind another: N1, N2, N3, N4. They state lemmas; each names its own conditions. -/
import Derived.Test.YtcjfelndnnhgjaaGreatDoorY6
import Derived.Test.YtcjfelndnnhgjaaGreatDoorS1
import Derived.Laws.Strings
import Derived.Lib.ItoaNum
namespace Go.Proofs.YtcjfelndnnhgjaaGreatDoor.L
set_option linter.unusedVariables false
open Go.RowKit

/-! # lit: digits -/
/-- a digit's letter -/
def hexC (d : Nat) : UInt8 := if d < 10 then UInt8.ofNat (48 + d) else UInt8.ofNat (87 + d)
theorem hexC_lo : ∀ d : Nat, d < 10 → (hexC d).toNat = 48 + d := by decide
theorem hexC_all : ∀ d, d < 16 → (hexC d).toNat = if d < 10 then 48 + d else 87 + d := by decide
theorem hexC_idx : ∀ d, d < 16 → Lib.indexByte [48, 49, 50, 51, 52, 53, 54, 55, 56, 57, 97, 98, 99, 100, 101, 102] (hexC d) = (d : Int) := by decide
def hexL (ds : List Nat) : List UInt8 := ds.map hexC
theorem hexL_at (ds : List Nat) (k : Nat) (h : k < (⟨(hexL ds).toArray⟩ : ByteArray).size) : (⟨(hexL ds).toArray⟩ : ByteArray)[k] = hexC (ds.getD k 0) := by
  have hk : k < ds.length := by
    have : (⟨(hexL ds).toArray⟩ : ByteArray).size = ds.length := by show (hexL ds).toArray.size = _; simp [hexL]
    omega
  show (hexL ds).toArray[k]'_ = _
  simp [hexL, List.getD, List.getElem?_eq_getElem hk]
set_option maxRecDepth 100000 in
set_option maxHeartbeats 1000000 in
theorem value_any (d : Nat) (hd : d < 16) (w : World) : Calls Tryz.prog 95 #[.int .u8 ((hexC d).toNat : Nat)] w fun e w' => e = .returned (.int .i64 d) ∧ w = w' := by
  have HI := Lib.hid (Tryz.strings_IndexByte ⟨#[48, 49, 50, 51, 52, 53, 54, 55, 56, 57, 97, 98, 99, 100, 101, 102]⟩ ((hexC d).toNat : Nat) w)
  have hi := hexC_idx d hd
  have ha := hexC_all d hd
  have ht : ((((hexC d).toNat : Nat) : Int).toNat.toUInt8) = hexC d := by simp
  rw [show (⟨#[48, 49, 50, 51, 52, 53, 54, 55, 56, 57, 97, 98, 99, 100, 101, 102]⟩ : ByteArray).data.toList = [48, 49, 50, 51, 52, 53, 54, 55, 56, 57, 97, 98, 99, 100, 101, 102] from rfl, ht, hi] at HI
  generalize (hexC d).toNat = c at *
  clear hi ht
  by_cases h : d < 10
  · rw [if_pos h] at ha
    have h1 : (c : Int) < 65 := by omega
    have h1d : decide ((65 : Int) ≤ c) = false := decide_eq_false (by omega)
    clear ha
    go_enter Tryz.func95, Tryz.ntmps95
    go_wp2_with fail
    refine HI.out.mono ?_; rintro e w' ⟨rfl, rfl⟩
    have h0 : (0 : Int) ≤ d := by omega
    go_wp2_with fail
    go_ret
    exact ⟨rfl, rfl⟩
  · rw [if_neg h] at ha
    have h1 : (65 : Int) ≤ c := by omega
    have h2 : (70 : Int) < c := by omega
    have h2d : decide ((c : Int) ≤ 70) = false := decide_eq_false (by omega)
    clear ha
    go_enter Tryz.func95, Tryz.ntmps95
    go_wp2_with fail
    refine HI.out.mono ?_; rintro e w' ⟨rfl, rfl⟩
    have h0 : (0 : Int) ≤ d := by omega
    go_wp2_with fail
    go_ret
    exact ⟨rfl, rfl⟩
def natI (l : List Nat) : List Int := l.map fun d : Nat => (d : Int)
theorem natI_len (l : List Nat) : (natI l).length = l.length := by simp [natI]
theorem natI_take (l : List Nat) {k : Nat} (h : k < l.length) : ints (natI (l.take (k + 1))) = ints (natI (l.take k)) ++ [.int .i64 ((l.getD k 0 : Nat) : Int)] := by
  rw [List.take_add_one, List.getElem?_eq_getElem h]
  simp only [natI, ints, List.getD, List.getElem?_eq_getElem h, Option.toList, List.map_append, List.map_cons, List.map_nil, Option.getD_some]
theorem i64_of {x : Int} (h : -9223372036854775808 ≤ x ∧ x ≤ 9223372036854775807) : IntKind.i64.wrap x = x := IntWalk.i64_in _ h
theorem own_lt {w : World} {base e size n : Nat} {v : Value} {xs : List Value} (h : w.ownsRow base e size v n xs) : ∀ g, v.ownBlock = some g → base ≤ g ∧ g < w.heap.size := fun g hg => by
  rcases h.2 with ⟨rfl, _⟩ | ⟨g', cap, cur, rfl, h1, h2, _⟩
  · cases hg
  · cases hg; exact ⟨h1, some_lt h2⟩
/-- digits makes a list of one's own -/
def DigR (w : World) (ds : List Nat) (e : Ending) (w' : World) : Prop := ∃ v, e = .returned (.tuple #[v, .int .i64 0]) ∧ w'.ownsRow w.heap.size 3 1 v ds.length (ints (natI ds)) ∧ Below w.heap.size w w'
theorem Tryz.info_int : (Tryz.prog.info? 3).map (fun i => (i.zero, i.size, i.bytes)) = some (some (.int .i64 0), 1, 8) := by kernel_rfl
theorem Tryz.TI : SlTy Tryz.prog 56 3 1 8 (.int .i64 0) := SlTy.of Tryz.underlying56 Tryz.info_int rfl (by decide)
set_option maxRecDepth 100000 in
set_option maxHeartbeats 4000000 in
theorem digits_any {w : World} (ds : List Nat) (b : Nat) (hne : ds ≠ []) (hd : ∀ d ∈ ds, d < b) (hb : b ≤ 16) (hl : ds.length ≤ 1000) : Calls Tryz.prog 74 #[.string ⟨(hexL ds).toArray⟩, .int .i64 b] w (DigR w ds) := by
  obtain ⟨s, hs⟩ : ∃ s : ByteArray, s = ⟨(hexL ds).toArray⟩ := ⟨_, rfl⟩
  obtain ⟨n, hn⟩ : ∃ n, ds.length = n := ⟨_, rfl⟩
  have hsz : s.size = n := by rw [hs, ← hn]; show (hexL ds).toArray.size = _; simp [hexL]
  have hat : ∀ (k : Nat) (h : k < s.size), s[k] = hexC (ds.getD k 0) := by subst hs; exact fun k h => hexL_at ds k h
  have hn0 : 0 < n := by rw [← hn]; exact List.length_pos_iff.2 hne
  have hnl : ¬ s.toList = [] := by
    intro e
    rw [ByteArray.toList_eq] at e
    have := congrArg List.length e
    simp only [Array.length_toList, List.length_nil] at this
    have : s.size = 0 := this
    omega
  have hie : s.toList.isEmpty = false := by simpa [List.isEmpty_iff] using hnl
  rw [← hs]
  have hk : ∀ k, k < n → ds.getD k 0 < b := fun k h => hd _ (by simp [List.getD, List.getElem?_eq_getElem (show k < ds.length by omega)])
  have H := Lib.hid (And.intro hn (And.intro hat (And.intro hk hb)))
  have hszi : (s.size : Int) ≤ 1000 := by omega
  have HSZ := Lib.hid hsz
  clear hs hn hat hne hd hb hl hk hsz hn0
  go_enter Tryz.func74, Tryz.ntmps74
  go_wp2_with fail
  go_loopw [13, 6] (fun iv ov wr => ∃ i : Nat, i ≤ s.size ∧ iv = .int .i64 i ∧ wr.ownsRow w.heap.size 3 1 ov i (ints (natI (ds.take i))) ∧ Below w.heap.size w wr) (fun iv _ _ => s.size - (intOf iv).toNat)
  case atStart => exact ⟨0, Nat.zero_le _, rfl, World.ownsRow_nil _ _ _ _, Below.refl _ _⟩
  case round =>
    obtain ⟨i, hi, rfl, ho, hbel⟩ := hrel
    obtain ⟨po, co, rfl⟩ := ownsRow_form ho
    by_cases hlt : i < s.size
    · have hc := H.out.2.1 i hlt
      have hin : i < n := by have := HSZ.out; omega
      have hdi := H.out.2.2.1 i hin
      have htk := natI_take ds (k := i) (by have := H.out.1; omega)
      generalize ds.getD i 0 = d at *
      have hb16 := H.out.2.2.2
      have hc' : (s[i].toNat : Nat) = (hexC d).toNat := by rw [hc]
      have hval := value_any d (by omega) wr
      have hall := hexC_all d (by omega)
      generalize (hexC d).toNat = c at *
      rw [← hc'] at hval hall
      have hne95 : ((s[i].toNat : Int) == 95) = false := by
        have : s[i].toNat ≠ 95 := by rw [hall]; split <;> omega
        simp; omega
      have HV := Lib.hid hval
      have HO := Lib.hid (And.intro ho (And.intro hbel (And.intro htk hlt)))
      have hdb : (d : Int) < b := by omega
      have hiw : IntKind.i64.wrap ((i : Int) + 1) = (i : Int) + 1 := i64_of (by omega)
      clear hc hc' hall hval ho hbel htk hi hdi hb16 hin
      go_wp2_with fail
      refine HV.out.mono ?_; rintro e w' ⟨rfl, rfl⟩
      go_upto_region 11 with fail
      have hs1 : (wr.alloc (.cells #[.int .i64 d] 3)).ownsRow w.heap.size 3 1 (.slice po i co) i (ints (natI (ds.take i))) := HO.out.1.alloc _
      have hr1 : RO (wr.alloc (.cells #[.int .i64 d] 3)) (.slice (some ⟨wr.heap.size, 0, none⟩) 1 1) 1 1 [.int .i64 d] := RO.ofCells (Blk.new 3 [.int .i64 d]) rfl
      have hb1 : Below w.heap.size w (wr.alloc (.cells #[.int .i64 d] 3)) := HO.out.2.1.alloc HO.out.2.1.size _
      have hsz1 := hb1.size
      have HP := Lib.hid (And.intro hs1 (And.intro hr1 hb1))
      clear hs1 hr1 hb1 hdb hne95
      go_wp2_with (at_builtin; refine wpList_appR rfl _ _ 56 rfl Tryz.TI w.heap.size (.slice po i co) i _ rfl HP.out.1 _ 1 _ rfl HP.out.2.1 (by simp [Value.oneCell']) (by omega) (by omega) hsz1 ?_; intro v8 w8 happ; have hbl8 := happ.below HP.out.2.2 hsz1 (fun j hj => (own_lt HP.out.1 j hj).1); obtain ⟨p8, c8, ev8⟩ := ownsRow_form happ.own; subst ev8; have H8 := Lib.hid (And.intro happ.own hbl8); clear happ hbl8 hsz1)
      go_roundw
      case rel =>
        refine ⟨i + 1, HO.out.2.2.2, by go_num, ?_, H8.out.2⟩
        have h8 := H8.out.1
        rw [HO.out.2.2.1]
        exact h8
      case measure => have := HO.out.2.2.2; simp [intOf]; omega
    · obtain rfl : i = s.size := by omega
      rw [List.take_of_length_le (by have := H.out.1; have := HSZ.out; omega)] at ho
      have HO := Lib.hid (And.intro ho hbel)
      clear ho hbel hi hlt
      go_wp2_with fail
      go_ret2
      have he : s.size = ds.length := by rw [H.out.1]; exact HSZ.out
      exact ⟨_, rfl, by rw [← he]; exact HO.out.1, HO.out.2⟩
end Go.Proofs.YtcjfelndnnhgjaaGreatDoor.L
namespace Go.Proofs.YtcjfelndnnhgjaaGreatDoor.L
set_option linter.unusedVariables false
open Go.RowKit

/-- the number of decimal digits, at most so much -/
def smallP (most : Nat) (ds : List Nat) : Nat := ds.foldl (fun n d => min (10 * n + d) most) 0
theorem smallP_le (most : Nat) (ds : List Nat) : smallP most ds ≤ most := by
  unfold smallP
  suffices h : ∀ n, n ≤ most → ds.foldl (fun n d => min (10 * n + d) most) n ≤ most from h 0 (Nat.zero_le _)
  induction ds with
  | nil => intro n h; exact h
  | cons d ds ih => intro n h; exact ih _ (Nat.min_le_right _ _)
theorem smallP_take (most : Nat) (ds : List Nat) {k : Nat} (h : k < ds.length) : smallP most (ds.take (k + 1)) = min (10 * smallP most (ds.take k) + ds.getD k 0) most := by
  rw [List.take_add_one, List.getElem?_eq_getElem h]
  unfold smallP
  rw [List.foldl_append]
  simp only [Option.toList, List.foldl_cons, List.foldl_nil, List.getD, List.getElem?_eq_getElem h, Option.getD_some]
theorem natI_at (ds : List Nat) (k : Nat) (h : k < ds.length) : (ints (natI ds))[k]? = some (.int .i64 ((ds.getD k 0 : Nat) : Int)) := by
  simp [natI, ints, List.getD, List.getElem?_eq_getElem h]
set_option maxRecDepth 100000 in
set_option maxHeartbeats 4000000 in
theorem small_any {w : World} {v : Value} (ds : List Nat) (most : Nat) (hv : RO w v 1 ds.length (ints (natI ds))) (hd : ∀ d ∈ ds, d < 16) (hm : most ≤ 1000000) (hl : ds.length ≤ 1000) : Calls Tryz.prog 75 #[v, .int .i64 most] w fun e w' => e = .returned (.int .i64 (smallP most ds)) ∧ w = w' := by
  obtain ⟨p, c, rfl⟩ := hv.form
  obtain ⟨n, hn⟩ : ∃ n, ds.length = n := ⟨_, rfl⟩
  have hk : ∀ k, k < n → ds.getD k 0 < 16 := fun k h => hd _ (by simp [List.getD, List.getElem?_eq_getElem (show k < ds.length by omega)])
  have H := Lib.hid (And.intro hv (And.intro hn hk))
  rw [hn]
  have hni : (n : Int) ≤ 1000 := by omega
  have hmi : (most : Int) ≤ 1000000 := by omega
  clear hv hk hd hl hm hn
  go_enter Tryz.func75, Tryz.ntmps75
  go_wp2_with fail
  go_loop [10, 5] (fun iv sv => ∃ i : Nat, i ≤ n ∧ iv = .int .i64 i ∧ sv = .int .i64 (smallP most (ds.take i))) (fun iv _ => n - (intOf iv).toNat)
  case atStart => exact ⟨0, Nat.zero_le _, rfl, rfl⟩
  case round =>
    obtain ⟨i, hi, rfl, rfl⟩ := hrel
    by_cases hlt : i < n
    · have hil : i < ds.length := by rw [H.out.2.1]; exact hlt
      have hat := natI_at ds i hil
      obtain ⟨b, o, hp⟩ := H.out.1.sl hat
      subst hp
      have hc := H.out.1.cell hat
      have hst := smallP_take most ds hil
      have hle := smallP_le most (ds.take i)
      have hd16 := H.out.2.2 i hlt
      generalize ds.getD i 0 = d at *
      generalize smallP most (ds.take i) = m at *
      have hii : (i : Int) < n := by omega
      have q1 : IntKind.i64.wrap (10 * (m : Int)) = 10 * (m : Int) := i64_of (by omega)
      have q2 : IntKind.i64.wrap (10 * (m : Int) + (d : Int)) = 10 * (m : Int) + (d : Int) := i64_of (by omega)
      have hiw : IntKind.i64.wrap ((i : Int) + 1) = (i : Int) + 1 := i64_of (by omega)
      have HS := Lib.hid (And.intro hst hlt)
      clear hst hle hd16 hat hil hi hlt
      go_wp2_with fail
      go_round
      case rel => exact ⟨i + 1, HS.out.2, by go_num, by rw [HS.out.1]; congr 1; omega⟩
      case measure => have := HS.out.2; simp [intOf]; omega
    · obtain rfl : i = n := by omega
      rw [List.take_of_length_le (by have := H.out.2.1; omega)]
      clear hi hlt
      go_wp2_with fail
      go_ret
      exact ⟨rfl, rfl⟩
/-! the letter of a base -/
set_option maxRecDepth 100000 in
set_option maxHeartbeats 1000000 in
theorem base_h (w : World) : Calls Tryz.prog 96 #[.int .u8 104] w fun e w' => e = .returned (.int .i64 16) ∧ w = w' := by
  go_enter Tryz.func96, Tryz.ntmps96
  go_wp2_with fail
  go_ret
  exact ⟨rfl, rfl⟩
set_option maxRecDepth 100000 in
set_option maxHeartbeats 1000000 in
theorem base_d (w : World) : Calls Tryz.prog 96 #[.int .u8 100] w fun e w' => e = .returned (.int .i64 10) ∧ w = w' := by
  go_enter Tryz.func96, Tryz.ntmps96
  go_wp2_with fail
  go_ret
  exact ⟨rfl, rfl⟩
end Go.Proofs.YtcjfelndnnhgjaaGreatDoor.L
namespace Go.Proofs.YtcjfelndnnhgjaaGreatDoor.L
set_option linter.unusedVariables false
open Go.RowKit

theorem str_ne {s : ByteArray} (h : 0 < s.size) : ¬ s.toList = [] ∧ s.toList.isEmpty = false := by
  have hnl : ¬ s.toList = [] := by
    intro e
    rw [ByteArray.toList_eq] at e
    have := congrArg List.length e
    simp only [Array.length_toList, List.length_nil] at this
    have : s.size = 0 := this
    omega
  exact ⟨hnl, by simpa [List.isEmpty_iff] using hnl⟩
/-- what based makes of a base's letter and digits -/
def BasedR (r : List UInt8) (by_ : Nat) (sg : Bool) (w : World) (e : Ending) (w' : World) : Prop := e = .returned (.tuple #[.string ⟨r.toArray⟩, .int .i64 by_, .bool sg, .int .i64 0]) ∧ w = w'
theorem results_tmp4 {fn : Func} {t u v x : Tmp} (h : fn.results = #[.tmp t, .tmp u, .tmp v, .tmp x]) (tmps : Array Value) (P : Program) (w : World) :
    (results fn tmps).run P w = .ok (.tuple #[tmps.getD t undef, tmps.getD u undef, tmps.getD v undef, tmps.getD x undef]) w := by
  simp [results, h]
/-- a text that begins with a letter -/
structure Hd (s : ByteArray) (c : UInt8) (t : ByteArray) : Prop where
  pos : 0 < s.size
  at0 : s[0] = c
  rest : s.extract 1 s.size = t
theorem Hd.of (c : UInt8) (r : List UInt8) : Hd ⟨(c :: r).toArray⟩ c ⟨r.toArray⟩ := by
  have hsz : (⟨(c :: r).toArray⟩ : ByteArray).size = r.length + 1 := by show (c :: r).toArray.size = _; simp
  refine ⟨by omega, rfl, ?_⟩
  apply ByteArray.ext
  rw [ByteArray.data_extract, hsz]
  simp
set_option maxRecDepth 100000 in
set_option maxHeartbeats 1000000 in
theorem based_u {w : World} {s t : ByteArray} {c : UInt8} (h : Hd s c t) (b : Nat) (hb0 : 0 < b) (hc : (bits .or .u8 (c.toNat : Int) 32 == 115) = false) (hb : ∀ w, Calls Tryz.prog 96 #[.int .u8 (c.toNat : Nat)] w fun e w' => e = .returned (.int .i64 b) ∧ w = w') :
    Calls Tryz.prog 76 #[.string s] w fun e w' => e = .returned (.tuple #[.string t, .int .i64 b, .bool false, .int .i64 0]) ∧ w = w' := by
  obtain ⟨h0, hat, hx⟩ := h
  obtain ⟨hnl, hie⟩ := str_ne h0
  rw [← hat] at hc hb
  have HB := Lib.hid hb
  have hb0' : (0 : Int) < b := by omega
  have hbe : ((b : Int) == 0) = false := by simp; omega
  clear hb hat
  go_enter Tryz.func76, Tryz.ntmps76
  go_wp2_with fail
  refine (HB.out _).mono ?_; rintro e w' ⟨rfl, rfl⟩
  go_wp2_with fail
  (try simp only [Exit.inBlock, Exit.then])
  refine bodyPost_ret (results_tmp4 rfl _ _ _) rfl ?_
  exact ⟨rfl, rfl⟩
set_option maxRecDepth 100000 in
set_option maxHeartbeats 1000000 in
theorem based_s {w : World} {s s2 t : ByteArray} {c : UInt8} (h1 : Hd s 115 s2) (h : Hd s2 c t) (b : Nat) (hb0 : 0 < b) (hb : ∀ w, Calls Tryz.prog 96 #[.int .u8 (c.toNat : Nat)] w fun e w' => e = .returned (.int .i64 b) ∧ w = w') :
    Calls Tryz.prog 76 #[.string s] w fun e w' => e = .returned (.tuple #[.string t, .int .i64 b, .bool true, .int .i64 0]) ∧ w = w' := by
  obtain ⟨j0, jat, jx⟩ := h1
  obtain ⟨jnl, jie⟩ := str_ne j0
  obtain ⟨h0, hat, hx⟩ := h
  obtain ⟨hnl, hie⟩ := str_ne h0
  rw [← hat] at hb
  have hc : (bits .or .u8 (s[0].toNat : Int) 32 == 115) = true := by rw [jat]; decide
  have HB := Lib.hid hb
  have hb0' : (0 : Int) < b := by omega
  have hbe : ((b : Int) == 0) = false := by simp; omega
  clear hb hat jat
  go_enter Tryz.func76, Tryz.ntmps76
  go_wp2_with fail
  refine (HB.out _).mono ?_; rintro e w' ⟨rfl, rfl⟩
  go_wp2_with fail
  (try simp only [Exit.inBlock, Exit.then])
  refine bodyPost_ret (results_tmp4 rfl _ _ _) rfl ?_
  exact ⟨rfl, rfl⟩
end Go.Proofs.YtcjfelndnnhgjaaGreatDoor.L
namespace Go.Proofs.YtcjfelndnnhgjaaGreatDoor.L
set_option linter.unusedVariables false
open Go.RowKit

/-- the number of digits in a base -/
def valH (b : Nat) (ds : List Nat) : Nat := ds.foldl (fun a d => a * b + d) 0
theorem valH_take (b : Nat) (ds : List Nat) {k : Nat} (h : k < ds.length) : valH b (ds.take (k + 1)) = valH b (ds.take k) * b + ds.getD k 0 := by
  rw [List.take_add_one, List.getElem?_eq_getElem h]
  unfold valH
  rw [List.foldl_append]
  simp only [Option.toList, List.foldl_cons, List.foldl_nil, List.getD, List.getElem?_eq_getElem h, Option.getD_some]
theorem valW_one (d : Nat) : valW [d] = d := by simp [valW]
theorem ro_lit (w : World) (t d : Nat) : RO (w.alloc (.cells #[.int .u64 ((d : Nat) : Int)] t)) (.slice (some ⟨w.heap.size, 0, none⟩) 1 1) 1 [d].length (natsV [d]) := RO.ofCells (Blk.new (w := w) t [.int .u64 ((d : Nat) : Int)]) rfl
theorem ro_nil0 (w : World) : RO w (.slice none 0 0) 1 ([] : List Nat).length (natsV []) := ⟨rfl, _, _, rfl, fun j u hj => by simp [natsV] at hj⟩
/-- New of one small number, or of none -/
theorem new_one {w : World} (n d : Nat) (h1 : 1 ≤ n) (h2 : n ≤ 128) (hd : d < 16 + 1) (t : Nat) : Calls Tryz.prog 97 #[.int .i64 n, .slice (some ⟨w.heap.size, 0, none⟩) 1 1] (w.alloc (.cells #[.int .u64 ((d : Nat) : Int)] t)) (RetE (w.alloc (.cells #[.int .u64 ((d : Nat) : Int)] t)) n (d % 2 ^ n) 0) := by
  have h := new_good n h1 h2 _ (ro_lit w t d) (by intro x hx; simp at hx; omega)
  rwa [valW_one] at h
theorem new_zero {w : World} (n : Nat) (h1 : 1 ≤ n) (h2 : n ≤ 128) : Calls Tryz.prog 97 #[.int .i64 n, .slice none 0 0] w (RetE w n 0 0) := by
  have h := new_good n h1 h2 _ (ro_nil0 w) (by intro x hx; simp at hx)
  rwa [show valW [] % 2 ^ n = 0 from Nat.zero_mod _] at h
theorem bits_step (X B d n b : Nat) (hB : B = b % 2 ^ n) {V : Nat} (hX : X = V % 2 ^ n) : (X * B % 2 ^ n + d % 2 ^ n + 0) % 2 ^ n = (V * b + d) % 2 ^ n := by
  subst hB; subst hX
  rw [Nat.add_zero, ← Nat.mul_mod, ← Nat.add_mod]
/-- the loop of bits: the boxes of the result, of the sum (in block g7), of the base (g9) -/
structure BitsL (w : World) (g7 g9 n : Nat) (ps pb : Option Addr) (cs cb X B : Nat) (wr : World) : Prop where
  tr : Tr w [(g9, 115, [.int .i64 n, .slice pb (wcount n) cb]), (g7, 115, [.int .i64 n, .slice ps (wcount n) cs]), (w.heap.size, 115, [.int .i64 0, .slice none 0 0])] wr
  vs : VR wr (.agg #[.int .i64 n, .slice ps (wcount n) cs]) n X
  vb : VR wr (.agg #[.int .i64 n, .slice pb (wcount n) cb]) n B
  n1 : ∀ b o, ps = some ⟨b, o, none⟩ → b ≠ w.heap.size
  far : Far w (.agg #[.int .i64 n, .slice ps (wcount n) cs])
  n3 : ∀ b o, pb = some ⟨b, o, none⟩ → b ≠ w.heap.size
  n4 : ∀ b o, pb = some ⟨b, o, none⟩ → b ≠ g7
theorem BitsL.below {w wr wr' : World} {g7 g9 n : Nat} {ps pb : Option Addr} {cs cb X B : Nat} (h : BitsL w g7 g9 n ps pb cs cb X B wr) (hb : Below wr.heap.size wr wr') : BitsL w g7 g9 n ps pb cs cb X B wr' :=
  ⟨h.tr.below hb, h.vs.below hb, h.vb.below hb, h.n1, h.far, h.n3, h.n4⟩
theorem BitsL.store {w wr w4 : World} {g7 g9 n : Nat} {ps pb p4 : Option Addr} {cs cb c4 X X4 B : Nat} (h : BitsL w g7 g9 n ps pb cs cb X B wr) (hb : Below wr.heap.size wr w4) (hv : VR w4 (.agg #[.int .i64 n, .slice p4 (wcount n) c4]) n X4) (hf : Far wr (.agg #[.int .i64 n, .slice p4 (wcount n) c4])) :
    BitsL w g7 g9 n p4 pb c4 cb X4 B ((w4.setCell ⟨g7, 0, none⟩ (.int .i64 n)).setCell ⟨g7, 1, none⟩ (.slice p4 (wcount n) c4)) := by
  have hb' := h.below hb
  have l7 := (h.tr.at 1 rfl).lt
  have l6 := (h.tr.at 2 rfl).lt
  exact ⟨hb'.tr.two 1 rfl, hv.set2 (hf.ne l7), hb'.vb.set2 h.n4, hf.ne l6, fun k p m c b o e hp => Nat.le_trans h.tr.bel.size (hf k p m c b o e hp), h.n3, h.n4⟩
set_option maxRecDepth 100000 in
set_option maxHeartbeats 8000000 in
theorem bits_any {w : World} {v : Value} (ds : List Nat) (b n : Nat) (hv : RO w v 1 ds.length (ints (natI ds))) (hd : ∀ d ∈ ds, d < 16) (hb : b ≤ 16) (h1 : 1 ≤ n) (h2 : n ≤ 128) (hl : ds.length ≤ 1000) :
    Calls Tryz.prog 77 #[v, .int .i64 b, .int .i64 n] w (RetV w n (valH b ds % 2 ^ n)) := by
  obtain ⟨p, c, rfl⟩ := hv.form
  obtain ⟨L, hL⟩ : ∃ L, ds.length = L := ⟨_, rfl⟩
  have hk : ∀ k, k < L → ds.getD k 0 < 16 := fun k h => hd _ (by simp [List.getD, List.getElem?_eq_getElem (show k < ds.length by omega)])
  have H := Lib.hid (And.intro hv (And.intro hL (And.intro hk (And.intro hb (And.intro h1 h2)))))
  rw [hL]
  have hLi : (L : Int) ≤ 1000 := by omega
  have hbi : (b : Int) ≤ 16 := by omega
  have HZ := Lib.hid (fun w : World => new_zero (w := w) n h1 h2)
  have HO := Lib.hid (fun (w : World) (d : Nat) (hd : d < 16 + 1) => new_one (w := w) n d h1 h2 hd 158)
  have hbw : IntKind.u64.wrap (b : Int) = (b : Int) := by rw [IntKind.wrap_u64]; omega
  clear hv hk hd hb hl hL h1 h2
  go_enter Tryz.func77, Tryz.ntmps77
  go_wp2_with fail
  have hT := (Tr.nil w).lay 115 [.int .i64 0, .slice none 0 0]
  generalize w.alloc (.cells [Value.int .i64 0, .slice none 0 0].toArray 115) = W at *
  have HT := Lib.hid hT
  clear hT
  refine (HZ.out _).mono ?_; rintro e w2 ⟨v2, rfl, hv2, hb2, hf2⟩
  obtain ⟨p2, c2, rfl, _⟩ := hv2.ex
  have hT2 := (HT.out.below hb2).lay 115 [.int .i64 n, .slice p2 (wcount n) c2]
  have hW := (HT.out.far 0 rfl)
  have hWl := (HT.out.at 0 rfl).lt
  have hv2' := hv2.below (Below.new w2 (.cells #[.int .i64 n, .slice p2 (wcount n) c2] 115))
  have n1 := hf2.ne hWl
  have n2 := hv2.new_ne (by have := H.out.2.2.2.2.1; omega)
  obtain ⟨g7, hg7⟩ : ∃ g, w2.heap.size = g := ⟨_, rfl⟩
  have hs7 : g7 < (w2.alloc (.cells #[.int .i64 n, .slice p2 (wcount n) c2] 115)).heap.size := by rw [World.size_alloc]; omega
  have hfw : Far w (.agg #[.int .i64 n, .slice p2 (wcount n) c2]) := fun k p m c b o e hp => Nat.le_trans HT.out.bel.size (hf2 k p m c b o e hp)
  have HV2 := Lib.hid (And.intro hT2 (And.intro hv2' (And.intro n1 (And.intro hfw hs7))))
  clear hT2 hv2' n1 n2 hfw hv2 hf2 hb2 hW hWl HT hs7
  go_upto_region 2 with fail
  rw [hg7] at HV2
  generalize w2.alloc (.cells #[.int .i64 n, .slice p2 (wcount n) c2] 115) = W2 at *
  clear hg7
  go_wp2_with fail
  refine (HO.out W2 b (by have := H.out.2.2.2.1; omega)).mono ?_; rintro e w3 ⟨v3, rfl, hv3, hb3, hf3⟩
  obtain ⟨p3, c3, rfl, _⟩ := hv3.ex
  have hbn := Below.next (Below.new W2 (.cells #[.int .u64 ((b : Nat) : Int)] 158)) hb3
  have hT3 := (HV2.out.1.below hbn).lay 115 [.int .i64 n, .slice p3 (wcount n) c3]
  have hbx := Below.new w3 (.cells #[.int .i64 n, .slice p3 (wcount n) c3] 115)
  have m7 : g7 < (W2.alloc (.cells #[.int .u64 ((b : Nat) : Int)] 158)).heap.size := by rw [World.size_alloc]; have := HV2.out.2.2.2.2; omega
  have m6 : w.heap.size < (W2.alloc (.cells #[.int .u64 ((b : Nat) : Int)] 158)).heap.size := by rw [World.size_alloc]; have := (HV2.out.1.at 1 rfl).lt; omega
  have hL0 : BitsL w g7 w3.heap.size n p2 p3 c2 c3 0 (b % 2 ^ n) (w3.alloc (.cells #[.int .i64 n, .slice p3 (wcount n) c3] 115)) :=
    ⟨hT3, (HV2.out.2.1.below hbn).below hbx, hv3.below hbx, HV2.out.2.2.1, HV2.out.2.2.2.1, hf3.ne m6, hf3.ne m7⟩
  obtain ⟨g9, hg9⟩ : ∃ g, w3.heap.size = g := ⟨_, rfl⟩
  rw [hg9] at hL0
  have HL0 := Lib.hid hL0
  clear hbn hT3 hbx m7 m6 hL0 hv3 hf3 hb3 HV2
  go_upto_region 3 with fail
  generalize w3.alloc (.cells #[.int .i64 n, .slice p3 (wcount n) c3] 115) = W3 at *
  clear hg9
  go_wp2_with fail
  go_loopw [30] (fun iv wr => ∃ (i X : Nat) (ps : Option Addr) (cs : Nat), i ≤ L ∧ iv = .int .i64 i ∧ X = valH b (ds.take i) % 2 ^ n ∧ BitsL w g7 g9 n ps p3 cs c3 X (b % 2 ^ n) wr) (fun iv _ => L - (intOf iv).toNat)
  case atStart => exact ⟨0, 0, _, _, Nat.zero_le _, rfl, by simp [valH], HL0.out⟩
  case round =>
    clear HL0
    obtain ⟨i, X, ps, cs, hi, rfl, hX, hB⟩ := hrel
    by_cases hlt : i < L
    · have hil : i < ds.length := by rw [H.out.2.1]; exact hlt
      have hat := natI_at ds i hil
      have hro := H.out.1.below hB.tr.bel
      obtain ⟨bb, o, hp⟩ := hro.sl hat
      subst hp
      have hc := hro.cell hat
      have hst := valH_take b ds hil
      have hd16 := H.out.2.2.1 i hlt
      generalize ds.getD i 0 = d at *
      have hii : (i : Int) < L := by omega
      have hiw : IntKind.i64.wrap ((i : Int) + 1) = (i : Int) + 1 := i64_of (by omega)
      have hdw : IntKind.u64.wrap (d : Int) = (d : Int) := by rw [IntKind.wrap_u64]; omega
      have HBin := Lib.hid (bin_2 hB.vs hB.vb H.out.2.2.2.2.1)
      have r0 := (hB.tr.pr 1 rfl).1
      have r1 := (hB.tr.pr 1 rfl).2
      have s0 := (hB.tr.pr 0 rfl).1
      have s1 := (hB.tr.pr 0 rfl).2
      have HB := Lib.hid (And.intro hB (And.intro hX (And.intro hst (And.intro hd16 hlt))))
      clear hB hX hst hd16 hlt hi hil hat hro
      go_wp2_with fail
      refine HBin.out.mono ?_; rintro e w4 ⟨v4, rfl, hv4, hb4, hf4⟩
      obtain ⟨p4, c4, rfl, _⟩ := hv4.ex
      have hB4 := HB.out.1.store hb4 hv4 hf4
      have t0 := ((HB.out.1.tr.below hb4).at 1 rfl).cell (i := 0) rfl
      have t1 := ((HB.out.1.tr.below hb4).at 1 rfl).cell (i := 1) rfl
      have f0 := ((HB.out.1.tr.below hb4).at 1 rfl).frz 0
      have f1 := ((HB.out.1.tr.below hb4).at 1 rfl).frz 1
      have HB4 := Lib.hid hB4
      clear hB4 hv4 hb4 hf4 r0 r1 s0 s1
      go_upto_region 7 with fail
      clear t0 t1 f0 f1
      generalize (w4.setCell ⟨g7, 0, none⟩ (.int .i64 n)).setCell ⟨g7, 1, none⟩ (.slice p4 (wcount n) c4) = W4 at *
      go_wp2_with fail
      refine (HO.out W4 d (by have := HB.out.2.2.2.1; omega)).mono ?_; rintro e w5 ⟨v5, rfl, hv5, hb5, hf5⟩
      obtain ⟨p5, c5, rfl, _⟩ := hv5.ex
      have hbn := Below.next (Below.new W4 (.cells #[.int .u64 ((d : Nat) : Int)] 158)) hb5
      have hbx := Below.new w5 (.cells #[.int .i64 n, .slice p5 (wcount n) c5] 115)
      have hB5 := (HB4.out.below hbn).below hbx
      have hk5 := Blk.new (w := w5) 115 [.int .i64 n, .slice p5 (wcount n) c5]
      have HB5 := Lib.hid (And.intro hB5 (hv5.below hbx))
      have HBin2 := Lib.hid (bin_0 hB5.vs (hv5.below hbx) H.out.2.2.2.2.1)
      have r0 := (hB5.tr.pr 1 rfl).1
      have r1 := (hB5.tr.pr 1 rfl).2
      have s0 := hk5.cell (i := 0) rfl
      have s1 := hk5.cell (i := 1) rfl
      obtain ⟨g13, hg13⟩ : ∃ g, w5.heap.size = g := ⟨_, rfl⟩
      rw [hg13] at s0 s1
      clear hbn hbx hB5 hk5 hv5 hb5 hf5
      go_upto_region 8 with fail
      generalize w5.alloc (.cells #[.int .i64 n, .slice p5 (wcount n) c5] 115) = W5 at *
      clear hg13
      go_wp2_with fail
      refine HBin2.out.mono ?_; rintro e w6 ⟨v6, rfl, hv6, hb6, hf6⟩
      obtain ⟨p6, c6, rfl, _⟩ := hv6.ex
      have hB6 := HB5.out.1.store hb6 hv6 hf6
      have t0 := ((HB5.out.1.tr.below hb6).at 1 rfl).cell (i := 0) rfl
      have t1 := ((HB5.out.1.tr.below hb6).at 1 rfl).cell (i := 1) rfl
      have f0 := ((HB5.out.1.tr.below hb6).at 1 rfl).frz 0
      have f1 := ((HB5.out.1.tr.below hb6).at 1 rfl).frz 1
      have HB6 := Lib.hid hB6
      clear hB6 hv6 hb6 hf6 r0 r1 s0 s1
      go_wp2_with fail
      go_roundw
      case rel =>
        refine ⟨i + 1, _, _, _, HB.out.2.2.2.2, by go_num, ?_, HB6.out⟩
        rw [HB.out.2.2.1]
        exact bits_step _ _ _ _ _ rfl HB.out.2.1
      case measure => have := HB.out.2.2.2.2; simp [intOf]; omega
    · obtain rfl : i = L := by omega
      rw [List.take_of_length_le (by have := H.out.2.1; omega)] at hX
      subst hX
      have r0 := (hB.tr.pr 1 rfl).1
      have r1 := (hB.tr.pr 1 rfl).2
      have s0 := (hB.tr.pr 2 rfl).1
      have s1 := (hB.tr.pr 2 rfl).2
      have f0 := (hB.tr.at 2 rfl).frz 0
      have f1 := (hB.tr.at 2 rfl).frz 1
      have HB := Lib.hid hB
      clear hB hi hlt
      go_wp2_with fail
      have hv := HB.out.vs.set2 (x1 := .int .i64 n) (y1 := .slice ps (wcount n) cs) HB.out.n1
      have ht := HB.out.tr.two 2 (x := .int .i64 n) (y := .slice ps (wcount n) cs) rfl
      have e0 := (ht.pr 2 rfl).1
      have e1 := (ht.pr 2 rfl).2
      exact bodyPost_ret (v := .agg #[.int .i64 n, .slice ps (wcount n) cs]) (by simp [results, Tryz.results77, go_sem, e0, e1]) rfl ⟨_, rfl, hv, ht.bel, HB.out.far⟩
end Go.Proofs.YtcjfelndnnhgjaaGreatDoor.L
