import Derived.Test.YtkoggfahjlnecaaGreatDoorVB11
import Derived.Test.YtkoggfahjlnecaaGreatDoorS1
import Derived.Laws.Strings
import Derived.Lib.ItoaNum
namespace Go.Proofs.YtkoggfahjlnecaaGreatDoor
set_option linter.unusedVariables false
open Go.RowKit

/-! # lit: digits -/
/-- a digit's letter -/
def hexC (d : Nat) : UInt8 := if d < 10 then UInt8.ofNat (48 + d) else UInt8.ofNat (87 + d)
theorem hexC_lo : ∀ d : Nat, d < 10 → (hexC d).toNat = 48 + d := by decide
theorem hexC_all : ∀ d, d < 16 → (hexC d).toNat = if d < 10 then 48 + d else 87 + d := by decide
theorem hexC_idx : ∀ d, d < 16 → Lib.indexByte [48, 49, 50, 51, 52, 53, 54, 55, 56, 57, 97, 98, 99, 100, 101, 102] (hexC d) = (d : Int) := by decide
def hexL (ds : List Nat) : List UInt8 := ds.map hexC
theorem hexL_at (ds : List Nat) (k : Nat) (h : k < (⟨(hexL ds).toArray⟩ : ByteArray).size) : (⟨(hexL ds).toArray⟩ : ByteArray)[k] = hexC (ds.getD k 0) := by
  have hk : k < ds.length := by
    have : (⟨(hexL ds).toArray⟩ : ByteArray).size = ds.length := by show (hexL ds).toArray.size = _; simp [hexL]
    omega
  show (hexL ds).toArray[k]'_ = _
  simp [hexL, List.getD, List.getElem?_eq_getElem hk]
set_option maxRecDepth 100000 in
set_option maxHeartbeats 1000000 in
theorem value_any (d : Nat) (hd : d < 16) (w : World) : Calls Tryz.prog 132 #[.int .u8 ((hexC d).toNat : Nat)] w fun e w' => e = .returned (.int .i64 d) ∧ w = w' := by
  have HI := Lib.hid (Tryz.strings_IndexByte ⟨#[48, 49, 50, 51, 52, 53, 54, 55, 56, 57, 97, 98, 99, 100, 101, 102]⟩ ((hexC d).toNat : Nat) w)
  have hi := hexC_idx d hd
  have ha := hexC_all d hd
  have ht : ((((hexC d).toNat : Nat) : Int).toNat.toUInt8) = hexC d := by simp
  rw [show (⟨#[48, 49, 50, 51, 52, 53, 54, 55, 56, 57, 97, 98, 99, 100, 101, 102]⟩ : ByteArray).data.toList = [48, 49, 50, 51, 52, 53, 54, 55, 56, 57, 97, 98, 99, 100, 101, 102] from rfl, ht, hi] at HI
  generalize (hexC d).toNat = c at *
  clear hi ht
  by_cases h : d < 10
  · rw [if_pos h] at ha
    have h1 : (c : Int) < 65 := by omega
    have h1d : decide ((65 : Int) ≤ c) = false := decide_eq_false (by omega)
    clear ha
    go_enter Tryz.func132, Tryz.ntmps132
    go_wp2_with fail
    refine HI.out.mono ?_; rintro e w' ⟨rfl, rfl⟩
    have h0 : (0 : Int) ≤ d := by omega
    go_wp2_with fail
    go_ret
    exact ⟨rfl, rfl⟩
  · rw [if_neg h] at ha
    have h1 : (65 : Int) ≤ c := by omega
    have h2 : (70 : Int) < c := by omega
    have h2d : decide ((c : Int) ≤ 70) = false := decide_eq_false (by omega)
    clear ha
    go_enter Tryz.func132, Tryz.ntmps132
    go_wp2_with fail
    refine HI.out.mono ?_; rintro e w' ⟨rfl, rfl⟩
    have h0 : (0 : Int) ≤ d := by omega
    go_wp2_with fail
    go_ret
    exact ⟨rfl, rfl⟩
def natI (l : List Nat) : List Int := l.map fun d : Nat => (d : Int)
theorem natI_len (l : List Nat) : (natI l).length = l.length := by simp [natI]
theorem natI_take (l : List Nat) {k : Nat} (h : k < l.length) : ints (natI (l.take (k + 1))) = ints (natI (l.take k)) ++ [.int .i64 ((l.getD k 0 : Nat) : Int)] := by
  rw [List.take_add_one, List.getElem?_eq_getElem h]
  simp only [natI, ints, List.getD, List.getElem?_eq_getElem h, Option.toList, List.map_append, List.map_cons, List.map_nil, Option.getD_some]
theorem i64_of {x : Int} (h : -9223372036854775808 ≤ x ∧ x ≤ 9223372036854775807) : IntKind.i64.wrap x = x := IntWalk.i64_in _ h
theorem own_lt {w : World} {base e size n : Nat} {v : Value} {xs : List Value} (h : w.ownsRow base e size v n xs) : ∀ g, v.ownBlock = some g → base ≤ g ∧ g < w.heap.size := fun g hg => by
  rcases h.2 with ⟨rfl, _⟩ | ⟨g', cap, cur, rfl, h1, h2, _⟩
  · cases hg
  · cases hg; exact ⟨h1, some_lt h2⟩
/-- digits makes a list of one's own -/
def DigR (w : World) (ds : List Nat) (e : Ending) (w' : World) : Prop := ∃ v, e = .returned (.tuple #[v, .int .i64 0]) ∧ w'.ownsRow w.heap.size 3 1 v ds.length (ints (natI ds)) ∧ Below w.heap.size w w'
theorem Tryz.info_int : (Tryz.prog.info? 3).map (fun i => (i.zero, i.size, i.bytes)) = some (some (.int .i64 0), 1, 8) := by kernel_rfl
theorem Tryz.TI : SlTy Tryz.prog 22 3 1 8 (.int .i64 0) := SlTy.of Tryz.underlying22 Tryz.info_int rfl (by decide)
set_option maxRecDepth 100000 in
set_option maxHeartbeats 4000000 in
theorem digits_any {w : World} (ds : List Nat) (b : Nat) (hne : ds ≠ []) (hd : ∀ d ∈ ds, d < b) (hb : b ≤ 16) (hl : ds.length ≤ 1000) : Calls Tryz.prog 97 #[.string ⟨(hexL ds).toArray⟩, .int .i64 b] w (DigR w ds) := by
  obtain ⟨s, hs⟩ : ∃ s : ByteArray, s = ⟨(hexL ds).toArray⟩ := ⟨_, rfl⟩
  obtain ⟨n, hn⟩ : ∃ n, ds.length = n := ⟨_, rfl⟩
  have hsz : s.size = n := by rw [hs, ← hn]; show (hexL ds).toArray.size = _; simp [hexL]
  have hat : ∀ (k : Nat) (h : k < s.size), s[k] = hexC (ds.getD k 0) := by subst hs; exact fun k h => hexL_at ds k h
  have hn0 : 0 < n := by rw [← hn]; exact List.length_pos_iff.2 hne
  have hnl : ¬ s.toList = [] := by
    intro e
    rw [ByteArray.toList_eq] at e
    have := congrArg List.length e
    simp only [Array.length_toList, List.length_nil] at this
    have : s.size = 0 := this
    omega
  have hie : s.toList.isEmpty = false := by simpa [List.isEmpty_iff] using hnl
  rw [← hs]
  have hk : ∀ k, k < n → ds.getD k 0 < b := fun k h => hd _ (by simp [List.getD, List.getElem?_eq_getElem (show k < ds.length by omega)])
  have H := Lib.hid (And.intro hn (And.intro hat (And.intro hk hb)))
  have hszi : (s.size : Int) ≤ 1000 := by omega
  have HSZ := Lib.hid hsz
  clear hs hn hat hne hd hb hl hk hsz hn0
  go_enter Tryz.func97, Tryz.ntmps97
  go_wp2_with fail
  go_loopw [13, 6] (fun iv ov wr => ∃ i : Nat, i ≤ s.size ∧ iv = .int .i64 i ∧ wr.ownsRow w.heap.size 3 1 ov i (ints (natI (ds.take i))) ∧ Below w.heap.size w wr) (fun iv _ _ => s.size - (intOf iv).toNat)
  case atStart => exact ⟨0, Nat.zero_le _, rfl, World.ownsRow_nil _ _ _ _, Below.refl _ _⟩
  case round =>
    obtain ⟨i, hi, rfl, ho, hbel⟩ := hrel
    obtain ⟨po, co, rfl⟩ := ownsRow_form ho
    by_cases hlt : i < s.size
    · have hc := H.out.2.1 i hlt
      have hin : i < n := by have := HSZ.out; omega
      have hdi := H.out.2.2.1 i hin
      have htk := natI_take ds (k := i) (by have := H.out.1; omega)
      generalize ds.getD i 0 = d at *
      have hb16 := H.out.2.2.2
      have hc' : (s[i].toNat : Nat) = (hexC d).toNat := by rw [hc]
      have hval := value_any d (by omega) wr
      have hall := hexC_all d (by omega)
      generalize (hexC d).toNat = c at *
      rw [← hc'] at hval hall
      have hne95 : ((s[i].toNat : Int) == 95) = false := by
        have : s[i].toNat ≠ 95 := by rw [hall]; split <;> omega
        simp; omega
      have HV := Lib.hid hval
      have HO := Lib.hid (And.intro ho (And.intro hbel (And.intro htk hlt)))
      have hdb : (d : Int) < b := by omega
      have hiw : IntKind.i64.wrap ((i : Int) + 1) = (i : Int) + 1 := i64_of (by omega)
      clear hc hc' hall hval ho hbel htk hi hdi hb16 hin
      go_wp2_with fail
      refine HV.out.mono ?_; rintro e w' ⟨rfl, rfl⟩
      go_upto_region 11 with fail
      have hs1 : (wr.alloc (.cells #[.int .i64 d] 3)).ownsRow w.heap.size 3 1 (.slice po i co) i (ints (natI (ds.take i))) := HO.out.1.alloc _
      have hr1 : RO (wr.alloc (.cells #[.int .i64 d] 3)) (.slice (some ⟨wr.heap.size, 0, none⟩) 1 1) 1 1 [.int .i64 d] := RO.ofCells (Blk.new 3 [.int .i64 d]) rfl
      have hb1 : Below w.heap.size w (wr.alloc (.cells #[.int .i64 d] 3)) := HO.out.2.1.alloc HO.out.2.1.size _
      have hsz1 := hb1.size
      have HP := Lib.hid (And.intro hs1 (And.intro hr1 hb1))
      clear hs1 hr1 hb1 hdb hne95
      go_wp2_with (at_builtin; refine wpList_appR rfl _ _ 22 rfl Tryz.TI w.heap.size (.slice po i co) i _ rfl HP.out.1 _ 1 _ rfl HP.out.2.1 (by simp [Value.oneCell']) (by omega) (by omega) hsz1 ?_; intro v8 w8 happ; have hbl8 := happ.below HP.out.2.2 hsz1 (fun j hj => (own_lt HP.out.1 j hj).1); obtain ⟨p8, c8, ev8⟩ := ownsRow_form happ.own; subst ev8; have H8 := Lib.hid (And.intro happ.own hbl8); clear happ hbl8 hsz1)
      go_roundw
      case rel =>
        refine ⟨i + 1, HO.out.2.2.2, by go_num, ?_, H8.out.2⟩
        have h8 := H8.out.1
        rw [HO.out.2.2.1]
        exact h8
      case measure => have := HO.out.2.2.2; simp [intOf]; omega
    · obtain rfl : i = s.size := by omega
      rw [List.take_of_length_le (by have := H.out.1; have := HSZ.out; omega)] at ho
      have HO := Lib.hid (And.intro ho hbel)
      clear ho hbel hi hlt
      go_wp2_with fail
      go_ret2
      have he : s.size = ds.length := by rw [H.out.1]; exact HSZ.out
      exact ⟨_, rfl, by rw [← he]; exact HO.out.1, HO.out.2⟩
end Go.Proofs.YtkoggfahjlnecaaGreatDoor
