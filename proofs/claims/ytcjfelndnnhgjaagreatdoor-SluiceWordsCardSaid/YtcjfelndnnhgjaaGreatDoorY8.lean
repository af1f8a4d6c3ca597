/- Texts of this claim, one behind another: L1. They state lemmas; each names its own conditions. -/
import Derived.Test.YtcjfelndnnhgjaaGreatDoorY7
namespace Go.Proofs.YtcjfelndnnhgjaaGreatDoor.L
set_option linter.unusedVariables false
open Go.RowKit

/-! # lit, on any text -/
theorem idx_cases (c : UInt8) : Lib.indexByte [48, 49, 50, 51, 52, 53, 54, 55, 56, 57, 97, 98, 99, 100, 101, 102] c = -1 ∨ ∃ d : Nat, d < 16 ∧ Lib.indexByte [48, 49, 50, 51, 52, 53, 54, 55, 56, 57, 97, 98, 99, 100, 101, 102] c = (d : Int) := by
  have h := Lib.indexByte_ge [48, 49, 50, 51, 52, 53, 54, 55, 56, 57, 97, 98, 99, 100, 101, 102] c
  obtain ⟨x, hx⟩ : ∃ x, Lib.indexByte [48, 49, 50, 51, 52, 53, 54, 55, 56, 57, 97, 98, 99, 100, 101, 102] c = x := ⟨_, rfl⟩
  rw [hx] at h ⊢
  by_cases h0 : x = -1
  · exact .inl h0
  · right
    obtain ⟨d, rfl⟩ : ∃ d : Nat, x = (d : Int) := ⟨x.toNat, by omega⟩
    have := (Lib.indexByte_some hx).1
    have := (List.getElem?_eq_some_iff.1 this).1
    exact ⟨d, by simpa using this, rfl⟩
set_option maxRecDepth 100000 in
set_option maxHeartbeats 1000000 in
theorem value_all (c : Nat) (hc : c < 256) (w : World) : Calls Tryz.prog 95 #[.int .u8 c] w fun e w' => ∃ d : Nat, d ≤ 16 ∧ e = .returned (.int .i64 d) ∧ w = w' := by
  have HI : Hid (∀ x : Int, Calls Tryz.prog 29 #[.string ⟨#[48, 49, 50, 51, 52, 53, 54, 55, 56, 57, 97, 98, 99, 100, 101, 102]⟩, .int .u8 x] w fun e w' => ∃ y : Int, e = .returned (.int .i64 y) ∧ (y = -1 ∨ ∃ d : Nat, d < 16 ∧ y = (d : Int)) ∧ w = w') := Lib.hid fun x => by
    refine (Tryz.strings_IndexByte ⟨#[48, 49, 50, 51, 52, 53, 54, 55, 56, 57, 97, 98, 99, 100, 101, 102]⟩ x w).mono ?_
    rintro e w' ⟨rfl, rfl⟩
    exact ⟨_, rfl, idx_cases _, rfl⟩
  by_cases h : 65 ≤ c ∧ c ≤ 70
  · have h1 : (65 : Int) ≤ c := by omega
    have h2 : (c : Int) ≤ 70 := by omega
    have hw : IntKind.u8.wrap ((c : Int) + 32) = (c : Int) + 32 := IntWalk.u8_in _ (by omega)
    clear h hc
    go_enter Tryz.func95, Tryz.ntmps95
    go_wp2_with fail
    refine (HI.out _).mono ?_; rintro e w' ⟨y, rfl, hy, rfl⟩
    rcases hy with rfl | ⟨d, hd, rfl⟩
    · go_wp2_with fail
      go_ret
      exact ⟨16, by decide, rfl, rfl⟩
    · have h0 : (0 : Int) ≤ d := by omega
      have HD := Lib.hid (Nat.le_of_lt hd)
      clear hd
      go_wp2_with fail
      go_ret
      exact ⟨d, HD.out, rfl, rfl⟩
  · by_cases h1 : 65 ≤ c
    · have h1 : (65 : Int) ≤ c := by omega
      have h2 : ¬ (c : Int) ≤ 70 := by omega
      clear h hc
      go_enter Tryz.func95, Tryz.ntmps95
      go_wp2_with fail
      refine (HI.out _).mono ?_; rintro e w' ⟨y, rfl, hy, rfl⟩
      rcases hy with rfl | ⟨d, hd, rfl⟩
      · go_wp2_with fail
        go_ret
        exact ⟨16, by decide, rfl, rfl⟩
      · have h0 : (0 : Int) ≤ d := by omega
        have HD := Lib.hid (Nat.le_of_lt hd)
        clear hd
        go_wp2_with fail
        go_ret
        exact ⟨d, HD.out, rfl, rfl⟩
    · have h1 : ¬ (65 : Int) ≤ c := by omega
      clear h hc
      go_enter Tryz.func95, Tryz.ntmps95
      go_wp2_with fail
      refine (HI.out _).mono ?_; rintro e w' ⟨y, rfl, hy, rfl⟩
      rcases hy with rfl | ⟨d, hd, rfl⟩
      · go_wp2_with fail
        go_ret
        exact ⟨16, by decide, rfl, rfl⟩
      · have h0 : (0 : Int) ≤ d := by omega
        have HD := Lib.hid (Nat.le_of_lt hd)
        clear hd
        go_wp2_with fail
        go_ret
        exact ⟨d, HD.out, rfl, rfl⟩
/-- digits makes a list of one's own, or an error -/
def DigA (n : Nat) (w : World) (e : Ending) (w' : World) : Prop := ∃ v ds err, e = .returned (.tuple #[v, .int .i64 err]) ∧ w'.ownsRow w.heap.size 3 1 v ds.length (ints (natI ds)) ∧ (∀ d ∈ ds, d < 16) ∧ ds.length ≤ n ∧ Below w.heap.size w w'
set_option maxRecDepth 100000 in
set_option maxHeartbeats 4000000 in
theorem digits_all {w : World} (s : ByteArray) (b : Nat) (hb : b ≤ 16) (hl : s.size ≤ 1000000) : Calls Tryz.prog 74 #[.string s, .int .i64 b] w (DigA s.size w) := by
  by_cases hs0 : s.size = 0
  · have hnl : s.toList = [] := by rw [ByteArray.toList_eq]; exact List.eq_nil_of_length_eq_zero (by simpa using hs0)
    have hie : s.toList.isEmpty = true := by rw [hnl]; rfl
    clear hl
    go_enter Tryz.func74, Tryz.ntmps74
    go_wp2_with fail
    go_ret2
    exact ⟨_, [], _, rfl, World.ownsRow_nil _ _ _ _, fun d hd => by simp at hd, Nat.zero_le _, Below.refl _ _⟩
  obtain ⟨hnl, hie⟩ := str_ne (s := s) (by omega)
  have hszi : (s.size : Int) ≤ 1000000 := by omega
  have hbi : (b : Int) ≤ 16 := by omega
  have HV := Lib.hid (fun (k : Nat) (hk : k < s.size) (w : World) => value_all s[k].toNat (UInt8.toNat_lt _) w)
  have HB := Lib.hid hb
  clear hl hs0 hb
  go_enter Tryz.func74, Tryz.ntmps74
  go_wp2_with fail
  go_loopw [13, 6] (fun iv ov wr => ∃ (i : Nat) (ds : List Nat), i ≤ s.size ∧ ds.length ≤ i ∧ iv = .int .i64 i ∧ wr.ownsRow w.heap.size 3 1 ov ds.length (ints (natI ds)) ∧ (∀ d ∈ ds, d < 16) ∧ Below w.heap.size w wr) (fun iv _ _ => s.size - (intOf iv).toNat)
  case atStart => exact ⟨0, [], Nat.zero_le _, Nat.zero_le _, rfl, World.ownsRow_nil _ _ _ _, fun d hd => by simp at hd, Below.refl _ _⟩
  case round =>
    obtain ⟨i, ds, hi, hdl, rfl, ho, hd16, hbel⟩ := hrel
    obtain ⟨po, co, rfl⟩ := ownsRow_form ho
    obtain ⟨L, hL⟩ : ∃ L, ds.length = L := ⟨_, rfl⟩
    rw [hL] at ho hdl ⊢
    by_cases hlt : i < s.size
    · have HV1 := Lib.hid (HV.out i hlt wr)
      have HO := Lib.hid (And.intro ho (And.intro hbel (And.intro hd16 (And.intro hdl (And.intro hlt hL)))))
      have hiw : IntKind.i64.wrap ((i : Int) + 1) = (i : Int) + 1 := i64_of (by omega)
      have hL9 : (L : Int) ≤ 1000000 := by omega
      clear ho hbel hd16 hdl hi hL
      go_wp2_with fail
      refine HV1.out.mono ?_; rintro e w' ⟨d, hd, rfl, rfl⟩
      have HD := Lib.hid hd
      clear hd HV1
      by_cases h95 : s[i].toNat = 95 ∧ 0 < i
      · have h95a : ((s[i].toNat : Int) == 95) = true := by simp; omega
        have h95b : (0 : Int) < i := by omega
        clear h95
        go_wp2_with fail
        go_roundw
        case rel => exact ⟨i + 1, ds, HO.out.2.2.2.2.1, by have := HO.out.2.2.2.1; have := HO.out.2.2.2.2.2; omega, by go_num, by rw [HO.out.2.2.2.2.2]; exact HO.out.1, HO.out.2.2.1, HO.out.2.1⟩
        case measure => have := HO.out.2.2.2.2.1; simp [intOf]; omega
      · by_cases h95c : s[i].toNat = 95
        · have h95a : ((s[i].toNat : Int) == 95) = true := by simp; omega
          have h95b : ¬ (0 : Int) < i := by omega
          clear h95c
          by_cases hdb : d < b
          · have hdb' : (d : Int) < b := by omega
            have HDB := Lib.hid hdb
            clear hdb h95
            go_upto_region 11 with fail
            have hs1 : (wr.alloc (.cells #[.int .i64 d] 3)).ownsRow w.heap.size 3 1 (.slice po L co) L (ints (natI ds)) := HO.out.1.alloc _
            have hr1 : RO (wr.alloc (.cells #[.int .i64 d] 3)) (.slice (some ⟨wr.heap.size, 0, none⟩) 1 1) 1 1 [.int .i64 d] := RO.ofCells (Blk.new 3 [.int .i64 d]) rfl
            have hb1 : Below w.heap.size w (wr.alloc (.cells #[.int .i64 d] 3)) := HO.out.2.1.alloc HO.out.2.1.size _
            have hsz1 := hb1.size
            have HP := Lib.hid (And.intro hs1 (And.intro hr1 hb1))
            clear hs1 hr1 hb1 hdb' h95a h95b
            go_wp2_with (at_builtin; refine wpList_appR rfl _ _ 56 rfl Tryz.TI w.heap.size (.slice po L co) L _ rfl HP.out.1 _ 1 _ rfl HP.out.2.1 (by simp [Value.oneCell']) (by omega) (by omega) hsz1 ?_; intro v8 w8 happ; have hbl8 := happ.below HP.out.2.2 hsz1 (fun j hj => (own_lt HP.out.1 j hj).1); obtain ⟨p8, c8, ev8⟩ := ownsRow_form happ.own; subst ev8; have H8 := Lib.hid (And.intro happ.own hbl8); clear happ hbl8 hsz1)
            go_roundw
            case rel =>
              refine ⟨i + 1, ds ++ [d], HO.out.2.2.2.2.1, by rw [List.length_append, HO.out.2.2.2.2.2]; have := HO.out.2.2.2.1; simp; omega, by go_num, ?_, fun x hx => ?_, H8.out.2⟩
              · have h8 := H8.out.1
                have e : ints (natI (ds ++ [d])) = ints (natI ds) ++ [.int .i64 (d : Int)] := by simp [natI, ints]
                rw [List.length_append, HO.out.2.2.2.2.2, e]
                exact h8
              · rcases List.mem_append.1 hx with hx | hx
                · exact HO.out.2.2.1 x hx
                · simp only [List.mem_cons, List.not_mem_nil, or_false] at hx; subst hx
                  have := HB.out; have := HDB.out; omega
            case measure => have := HO.out.2.2.2.2.1; simp [intOf]; omega
          · have hdb' : ¬ (d : Int) < b := by omega
            clear hdb h95
            go_wp2_with fail
            go_ret2
            exact ⟨_, [], _, rfl, World.ownsRow_nil _ _ _ _, fun d hd => by simp at hd, Nat.zero_le _, HO.out.2.1⟩
        · have h95a : ((s[i].toNat : Int) == 95) = false := by simp; omega
          clear h95c
          by_cases hdb : d < b
          · have hdb' : (d : Int) < b := by omega
            have HDB := Lib.hid hdb
            clear hdb h95
            go_upto_region 11 with fail
            have hs1 : (wr.alloc (.cells #[.int .i64 d] 3)).ownsRow w.heap.size 3 1 (.slice po L co) L (ints (natI ds)) := HO.out.1.alloc _
            have hr1 : RO (wr.alloc (.cells #[.int .i64 d] 3)) (.slice (some ⟨wr.heap.size, 0, none⟩) 1 1) 1 1 [.int .i64 d] := RO.ofCells (Blk.new 3 [.int .i64 d]) rfl
            have hb1 : Below w.heap.size w (wr.alloc (.cells #[.int .i64 d] 3)) := HO.out.2.1.alloc HO.out.2.1.size _
            have hsz1 := hb1.size
            have HP := Lib.hid (And.intro hs1 (And.intro hr1 hb1))
            clear hs1 hr1 hb1 hdb' h95a
            go_wp2_with (at_builtin; refine wpList_appR rfl _ _ 56 rfl Tryz.TI w.heap.size (.slice po L co) L _ rfl HP.out.1 _ 1 _ rfl HP.out.2.1 (by simp [Value.oneCell']) (by omega) (by omega) hsz1 ?_; intro v8 w8 happ; have hbl8 := happ.below HP.out.2.2 hsz1 (fun j hj => (own_lt HP.out.1 j hj).1); obtain ⟨p8, c8, ev8⟩ := ownsRow_form happ.own; subst ev8; have H8 := Lib.hid (And.intro happ.own hbl8); clear happ hbl8 hsz1)
            go_roundw
            case rel =>
              refine ⟨i + 1, ds ++ [d], HO.out.2.2.2.2.1, by rw [List.length_append, HO.out.2.2.2.2.2]; have := HO.out.2.2.2.1; simp; omega, by go_num, ?_, fun x hx => ?_, H8.out.2⟩
              · have h8 := H8.out.1
                have e : ints (natI (ds ++ [d])) = ints (natI ds) ++ [.int .i64 (d : Int)] := by simp [natI, ints]
                rw [List.length_append, HO.out.2.2.2.2.2, e]
                exact h8
              · rcases List.mem_append.1 hx with hx | hx
                · exact HO.out.2.2.1 x hx
                · simp only [List.mem_cons, List.not_mem_nil, or_false] at hx; subst hx
                  have := HB.out; have := HDB.out; omega
            case measure => have := HO.out.2.2.2.2.1; simp [intOf]; omega
          · have hdb' : ¬ (d : Int) < b := by omega
            clear hdb h95
            go_wp2_with fail
            go_ret2
            exact ⟨_, [], _, rfl, World.ownsRow_nil _ _ _ _, fun d hd => by simp at hd, Nat.zero_le _, HO.out.2.1⟩
    · obtain rfl : i = s.size := by omega
      have HO := Lib.hid (And.intro ho (And.intro hbel (And.intro hd16 (And.intro hdl hL))))
      clear ho hbel hd16 hdl hi hlt hL
      go_wp2_with fail
      go_ret2
      exact ⟨_, ds, _, rfl, by rw [HO.out.2.2.2.2]; exact HO.out.1, HO.out.2.2.1, by have := HO.out.2.2.2.1; have := HO.out.2.2.2.2; omega, HO.out.2.1⟩
set_option maxRecDepth 100000 in
set_option maxHeartbeats 4000000 in
theorem small_all {w : World} {v : Value} (ds : List Nat) (most : Nat) (hv : RO w v 1 ds.length (ints (natI ds))) (hd : ∀ d ∈ ds, d < 16) (hm : most ≤ 2147483648) (hl : ds.length ≤ 1000000) : Calls Tryz.prog 75 #[v, .int .i64 most] w fun e w' => e = .returned (.int .i64 (smallP most ds)) ∧ w = w' := by
  obtain ⟨p, c, rfl⟩ := hv.form
  obtain ⟨n, hn⟩ : ∃ n, ds.length = n := ⟨_, rfl⟩
  have hk : ∀ k, k < n → ds.getD k 0 < 16 := fun k h => hd _ (by simp [List.getD, List.getElem?_eq_getElem (show k < ds.length by omega)])
  have H := Lib.hid (And.intro hv (And.intro hn hk))
  rw [hn]
  have hni : (n : Int) ≤ 1000000 := by omega
  have hmi : (most : Int) ≤ 2147483648 := by omega
  clear hv hk hd hl hm hn
  go_enter Tryz.func75, Tryz.ntmps75
  go_wp2_with fail
  go_loop [10, 5] (fun iv sv => ∃ i : Nat, i ≤ n ∧ iv = .int .i64 i ∧ sv = .int .i64 (smallP most (ds.take i))) (fun iv _ => n - (intOf iv).toNat)
  case atStart => exact ⟨0, Nat.zero_le _, rfl, rfl⟩
  case round =>
    obtain ⟨i, hi, rfl, rfl⟩ := hrel
    by_cases hlt : i < n
    · have hil : i < ds.length := by rw [H.out.2.1]; exact hlt
      have hat := natI_at ds i hil
      obtain ⟨b, o, hp⟩ := H.out.1.sl hat
      subst hp
      have hc := H.out.1.cell hat
      have hst := smallP_take most ds hil
      have hle := smallP_le most (ds.take i)
      have hd16 := H.out.2.2 i hlt
      generalize ds.getD i 0 = d at *
      generalize smallP most (ds.take i) = m at *
      have hii : (i : Int) < n := by omega
      have q1 : IntKind.i64.wrap (10 * (m : Int)) = 10 * (m : Int) := i64_of (by omega)
      have q2 : IntKind.i64.wrap (10 * (m : Int) + (d : Int)) = 10 * (m : Int) + (d : Int) := i64_of (by omega)
      have hiw : IntKind.i64.wrap ((i : Int) + 1) = (i : Int) + 1 := i64_of (by omega)
      have HS := Lib.hid (And.intro hst hlt)
      clear hst hle hd16 hat hil hi hlt
      go_wp2_with fail
      go_round
      case rel => exact ⟨i + 1, HS.out.2, by go_num, by rw [HS.out.1]; congr 1; omega⟩
      case measure => have := HS.out.2; simp [intOf]; omega
    · obtain rfl : i = n := by omega
      rw [List.take_of_length_le (by have := H.out.2.1; omega)]
      clear hi hlt
      go_wp2_with fail
      go_ret
      exact ⟨rfl, rfl⟩
set_option maxRecDepth 100000 in
set_option maxHeartbeats 16000000 in
theorem bits_all {w : World} {v : Value} (ds : List Nat) (b n : Nat) (hv : RO w v 1 ds.length (ints (natI ds))) (hd : ∀ d ∈ ds, d < 16) (hb : b ≤ 16) (h1 : 1 ≤ n) (h2 : n ≤ 128) (hl : ds.length ≤ 1000000) :
    Calls Tryz.prog 77 #[v, .int .i64 b, .int .i64 n] w (RetV w n (valH b ds % 2 ^ n)) := by
  obtain ⟨p, c, rfl⟩ := hv.form
  obtain ⟨L, hL⟩ : ∃ L, ds.length = L := ⟨_, rfl⟩
  have hk : ∀ k, k < L → ds.getD k 0 < 16 := fun k h => hd _ (by simp [List.getD, List.getElem?_eq_getElem (show k < ds.length by omega)])
  have H := Lib.hid (And.intro hv (And.intro hL (And.intro hk (And.intro hb (And.intro h1 h2)))))
  rw [hL]
  have hLi : (L : Int) ≤ 1000000 := by omega
  have hbi : (b : Int) ≤ 16 := by omega
  have HZ := Lib.hid (fun w : World => new_zero (w := w) n h1 h2)
  have HO := Lib.hid (fun (w : World) (d : Nat) (hd : d < 16 + 1) => new_one (w := w) n d h1 h2 hd 158)
  have hbw : IntKind.u64.wrap (b : Int) = (b : Int) := by rw [IntKind.wrap_u64]; omega
  clear hv hk hd hb hl hL h1 h2
  go_enter Tryz.func77, Tryz.ntmps77
  go_wp2_with fail
  have hT := (Tr.nil w).lay 115 [.int .i64 0, .slice none 0 0]
  generalize w.alloc (.cells [Value.int .i64 0, .slice none 0 0].toArray 115) = W at *
  have HT := Lib.hid hT
  clear hT
  refine (HZ.out _).mono ?_; rintro e w2 ⟨v2, rfl, hv2, hb2, hf2⟩
  obtain ⟨p2, c2, rfl, _⟩ := hv2.ex
  have hT2 := (HT.out.below hb2).lay 115 [.int .i64 n, .slice p2 (wcount n) c2]
  have hW := (HT.out.far 0 rfl)
  have hWl := (HT.out.at 0 rfl).lt
  have hv2' := hv2.below (Below.new w2 (.cells #[.int .i64 n, .slice p2 (wcount n) c2] 115))
  have n1 := hf2.ne hWl
  have n2 := hv2.new_ne (by have := H.out.2.2.2.2.1; omega)
  obtain ⟨g7, hg7⟩ : ∃ g, w2.heap.size = g := ⟨_, rfl⟩
  have hs7 : g7 < (w2.alloc (.cells #[.int .i64 n, .slice p2 (wcount n) c2] 115)).heap.size := by rw [World.size_alloc]; omega
  have hfw : Far w (.agg #[.int .i64 n, .slice p2 (wcount n) c2]) := fun k p m c b o e hp => Nat.le_trans HT.out.bel.size (hf2 k p m c b o e hp)
  have HV2 := Lib.hid (And.intro hT2 (And.intro hv2' (And.intro n1 (And.intro hfw hs7))))
  clear hT2 hv2' n1 n2 hfw hv2 hf2 hb2 hW hWl HT hs7
  go_upto_region 2 with fail
  rw [hg7] at HV2
  generalize w2.alloc (.cells #[.int .i64 n, .slice p2 (wcount n) c2] 115) = W2 at *
  clear hg7
  go_wp2_with fail
  refine (HO.out W2 b (by have := H.out.2.2.2.1; omega)).mono ?_; rintro e w3 ⟨v3, rfl, hv3, hb3, hf3⟩
  obtain ⟨p3, c3, rfl, _⟩ := hv3.ex
  have hbn := Below.next (Below.new W2 (.cells #[.int .u64 ((b : Nat) : Int)] 158)) hb3
  have hT3 := (HV2.out.1.below hbn).lay 115 [.int .i64 n, .slice p3 (wcount n) c3]
  have hbx := Below.new w3 (.cells #[.int .i64 n, .slice p3 (wcount n) c3] 115)
  have m7 : g7 < (W2.alloc (.cells #[.int .u64 ((b : Nat) : Int)] 158)).heap.size := by rw [World.size_alloc]; have := HV2.out.2.2.2.2; omega
  have m6 : w.heap.size < (W2.alloc (.cells #[.int .u64 ((b : Nat) : Int)] 158)).heap.size := by rw [World.size_alloc]; have := (HV2.out.1.at 1 rfl).lt; omega
  have hL0 : BitsL w g7 w3.heap.size n p2 p3 c2 c3 0 (b % 2 ^ n) (w3.alloc (.cells #[.int .i64 n, .slice p3 (wcount n) c3] 115)) :=
    ⟨hT3, (HV2.out.2.1.below hbn).below hbx, hv3.below hbx, HV2.out.2.2.1, HV2.out.2.2.2.1, hf3.ne m6, hf3.ne m7⟩
  obtain ⟨g9, hg9⟩ : ∃ g, w3.heap.size = g := ⟨_, rfl⟩
  rw [hg9] at hL0
  have HL0 := Lib.hid hL0
  clear hbn hT3 hbx m7 m6 hL0 hv3 hf3 hb3 HV2
  go_upto_region 3 with fail
  generalize w3.alloc (.cells #[.int .i64 n, .slice p3 (wcount n) c3] 115) = W3 at *
  clear hg9
  go_wp2_with fail
  go_loopw [30] (fun iv wr => ∃ (i X : Nat) (ps : Option Addr) (cs : Nat), i ≤ L ∧ iv = .int .i64 i ∧ X = valH b (ds.take i) % 2 ^ n ∧ BitsL w g7 g9 n ps p3 cs c3 X (b % 2 ^ n) wr) (fun iv _ => L - (intOf iv).toNat)
  case atStart => exact ⟨0, 0, _, _, Nat.zero_le _, rfl, by simp [valH], HL0.out⟩
  case round =>
    clear HL0
    obtain ⟨i, X, ps, cs, hi, rfl, hX, hB⟩ := hrel
    by_cases hlt : i < L
    · have hil : i < ds.length := by rw [H.out.2.1]; exact hlt
      have hat := natI_at ds i hil
      have hro := H.out.1.below hB.tr.bel
      obtain ⟨bb, o, hp⟩ := hro.sl hat
      subst hp
      have hc := hro.cell hat
      have hst := valH_take b ds hil
      have hd16 := H.out.2.2.1 i hlt
      generalize ds.getD i 0 = d at *
      have hii : (i : Int) < L := by omega
      have hiw : IntKind.i64.wrap ((i : Int) + 1) = (i : Int) + 1 := i64_of (by omega)
      have hdw : IntKind.u64.wrap (d : Int) = (d : Int) := by rw [IntKind.wrap_u64]; omega
      have HBin := Lib.hid (bin_2 hB.vs hB.vb H.out.2.2.2.2.1)
      have r0 := (hB.tr.pr 1 rfl).1
      have r1 := (hB.tr.pr 1 rfl).2
      have s0 := (hB.tr.pr 0 rfl).1
      have s1 := (hB.tr.pr 0 rfl).2
      have HB := Lib.hid (And.intro hB (And.intro hX (And.intro hst (And.intro hd16 hlt))))
      clear hB hX hst hd16 hlt hi hil hat hro
      go_wp2_with fail
      refine HBin.out.mono ?_; rintro e w4 ⟨v4, rfl, hv4, hb4, hf4⟩
      obtain ⟨p4, c4, rfl, _⟩ := hv4.ex
      have hB4 := HB.out.1.store hb4 hv4 hf4
      have t0 := ((HB.out.1.tr.below hb4).at 1 rfl).cell (i := 0) rfl
      have t1 := ((HB.out.1.tr.below hb4).at 1 rfl).cell (i := 1) rfl
      have f0 := ((HB.out.1.tr.below hb4).at 1 rfl).frz 0
      have f1 := ((HB.out.1.tr.below hb4).at 1 rfl).frz 1
      have HB4 := Lib.hid hB4
      clear hB4 hv4 hb4 hf4 r0 r1 s0 s1
      go_upto_region 7 with fail
      clear t0 t1 f0 f1
      generalize (w4.setCell ⟨g7, 0, none⟩ (.int .i64 n)).setCell ⟨g7, 1, none⟩ (.slice p4 (wcount n) c4) = W4 at *
      go_wp2_with fail
      refine (HO.out W4 d (by have := HB.out.2.2.2.1; omega)).mono ?_; rintro e w5 ⟨v5, rfl, hv5, hb5, hf5⟩
      obtain ⟨p5, c5, rfl, _⟩ := hv5.ex
      have hbn := Below.next (Below.new W4 (.cells #[.int .u64 ((d : Nat) : Int)] 158)) hb5
      have hbx := Below.new w5 (.cells #[.int .i64 n, .slice p5 (wcount n) c5] 115)
      have hB5 := (HB4.out.below hbn).below hbx
      have hk5 := Blk.new (w := w5) 115 [.int .i64 n, .slice p5 (wcount n) c5]
      have HB5 := Lib.hid (And.intro hB5 (hv5.below hbx))
      have HBin2 := Lib.hid (bin_0 hB5.vs (hv5.below hbx) H.out.2.2.2.2.1)
      have r0 := (hB5.tr.pr 1 rfl).1
      have r1 := (hB5.tr.pr 1 rfl).2
      have s0 := hk5.cell (i := 0) rfl
      have s1 := hk5.cell (i := 1) rfl
      obtain ⟨g13, hg13⟩ : ∃ g, w5.heap.size = g := ⟨_, rfl⟩
      rw [hg13] at s0 s1
      clear hbn hbx hB5 hk5 hv5 hb5 hf5
      go_upto_region 8 with fail
      generalize w5.alloc (.cells #[.int .i64 n, .slice p5 (wcount n) c5] 115) = W5 at *
      clear hg13
      go_wp2_with fail
      refine HBin2.out.mono ?_; rintro e w6 ⟨v6, rfl, hv6, hb6, hf6⟩
      obtain ⟨p6, c6, rfl, _⟩ := hv6.ex
      have hB6 := HB5.out.1.store hb6 hv6 hf6
      have t0 := ((HB5.out.1.tr.below hb6).at 1 rfl).cell (i := 0) rfl
      have t1 := ((HB5.out.1.tr.below hb6).at 1 rfl).cell (i := 1) rfl
      have f0 := ((HB5.out.1.tr.below hb6).at 1 rfl).frz 0
      have f1 := ((HB5.out.1.tr.below hb6).at 1 rfl).frz 1
      have HB6 := Lib.hid hB6
      clear hB6 hv6 hb6 hf6 r0 r1 s0 s1
      go_wp2_with fail
      go_roundw
      case rel =>
        refine ⟨i + 1, _, _, _, HB.out.2.2.2.2, by go_num, ?_, HB6.out⟩
        rw [HB.out.2.2.1]
        exact bits_step _ _ _ _ _ rfl HB.out.2.1
      case measure => have := HB.out.2.2.2.2; simp [intOf]; omega
    · obtain rfl : i = L := by omega
      rw [List.take_of_length_le (by have := H.out.2.1; omega)] at hX
      subst hX
      have r0 := (hB.tr.pr 1 rfl).1
      have r1 := (hB.tr.pr 1 rfl).2
      have s0 := (hB.tr.pr 2 rfl).1
      have s1 := (hB.tr.pr 2 rfl).2
      have f0 := (hB.tr.at 2 rfl).frz 0
      have f1 := (hB.tr.at 2 rfl).frz 1
      have HB := Lib.hid hB
      clear hB hi hlt
      go_wp2_with fail
      have hv := HB.out.vs.set2 (x1 := .int .i64 n) (y1 := .slice ps (wcount n) cs) HB.out.n1
      have ht := HB.out.tr.two 2 (x := .int .i64 n) (y := .slice ps (wcount n) cs) rfl
      have e0 := (ht.pr 2 rfl).1
      have e1 := (ht.pr 2 rfl).2
      exact bodyPost_ret (v := .agg #[.int .i64 n, .slice ps (wcount n) cs]) (by simp [results, Tryz.results77, go_sem, e0, e1]) rfl ⟨_, rfl, hv, ht.bel, HB.out.far⟩
set_option maxRecDepth 100000 in
set_option maxHeartbeats 1000000 in
theorem base_all (c : Nat) (w : World) : Calls Tryz.prog 96 #[.int .u8 c] w fun e w' => ∃ b : Nat, b ≤ 16 ∧ e = .returned (.int .i64 b) ∧ w = w' := by
  go_enter Tryz.func96, Tryz.ntmps96
  obtain ⟨x, hx⟩ : ∃ x, bits .or .u8 (c : Int) 32 = x := ⟨_, rfl⟩
  by_cases h1 : x = 98
  · subst h1
    go_wp2_with fail
    go_ret
    exact ⟨2, by decide, rfl, rfl⟩
  have n1 : (x == 98) = false := by simp [h1]
  by_cases h2 : x = 111
  · subst h2
    clear h1
    go_wp2_with fail
    go_ret
    exact ⟨8, by decide, rfl, rfl⟩
  have n2 : (x == 111) = false := by simp [h2]
  by_cases h3 : x = 100
  · subst h3
    clear h1 h2
    go_wp2_with fail
    go_ret
    exact ⟨10, by decide, rfl, rfl⟩
  have n3 : (x == 100) = false := by simp [h3]
  by_cases h4 : x = 104
  · subst h4
    clear h1 h2 h3
    go_wp2_with fail
    go_ret
    exact ⟨16, by decide, rfl, rfl⟩
  have n4 : (x == 104) = false := by simp [h4]
  clear h1 h2 h3 h4
  go_wp2_with fail
  go_ret
  exact ⟨0, by decide, rfl, rfl⟩
end Go.Proofs.YtcjfelndnnhgjaaGreatDoor.L
