/- Texts of this claim, one behind another: E1, E2, E3, E4, E5. They state lemmas; each names its own conditions. -/
import Derived.Test.YtcjfelndnnhgjaaGreatDoorZ3
import Derived.Test.YtcjfelndnnhgjaaGreatDoorS1
import Derived.Laws.Strings
import Derived.Shelf.Strings.SlTrimAscii
import Derived.Maps.Own
import Derived.Maps.OwnOps
import Derived.Maps.OwnSet
import Derived.Maps.Views
import Derived.StillTailTactics
import Derived.Deep.RegionHeld3
import Derived.Deep.RegionLaw
import Derived.Deep.Cut
namespace Go.Proofs.YtcjfelndnnhgjaaGreatDoor
set_option linter.unusedVariables false
open Go.RowKit

abbrev Bs := List UInt8
def bstr (l : Bs) : ByteArray := ⟨l.toArray⟩
theorem bstr_size (l : Bs) : (bstr l).size = l.length := by show l.toArray.size = _; simp
theorem bstr_extract (l : Bs) (a b : Nat) : (bstr l).extract a b = bstr ((l.take b).drop a) := by
  apply ByteArray.ext
  rw [ByteArray.data_extract]
  simp [bstr, List.extract_eq_take_drop, List.drop_take]
theorem bstr_at (l : Bs) (k : Nat) (h : k < (bstr l).size) : (bstr l)[k] = l.getD k 0 := by
  have hk : k < l.length := by rw [← bstr_size]; exact h
  show l.toArray[k]'(by simpa using hk) = _
  simp [List.getD, List.getElem?_eq_getElem hk]
theorem bstr_ne {l : Bs} (h : l ≠ []) : ¬ (bstr l).toList = [] ∧ (bstr l).toList.isEmpty = false := by
  have hnl : ¬ (bstr l).toList = [] := by
    intro e
    rw [ByteArray.toList_eq] at e
    exact h (by simpa [bstr] using e)
  exact ⟨hnl, by simpa [List.isEmpty_iff] using hnl⟩
def strN : Value → Nat
  | .string s => s.size
  | _ => 0
theorem bytes_ext {a b : ByteArray} (h : a.data.toList = b.data.toList) : a = b := by
  obtain ⟨⟨a⟩⟩ := a; obtain ⟨⟨b⟩⟩ := b
  simp at h; rw [h]
theorem bstr_app (a b : Bs) : bstr a ++ bstr b = bstr (a ++ b) := bytes_ext (by simp [bstr])

/-- a text that begins with a letter -/
structure Hd (s : ByteArray) (c : UInt8) (t : ByteArray) : Prop where
  pos : 0 < s.size
  at0 : s[0] = c
  rest : s.extract 1 s.size = t
theorem Hd.of (c : UInt8) (r : Bs) : Hd (bstr (c :: r)) c (bstr r) := by
  have hsz : (bstr (c :: r)).size = r.length + 1 := by rw [bstr_size]; rfl
  refine ⟨by omega, rfl, ?_⟩
  rw [bstr_extract, bstr_size]
  simp
/-- a text that ends with a letter -/
structure Tl (s : ByteArray) (c : UInt8) (t : ByteArray) (n : Nat) : Prop where
  sz : s.size = n + 1
  at1 : s[n] = c
  rest : s.extract 0 n = t
theorem Tl.of (c : UInt8) (r : Bs) : Tl (bstr (r ++ [c])) c (bstr r) r.length := by
  have hsz : (bstr (r ++ [c])).size = r.length + 1 := by rw [bstr_size]; simp
  refine ⟨hsz, ?_, ?_⟩
  · rw [bstr_at]; simp [List.getD]
  · rw [bstr_extract]; simp

/-! # blanks -/
def isBlank (c : UInt8) : Bool := ([32, 9, 13] : List UInt8).contains c
def trimL (l : Bs) : Bs := l.dropWhile isBlank
def trimR (l : Bs) : Bs := (l.reverse.dropWhile isBlank).reverse
def trim (l : Bs) : Bs := trimL (trimR l)
theorem info_set : (Tryz.prog.info? 126).map (fun i => (i.zero, i.size)) = some (some (.agg (Array.replicate 256 (.bool false))), 256) := by kernel_rfl
theorem trimLeft_any {w : World} (l : Bs) : Calls Tryz.prog 42 #[.string (bstr l), .string ⟨#[32, 9, 13]⟩] w fun e w' => e = .returned (.string (bstr (trimL l))) ∧ Below w.heap.size w w' := by
  have h := Any.strings_TrimLeft_laid Tryz.lays161 info_set (bstr l) ⟨#[32, 9, 13]⟩ w (by decide) (ascii_of_all (by decide))
  exact h
theorem trim_any {w : World} (l : Bs) (hl : l.length ≤ 9223372036854775807) : Calls Tryz.prog 65 #[.string (bstr l), .string ⟨#[32, 9, 13]⟩] w fun e w' => e = .returned (.string (bstr (trim l))) ∧ Below w.heap.size w w' :=
  Any.strings_Trim_laid Tryz.lays160 info_set (bstr l) ⟨#[32, 9, 13]⟩ w (by rw [bstr_size]; exact hl) (by decide) (ascii_of_all (by decide))
/-- is a byte a letter of a name (the first one)? -/
def letterP (c : Nat) (first : Bool) : Bool := decide (97 ≤ c ∧ c ≤ 122 ∨ 65 ≤ c ∧ c ≤ 90 ∨ c = 95) || !first && decide (48 ≤ c ∧ c ≤ 57)
set_option maxRecDepth 100000 in
set_option maxHeartbeats 8000000 in
theorem plet_any (c : Nat) (first : Bool) (w : World) : Calls Tryz.prog 88 #[.int .u8 c, .bool first] w fun e w' => e = .returned (.bool (letterP c first)) ∧ w = w' := by
  have hv : ∀ b : Bool, letterP c first = b → letterP c first = b := fun _ h => h
  by_cases h1 : 97 ≤ c ∧ c ≤ 122
  · have a1 : (97 : Int) ≤ c := by omega
    have a2 : (c : Int) ≤ 122 := by omega
    have HV : Hid (letterP c first = true) := Lib.hid (by unfold letterP; rw [decide_eq_true (.inl h1), Bool.true_or])
    clear h1 hv
    go_enter Tryz.func88, Tryz.ntmps88
    go_wp2_with fail
    go_ret
    exact ⟨congrArg (fun b => Ending.returned (Value.bool b)) HV.out.symm, rfl⟩
  · by_cases h2 : 65 ≤ c ∧ c ≤ 90
    · have a1 : decide ((97 : Int) ≤ c) = false := decide_eq_false (by omega)
      have a2 : (65 : Int) ≤ c := by omega
      have a3 : (c : Int) ≤ 90 := by omega
      have HV : Hid (letterP c first = true) := Lib.hid (by unfold letterP; rw [decide_eq_true (.inr (.inl h2)), Bool.true_or])
      clear h1 h2 hv
      go_enter Tryz.func88, Tryz.ntmps88
      go_wp2_with fail
      go_ret
      exact ⟨congrArg (fun b => Ending.returned (Value.bool b)) HV.out.symm, rfl⟩
    · by_cases h3 : c = 95
      · subst h3
        have HV : Hid (letterP 95 first = true) := Lib.hid (by unfold letterP; rw [decide_eq_true (by omega), Bool.true_or])
        clear h1 h2 hv
        go_enter Tryz.func88, Tryz.ntmps88
        go_wp2_with fail
        go_ret
        exact ⟨congrArg (fun b => Ending.returned (Value.bool b)) HV.out.symm, rfl⟩
      · have hne : ((c : Int) == 95) = false := by simp; omega
        have HN : Hid (decide (97 ≤ c ∧ c ≤ 122 ∨ 65 ≤ c ∧ c ≤ 90 ∨ c = 95) = false) := Lib.hid (decide_eq_false (by omega))
        have HL := Lib.hid (And.intro h1 h2)
        -- which of the first tests fails
        have g : ∀ r : Bool, letterP c first = r → Calls Tryz.prog 88 #[.int .u8 c, .bool first] w fun e w' => e = .returned (.bool r) ∧ w = w' := by
          intro r hr
          unfold letterP at hr
          rw [HN.out, Bool.false_or] at hr
          have HR := Lib.hid hr
          clear hr h1 h2 h3 hv
          have hc1 : (97 : Int) ≤ c ∧ (122 : Int) < c ∨ (c : Int) < 97 := by have := HL.out.1; omega
          have hc2 : (65 : Int) ≤ c ∧ (90 : Int) < c ∨ (c : Int) < 65 := by have := HL.out.2; omega
          rcases hc1 with ⟨k1, k2⟩ | k1
          · have k2d : decide ((c : Int) ≤ 122) = false := decide_eq_false (by omega)
            have k3 : (65 : Int) ≤ c := by omega
            have k4 : (90 : Int) < c := by omega
            have k4d : decide ((c : Int) ≤ 90) = false := decide_eq_false (by omega)
            have k5 : (48 : Int) ≤ c := by omega
            have k6 : (57 : Int) < c := by omega
            have k6d : decide ((c : Int) ≤ 57) = false := decide_eq_false (by omega)
            have HQ : Hid (r = false) := Lib.hid (by rw [← HR.out, decide_eq_false (by omega), Bool.and_false])
            clear hc2
            cases first
            all_goals
              go_enter Tryz.func88, Tryz.ntmps88
              go_wp2_with fail
              go_ret
              exact ⟨congrArg (fun b => Ending.returned (Value.bool b)) HQ.out.symm, rfl⟩
          · have k1d : decide ((97 : Int) ≤ c) = false := decide_eq_false (by omega)
            rcases hc2 with ⟨k3, k4⟩ | k3
            · have k4d : decide ((c : Int) ≤ 90) = false := decide_eq_false (by omega)
              have k5 : (48 : Int) ≤ c := by omega
              have k6d : decide ((c : Int) ≤ 57) = false := decide_eq_false (by omega)
              have HQ : Hid (r = false) := Lib.hid (by rw [← HR.out, decide_eq_false (by omega), Bool.and_false])
              cases first
              all_goals
                go_enter Tryz.func88, Tryz.ntmps88
                go_wp2_with fail
                go_ret
                exact ⟨congrArg (fun b => Ending.returned (Value.bool b)) HQ.out.symm, rfl⟩
            · have k3d : decide ((65 : Int) ≤ c) = false := decide_eq_false (by omega)
              cases first
              · by_cases k5 : (48 : Int) ≤ c
                · by_cases k6 : (c : Int) ≤ 57
                  · have HQ : Hid (r = true) := Lib.hid (by rw [← HR.out, decide_eq_true (by omega)]; rfl)
                    go_enter Tryz.func88, Tryz.ntmps88
                    go_wp2_with fail
                    go_ret
                    exact ⟨congrArg (fun b => Ending.returned (Value.bool b)) HQ.out.symm, rfl⟩
                  · have k6d : decide ((c : Int) ≤ 57) = false := decide_eq_false k6
                    have HQ : Hid (r = false) := Lib.hid (by rw [← HR.out, decide_eq_false (by omega), Bool.and_false])
                    go_enter Tryz.func88, Tryz.ntmps88
                    go_wp2_with fail
                    go_ret
                    exact ⟨congrArg (fun b => Ending.returned (Value.bool b)) HQ.out.symm, rfl⟩
                · have k5d : decide ((48 : Int) ≤ c) = false := decide_eq_false k5
                  have HQ : Hid (r = false) := Lib.hid (by rw [← HR.out, decide_eq_false (by omega), Bool.and_false])
                  go_enter Tryz.func88, Tryz.ntmps88
                  go_wp2_with fail
                  go_ret
                  exact ⟨congrArg (fun b => Ending.returned (Value.bool b)) HQ.out.symm, rfl⟩
              · have HQ : Hid (r = false) := Lib.hid (by rw [← HR.out]; rfl)
                go_enter Tryz.func88, Tryz.ntmps88
                go_wp2_with fail
                go_ret
                exact ⟨congrArg (fun b => Ending.returned (Value.bool b)) HQ.out.symm, rfl⟩
        exact g _ rfl
end Go.Proofs.YtcjfelndnnhgjaaGreatDoor
namespace Go.Proofs.YtcjfelndnnhgjaaGreatDoor
set_option linter.unusedVariables false
open Go.RowKit

theorem i64_of {x : Int} (h : -9223372036854775808 ≤ x ∧ x ≤ 9223372036854775807) : IntKind.i64.wrap x = x := IntWalk.i64_in _ h
/-! # names -/
def letAt (l : Bs) (k : Nat) : Bool := letterP (l.getD k 0).toNat (decide (k = 0))
def nameN : Bs → Nat
  | [] => 0
  | c :: r => if letterP c.toNat true then 1 + (r.takeWhile fun c => letterP c.toNat false).length else 0
def name (l : Bs) : Bs := if 40 < nameN l then [] else l.take (nameN l)
theorem takeWhile_of {p : UInt8 → Bool} : ∀ (r : Bs) (k : Nat), k ≤ r.length → (∀ j, j < k → p (r.getD j 0) = true) → (k = r.length ∨ p (r.getD k 0) = false) → (r.takeWhile p).length = k
  | [], k, hk, _, _ => by simp at hk; subst hk; rfl
  | c :: r, 0, _, _, he => by
    rcases he with h | h
    · simp at h
    · have : p c = false := h
      simp [this]
  | c :: r, k + 1, hk, h, he => by
    have hc : p c = true := h 0 (by omega)
    have ih := takeWhile_of r k (by simpa using hk) (fun j hj => h (j + 1) (by omega)) (by
      rcases he with h' | h'
      · exact .inl (by simpa using h')
      · exact .inr h')
    simp only [List.takeWhile_cons, hc, if_true, List.length_cons, ih]
theorem nameN_of {l : Bs} {k : Nat} (hk : k ≤ l.length) (h : ∀ j, j < k → letAt l j = true) (he : k = l.length ∨ letAt l k = false) : nameN l = k := by
  cases l with
  | nil => simp at hk; subst hk; rfl
  | cons c r =>
    cases k with
    | zero =>
      rcases he with h' | h'
      · simp at h'
      · have : letterP c.toNat true = false := h'
        simp [nameN, this]
    | succ k =>
      have hc : letterP c.toNat true = true := h 0 (by omega)
      have hr := takeWhile_of (p := fun c => letterP c.toNat false) r k (by simpa using hk) (fun j hj => h (j + 1) (by omega)) (by
        rcases he with h' | h'
        · exact .inl (by simpa using h')
        · exact .inr h')
      simp only [nameN, hc, if_true, hr]
      omega
theorem nameN_le (l : Bs) : nameN l ≤ l.length := by
  cases l with
  | nil => exact Nat.le_refl _
  | cons c r =>
    simp only [nameN]
    split
    · have := (List.takeWhile_prefix (l := r) (fun c => letterP c.toNat false)).length_le
      simp only [List.length_cons]; omega
    · omega
set_option maxRecDepth 100000 in
set_option maxHeartbeats 2000000 in
theorem name_any {w : World} (l : Bs) (hl : l.length ≤ 1000000) : Calls Tryz.prog 64 #[.string (bstr l)] w fun e w' => e = .returned (.string (bstr (name l))) ∧ w = w' := by
  obtain ⟨S, hS⟩ : ∃ S, S = bstr l := ⟨_, rfl⟩
  have hsz : S.size = l.length := by rw [hS, bstr_size]
  have hat : ∀ (k : Nat) (h : k < S.size), S[k] = l.getD k 0 := by subst hS; exact fun k h => bstr_at l k h
  have hex : ∀ k, k ≤ l.length → S.extract 0 k = bstr (l.take k) := fun k hk => by rw [hS, bstr_extract]; simp
  have hemp : (⟨#[]⟩ : ByteArray) = bstr [] := rfl
  rw [← hS]
  obtain ⟨n, hn⟩ : ∃ n, l.length = n := ⟨_, rfl⟩
  rw [hn] at hsz hl
  have H := Lib.hid (And.intro hn (And.intro hat (And.intro hex hsz)))
  have hsi : (S.size : Int) ≤ 1000000 := by omega
  have HS := Lib.hid hS
  clear hS hat hex hn hsz hl hemp
  go_enter Tryz.func64, Tryz.ntmps64
  go_wp2_with fail
  go_loop [3] (fun v => ∃ k : Nat, k ≤ S.size ∧ v = .int .i64 k ∧ ∀ j, j < k → letAt l j = true) (fun v => S.size - (intOf v).toNat)
  case atStart => exact ⟨0, Nat.zero_le _, rfl, fun j hj => absurd hj (Nat.not_lt_zero _)⟩
  case round =>
    obtain ⟨k, hk, rfl, hj⟩ := hrel
    have HJ := Lib.hid hj
    clear hj
    have hfin : ∀ {q : Bool}, (k = l.length ∨ letAt l k = false) → nameN l = k := fun he => nameN_of (by have := H.out.1; have := H.out.2.2.2; omega) HJ.out he
    by_cases hlt : k < S.size
    · have hc := H.out.2.1 k hlt
      have hq : letAt l k = letterP S[k].toNat (decide (k = 0)) := by rw [hc]; rfl
      have hpl := plet_any S[k].toNat (decide (k = 0)) w
      obtain ⟨q, hq2⟩ : ∃ q, letAt l k = q := ⟨_, rfl⟩
      rw [← hq, hq2] at hpl
      have HP := Lib.hid hpl
      have HQ := Lib.hid hq2
      have hkz : ((k : Int) == 0) = decide (k = 0) := by
        by_cases h : k = 0
        · subst h; rfl
        · rw [decide_eq_false h]; simp [h]
      have hiw : IntKind.i64.wrap ((k : Int) + 1) = (k : Int) + 1 := i64_of (by omega)
      have HF := Lib.hid (fun he => hfin (q := q) he)
      have HK := Lib.hid hk
      clear hc hq hpl hq2 hk hfin
      go_wp2_with fail
      refine HP.out.mono ?_; rintro e w' ⟨rfl, rfl⟩
      cases q with
      | true =>
        go_wp2_with fail
        go_round
        case rel => exact ⟨k + 1, hlt, by go_num, fun j hj => by
          by_cases e : j = k
          · subst e; exact HQ.out
          · exact HJ.out j (by omega)⟩
        case measure => simp [intOf]; omega
      | false =>
        have hN := HF.out (.inr HQ.out)
        by_cases h40 : (40 : Int) < k
        · have HN : Hid (name l = []) := Lib.hid (by unfold name; rw [hN, if_pos (by omega)])
          clear hN
          go_wp2_with fail
          go_ret
          exact ⟨congrArg (fun b => Ending.returned (Value.string b)) (by rw [HN.out]; rfl), rfl⟩
        · have h40d : decide ((40 : Int) < k) = false := decide_eq_false h40
          have HN : Hid (bstr (name l) = S.extract 0 k) := Lib.hid (by unfold name; rw [hN, if_neg (by omega), H.out.2.2.1 k (by have := HK.out; have := H.out.2.2.2; have := H.out.1; omega)])
          clear hN h40
          go_wp2_with fail
          go_ret
          exact ⟨congrArg (fun b => Ending.returned (Value.string b)) HN.out.symm, rfl⟩
    · obtain rfl : k = S.size := by omega
      have hN := hfin (q := true) (.inl (by have := H.out.1; have := H.out.2.2.2; omega))
      clear hfin hk hlt
      by_cases h40 : (40 : Int) < S.size
      · have HN : Hid (name l = []) := Lib.hid (by unfold name; rw [hN, if_pos (by omega)])
        clear hN
        go_wp2_with fail
        go_ret
        exact ⟨congrArg (fun b => Ending.returned (Value.string b)) (by rw [HN.out]; rfl), rfl⟩
      · have h40d : decide ((40 : Int) < S.size) = false := decide_eq_false h40
        have HN : Hid (bstr (name l) = S) := Lib.hid (by unfold name; rw [hN, if_neg (by omega), List.take_of_length_le (by have := H.out.2.2.2; have := H.out.1; omega)]; exact HS.out.symm)
        clear hN h40
        go_wp2_with fail
        go_ret
        exact ⟨congrArg (fun b => Ending.returned (Value.string b)) HN.out.symm, rfl⟩
end Go.Proofs.YtcjfelndnnhgjaaGreatDoor
namespace Go.Proofs.YtcjfelndnnhgjaaGreatDoor
set_option linter.unusedVariables false
open Go.RowKit Go.Maps

theorem Below.new (w : World) (o : Obj) : Below w.heap.size w (w.alloc o) := (Below.refl _ _).alloc (Nat.le_refl _) o
theorem Below.next {a b c : World} (h : Below a.heap.size a b) (k : Below b.heap.size b c) : Below a.heap.size a c := h.trans (k.mono h.size)
theorem Blk.next {w w' : World} {b t l} (h : Blk w b t l) (hb : Below w.heap.size w w') : Blk w' b t l := h.below hb h.lt
/-! # pre, plainly: a piece, the expander -/
structure Pc where
  text : Bs
  f : Int
  l : Int
  c : Int
  fixed : Bool
instance : Inhabited Pc := ⟨⟨[], 0, 0, 0, false⟩⟩
structure Xs where
  defs : Bs → Nat
  texts : List Bs
  out : List Pc
  size : Nat
  files : Nat
  f : Int
  l : Int
  c : Int
  err : Int
def failP (S : Xs) (f l c : Int) (e : Int) : Xs := if S.err = 0 then { S with f := f, l := l, c := c, err := e } else S
def joinP (out : List Pc) (t : Bs) : List Pc := out.modify (out.length - 1) fun p => { p with text := p.text ++ t }
def lastFree (out : List Pc) : Bool := decide (0 < out.length) && !(out.getD (out.length - 1) default).fixed
def putP (S : Xs) (p : Pc) (f l c : Int) (joins : Bool) : Xs :=
  if p.text = [] ∨ S.err ≠ 0 then S
  else if 65536 < S.size + p.text.length then failP { S with size := S.size + p.text.length } f l c 4
  else if joins = true ∧ lastFree S.out = true then { S with size := S.size + p.text.length, out := joinP S.out p.text }
  else { S with size := S.size + p.text.length, out := S.out ++ [p] }
/-- as long as nothing failed: what was put is counted -/
structure Wfx (S : Xs) : Prop where
  size : S.size ≤ 65536
  out : S.out.length ≤ S.size
  text : ∀ i, i < S.out.length → (S.out.getD i default).text.length ≤ S.size
/-! # in memory -/
def pcCells (p : Pc) : List Value := [.string (bstr p.text), .int .i64 p.f, .int .i64 p.l, .int .i64 p.c, .bool p.fixed]
def outCells (l : List Pc) : List Value := l.flatMap pcCells
def strCells (l : List Bs) : List Value := l.map fun t => .string (bstr t)
theorem strCells_len (l : List Bs) : (strCells l).length = l.length := by simp [strCells]
theorem strCells_snoc (l : List Bs) (t : Bs) : strCells (l ++ [t]) = strCells l ++ [.string (bstr t)] := by simp [strCells]
theorem outCells_snoc (l : List Pc) (p : Pc) : outCells (l ++ [p]) = outCells l ++ pcCells p := by simp [outCells]
theorem outCells_len (l : List Pc) : (outCells l).length = l.length * 5 := flatMap_len pcCells 5 (fun _ => rfl) l
theorem outCells_at (l : List Pc) (i r : Nat) (hi : i < l.length) (hr : r < 5) : (outCells l)[i * 5 + r]? = (pcCells (l.getD i default))[r]? := by
  unfold outCells
  rw [flatMap_at pcCells 5 (by decide) (fun _ => rfl), show (i * 5 + r) / 5 = i by omega, show (i * 5 + r) % 5 = r by omega, List.getElem?_eq_getElem hi]
  simp [List.getD, List.getElem?_eq_getElem hi]
def xCells (tv : Value) (bm : Nat) (vt vo : Value) (S : Xs) : List Value := [tv, .map (some bm), vt, vo, .int .i64 S.size, .int .i64 S.files, .int .i64 S.f, .int .i64 S.l, .int .i64 S.c, .int .i64 S.err]
theorem ownsMap_keep {H : Type} {P : Program} {k : TypeId} {R : Value → Option (DataW H × List MemPlace)} {w w' : World} {b n : Nat} {D : DataW H} (h : w.ownsMap P k R b n D) (hb : w'.heap[b]? = w.heap[b]?) : w'.ownsMap P k R b n D := by
  obtain ⟨es, clock, h1, h2⟩ := h
  exact ⟨es, clock, hb.trans h1, h2⟩
def Row (w : World) (e : Nat) (v : Value) (D : DataW Unit) : Prop := True
abbrev MapIs (w : World) (bm k : Nat) (D : DataW Unit) : Prop := w.ownsMap Tryz.prog 9 (plainElem Tryz.prog 3) bm k D
structure XAt (base bx bm : Nat) (tv : Value) (w : World) (S : Xs) (vt vo : Value) (k : Nat) (D : DataW Unit) : Prop where
  blk : Blk w bx 64 (xCells tv bm vt vo S)
  tx : w.ownsRow base 9 1 vt S.texts.length (strCells S.texts)
  ot : w.ownsRow base 67 5 vo S.out.length (outCells S.out)
  mp : MapIs w bm k D
  dk : ∀ n : Bs, D.atKey (.string n) (.lit (.int .i64 0)) = .lit (.int .i64 (S.defs n))
  kl : k ≤ S.texts.length
  t1 : vt.ownBlock ≠ some bx
  t2 : vt.ownBlock ≠ some bm
  o1 : vo.ownBlock ≠ some bx
  o2 : vo.ownBlock ≠ some bm
  to : ∀ g, vt.ownBlock = some g → vo.ownBlock ≠ some g
  xm : bx ≠ bm
  gx : base ≤ bx
  gm : base ≤ bm
/-- the blocks that the expander writes -/
def xFoot (bx bm : Nat) (vt vo : Value) (g : Nat) : Prop := g = bx ∨ g = bm ∨ vt.ownBlock = some g ∨ vo.ownBlock = some g
def HasX (base bx : Nat) (tv : Value) (F : Nat → Prop) (w : World) (S : Xs) : Prop := ∃ bm vt vo k D, XAt base bx bm tv w S vt vo k D ∧ F = xFoot bx bm vt vo
section
variable {base bx bm : Nat} {tv vt vo : Value} {w w' : World} {S S' : Xs} {k : Nat} {D : DataW Unit}
theorem XAt.lt (h : XAt base bx bm tv w S vt vo k D) : ∀ g, xFoot bx bm vt vo g → base ≤ g ∧ g < w.heap.size := by
  rintro g (rfl | rfl | hg | hg)
  · exact ⟨h.gx, h.blk.lt⟩
  · exact ⟨h.gm, h.mp.lt⟩
  · rcases h.tx.2 with ⟨rfl, _⟩ | ⟨g', cap, cur, rfl, h1, h2, _⟩
    · cases hg
    · cases hg; exact ⟨h1, some_lt h2⟩
  · rcases h.ot.2 with ⟨rfl, _⟩ | ⟨g', cap, cur, rfl, h1, h2, _⟩
    · cases hg
    · cases hg; exact ⟨h1, some_lt h2⟩
/-- what leaves the expander's blocks alone -/
theorem XAt.keep (h : XAt base bx bm tv w S vt vo k D) (hb : ∀ g, xFoot bx bm vt vo g → w'.heap[g]? = w.heap[g]?) : XAt base bx bm tv w' S vt vo k D :=
  ⟨(hb bx (.inl rfl)).trans h.blk, ownsRow_keep h.tx (fun g hg => hb g (.inr (.inr (.inl hg)))), ownsRow_keep h.ot (fun g hg => hb g (.inr (.inr (.inr hg)))), ownsMap_keep h.mp (hb bm (.inr (.inl rfl))), h.dk, h.kl, h.t1, h.t2, h.o1, h.o2, h.to, h.xm, h.gx, h.gm⟩
theorem XAt.below (h : XAt base bx bm tv w S vt vo k D) (hb : Below w.heap.size w w') : XAt base bx bm tv w' S vt vo k D := h.keep fun g hg => hb.block g (h.lt g hg).2
/-- the expander's own cells are written -/
theorem XAt.reblk (h : XAt base bx bm tv w S vt vo k D) (hu : Upd (fun g => g = bx) (fun g => g = bx) w w') (hb : Blk w' bx 64 (xCells tv bm vt vo S')) (h1 : S'.defs = S.defs) (h2 : S'.texts = S.texts) (h3 : S'.out = S.out) : XAt base bx bm tv w' S' vt vo k D := by
  have hk : ∀ g, g ≠ bx → g < w.heap.size → w'.heap[g]? = w.heap[g]? := fun g hg hl => hu.block g hl hg
  refine ⟨hb, ?_, ?_, ownsMap_keep h.mp (hk bm (Ne.symm h.xm) (h.mp.lt)), by rw [h1]; exact h.dk, by rw [h2]; exact h.kl, h.t1, h.t2, h.o1, h.o2, h.to, h.xm, h.gx, h.gm⟩
  · rw [h2]; exact ownsRow_keep h.tx fun g hg => hk g (fun e => h.t1 (by rw [← e]; exact hg)) (h.lt g (.inr (.inr (.inl hg)))).2
  · rw [h3]; exact ownsRow_keep h.ot fun g hg => hk g (fun e => h.o1 (by rw [← e]; exact hg)) (h.lt g (.inr (.inr (.inr hg)))).2
end
section
variable {base bx : Nat} {tv : Value} {F : Nat → Prop} {w w' : World} {S : Xs}
theorem HasX.below (h : HasX base bx tv F w S) (hb : Below w.heap.size w w') : HasX base bx tv F w' S := by
  obtain ⟨bm, vt, vo, k, D, h, rfl⟩ := h
  exact ⟨bm, vt, vo, k, D, h.below hb, rfl⟩
theorem HasX.lt (h : HasX base bx tv F w S) : ∀ g, F g → base ≤ g ∧ g < w.heap.size := by
  obtain ⟨bm, vt, vo, k, D, h, rfl⟩ := h
  exact h.lt
theorem HasX.keep (h : HasX base bx tv F w S) (hb : ∀ g, F g → w'.heap[g]? = w.heap[g]?) : HasX base bx tv F w' S := by
  obtain ⟨bm, vt, vo, k, D, h, rfl⟩ := h
  exact ⟨bm, vt, vo, k, D, h.keep hb, rfl⟩
end
theorem upd_cell {w : World} {b i : Nat} (u : Value) : Upd (fun g => g = b) (fun g => g = b) w (w.setCell ⟨b, i, none⟩ u) :=
  ⟨rfl, rfl, rfl, by simp, fun g hg hn => Below.heap_setCell _ _ _ _ (fun e => hn e), fun g hg => .inl hg⟩
theorem Upd.grow {F F' G : Nat → Prop} {w w' : World} (h : Upd G G w w') (hG : ∀ g, G g → F g) (hF : ∀ g, F' g → F g ∨ w.heap.size ≤ g) : Upd F F' w w' :=
  ⟨h.os, h.tape, h.output, h.size, fun g hg hn => h.block g hg (fun hh => hn (hG g hh)), hF⟩
/-- what a method of the expander leaves -/
def XR (base bx : Nat) (tv : Value) (F : Nat → Prop) (w : World) (S : Xs) (v : Value) (e : Ending) (w' : World) : Prop := ∃ F', e = .returned v ∧ HasX base bx tv F' w' S ∧ Upd F F' w w'
set_option maxRecDepth 100000 in
set_option maxHeartbeats 2000000 in
theorem fail_any {base bx : Nat} {tv : Value} {F : Nat → Prop} {w : World} {S : Xs} (h : HasX base bx tv F w S) (f l c e : Int) :
    Calls Tryz.prog 26 #[.pointer (some ⟨bx, 0, none⟩), .agg #[.int .i64 f, .int .i64 l, .int .i64 c], .int .i64 e] w (XR base bx tv F w (failP S f l c e) (.tuple #[])) := by
  obtain ⟨bm, vt, vo, k, D, h, rfl⟩ := h
  have hb0 := Below.new w (.cells #[.int .i64 f, .int .i64 l, .int .i64 c] 32)
  have h1 := h.below hb0
  have c9 := h1.blk.cell (i := 9) rfl
  have HX := Lib.hid (And.intro h1 hb0)
  by_cases he : S.err = 0
  · have f6 := h1.blk.frz 6
    have f7 := h1.blk.frz 7
    have f8 := h1.blk.frz 8
    have f9 := h1.blk.frz 9
    have c6 := h1.blk.cell (i := 6) rfl
    have c7 := h1.blk.cell (i := 7) rfl
    have c8 := h1.blk.cell (i := 8) rfl
    rw [he] at c9
    have HE := Lib.hid he
    have hne : bx ≠ w.heap.size := by have := h.blk.lt; omega
    clear h h1 hb0 he
    go_enter Tryz.func26, Tryz.ntmps26
    go_wp2_with fail
    have hu := (((upd_cell (w := w.alloc (.cells #[.int .i64 f, .int .i64 l, .int .i64 c] 32)) (b := bx) (i := 6) (.int .i64 f)).trans (upd_cell (i := 7) (.int .i64 l))).trans (upd_cell (i := 8) (.int .i64 c))).trans (upd_cell (i := 9) (.int .i64 e))
    have hk := (((HX.out.1.blk.set 6 (.int .i64 f)).set 7 (.int .i64 l)).set 8 (.int .i64 c)).set 9 (.int .i64 e)
    have hr := HX.out.1.reblk (S' := failP S f l c e) hu (by rw [failP, if_pos HE.out]; exact hk) (by rw [failP, if_pos HE.out]) (by rw [failP, if_pos HE.out]) (by rw [failP, if_pos HE.out])
    go_end0
    exact ⟨_, rfl, ⟨bm, vt, vo, k, D, hr, rfl⟩, (Upd.below HX.out.2).trans (hu.grow (fun g hg => .inl hg) (fun g hg => .inl hg))⟩
  · have heb : (S.err == 0) = false := by simp [he]
    have HE := Lib.hid he
    clear h h1 hb0 he
    go_enter Tryz.func26, Tryz.ntmps26
    go_wp2_with fail
    go_end0
    exact ⟨_, rfl, ⟨bm, vt, vo, k, D, by rw [failP, if_neg HE.out]; exact HX.out.1, rfl⟩, Upd.below HX.out.2⟩
end Go.Proofs.YtcjfelndnnhgjaaGreatDoor
namespace Go.Proofs.YtcjfelndnnhgjaaGreatDoor
set_option linter.unusedVariables false
open Go.RowKit Go.Maps

theorem XAt.drew {base bx bm : Nat} {tv vt vo : Value} {w : World} {S : Xs} {k : Nat} {D : DataW Unit} (h : XAt base bx bm tv w S vt vo k D) : XAt base bx bm tv w.drew S vt vo k D := h.below (Below.refl _ _).drew
theorem infoPc : (Tryz.prog.info? 67).map (fun i => (i.zero, i.size, i.bytes)) = some (some (.agg #[.string { data := #[] }, .int .i64 0, .int .i64 0, .int .i64 0, .bool false]), 5, 48) := by kernel_rfl
theorem infoStr : (Tryz.prog.info? 9).map (fun i => (i.zero, i.size, i.bytes)) = some (some (.string { data := #[] }), 1, 16) := by kernel_rfl
theorem TPcs : SlTy Tryz.prog 30 67 5 48 (.agg #[.string { data := #[] }, .int .i64 0, .int .i64 0, .int .i64 0, .bool false]) := SlTy.of Tryz.underlying30 infoPc rfl (by decide)
theorem TStrs : SlTy Tryz.prog 62 9 1 16 (.string { data := #[] }) := SlTy.of Tryz.underlying62 infoStr rfl (by decide)
/-- a piece is appended to out -/
theorem XAt.outApp {base bx bm : Nat} {tv vt vo : Value} {w1 w3 : World} {S : Xs} {k : Nat} {D : DataW Unit} (h : XAt base bx bm tv w1 S vt vo k D) (p : Pc) {o : Obj} {n g cap : Nat} (hn : S.out.length = n)
    (happ : App base 67 5 (w1.alloc o).drew vo n 1 (outCells S.out ++ pcCells p) g cap w3) :
    XAt base bx bm tv (w3.setCell ⟨bx, 3, none⟩ (.slice (some ⟨g, 0, none⟩) (n + 1) cap)) { S with out := S.out ++ [p] } vt (.slice (some ⟨g, 0, none⟩) (n + 1) cap) k D ∧
      Upd (xFoot bx bm vt vo) (xFoot bx bm vt (.slice (some ⟨g, 0, none⟩) (n + 1) cap)) w1 (w3.setCell ⟨bx, 3, none⟩ (.slice (some ⟨g, 0, none⟩) (n + 1) cap)) := by
  subst hn
  have hlt := h.lt
  have hgn : g ≠ bx ∧ g ≠ bm ∧ (∀ q, vt.ownBlock = some q → g ≠ q) := by
    rcases happ.at_ with hg | hg
    · exact ⟨fun e => h.o1 (e ▸ hg), fun e => h.o2 (e ▸ hg), fun q hq e => h.to q hq (e ▸ hg)⟩
    · have hg' : g = (w1.alloc o).heap.size := hg
      rw [World.size_alloc] at hg'
      refine ⟨?_, ?_, fun q hq e => ?_⟩
      · have := (hlt bx (.inl rfl)).2; omega
      · have := (hlt bm (.inr (.inl rfl))).2; omega
      · have := (hlt q (.inr (.inr (.inl hq)))).2; omega
  have hold : ∀ j, j < w1.heap.size → vo.ownBlock ≠ some j → w3.heap[j]? = w1.heap[j]? := fun j hj hne =>
    (happ.old (by show j < (w1.alloc o).heap.size; rw [World.size_alloc]; omega) hne).trans (heap_alloc_old _ _ hj)
  have hset : ∀ j, j ≠ bx → (w3.setCell ⟨bx, 3, none⟩ (.slice (some ⟨g, 0, none⟩) (S.out.length + 1) cap)).heap[j]? = w3.heap[j]? := fun j hj => Below.heap_setCell _ _ _ _ hj
  have hgm : base ≤ g := by
    rcases happ.at_ with hg | hg
    · exact (hlt g (.inr (.inr (.inr hg)))).1
    · have hg' : g = (w1.alloc o).heap.size := hg
      rw [World.size_alloc] at hg'
      have := hlt bx (.inl rfl); omega
  have hU : Upd (xFoot bx bm vt vo) (xFoot bx bm vt (.slice (some ⟨g, 0, none⟩) (S.out.length + 1) cap)) w1 (w3.setCell ⟨bx, 3, none⟩ (.slice (some ⟨g, 0, none⟩) (S.out.length + 1) cap)) := by
    refine ⟨happ.grown.os, happ.grown.tape, happ.grown.output, ?_, fun j hj hn => ?_, fun j hj => ?_⟩
    · have := happ.grown.size
      simp at this ⊢; omega
    · rw [hset j (fun e => hn (.inl e))]
      exact hold j hj (fun e => hn (.inr (.inr (.inr e))))
    · rcases hj with rfl | rfl | hj | hj
      · exact .inl (.inl rfl)
      · exact .inl (.inr (.inl rfl))
      · exact .inl (.inr (.inr (.inl hj)))
      · simp only [Value.ownBlock, Option.some.injEq] at hj; subst hj
        rcases happ.at_ with hg | hg
        · exact .inl (.inr (.inr (.inr hg)))
        · right; have : g = (w1.alloc o).heap.size := hg; rw [World.size_alloc] at this; omega
  refine ⟨⟨?_, ?_, ?_, ?_, h.dk, h.kl, h.t1, h.t2, ?_, ?_, fun q hq => ?_, h.xm, h.gx, h.gm⟩, hU⟩
  · have hb3 : Blk w3 bx 64 (xCells tv bm vt vo S) := (hold bx (hlt bx (.inl rfl)).2 h.o1).trans h.blk
    exact hb3.set 3 _
  · exact ownsRow_keep h.tx fun q hq => (hset q fun e => h.t1 (e ▸ hq)).trans (hold q (hlt q (.inr (.inr (.inl hq)))).2 (h.to q hq))
  · rw [show ({ S with out := S.out ++ [p] } : Xs).out.length = S.out.length + 1 by simp, show ({ S with out := S.out ++ [p] } : Xs).out = S.out ++ [p] from rfl, outCells_snoc]
    exact ownsRow_keep happ.own fun q hq => by
      simp only [Value.ownBlock, Option.some.injEq] at hq; subst hq
      exact hset _ hgn.1
  · exact ownsMap_keep h.mp ((hset bm (Ne.symm h.xm)).trans (hold bm h.mp.lt h.o2))
  · simp only [Value.ownBlock, ne_eq, Option.some.injEq]; exact hgn.1
  · simp only [Value.ownBlock, ne_eq, Option.some.injEq]; exact hgn.2.1
  · simp only [Value.ownBlock, ne_eq, Option.some.injEq]; exact hgn.2.2 q hq
theorem outCells_join (l : List Pc) (q : Nat) (hq : l.length = q + 1) (t : Bs) : (outCells l).set (q * 5) (.string (bstr ((l.getD q default).text ++ t))) = outCells (joinP l t) := by
  unfold joinP
  rw [hq, Nat.add_sub_cancel]
  apply List.ext_getElem?
  intro i
  by_cases hi : i < l.length * 5
  · have h5 : i = i / 5 * 5 + i % 5 := by omega
    have hd : i / 5 < l.length := by omega
    have hL : (l.modify q fun p => { p with text := p.text ++ t }).length = l.length := by simp
    have hr := outCells_at (l.modify q fun p => { p with text := p.text ++ t }) (i / 5) (i % 5) (by rw [hL]; exact hd) (by omega)
    have hl := outCells_at l (i / 5) (i % 5) hd (by omega)
    rw [← h5] at hr hl
    rw [hr, List.getElem?_set, hl]
    have hg : (l.modify q fun p => { p with text := p.text ++ t }).getD (i / 5) default = if i / 5 = q then { (l.getD q default) with text := (l.getD q default).text ++ t } else l.getD (i / 5) default := by
      rw [List.getD, List.getElem?_modify]
      split
      · rename_i e
        subst e
        simp [List.getD, List.getElem?_eq_getElem hd]
      · rename_i e
        rw [if_neg (Ne.symm e), List.getD]; simp
    rw [hg]
    by_cases he : i / 5 = q
    · rw [if_pos he, he]
      by_cases h0 : i % 5 = 0
      · rw [if_pos (by omega), if_pos (by rw [outCells_len]; omega), h0]; rfl
      · rw [if_neg (by omega)]
        obtain h | h | h | h : i % 5 = 1 ∨ i % 5 = 2 ∨ i % 5 = 3 ∨ i % 5 = 4 := by omega
        all_goals rw [h]; rfl
    · rw [if_neg he, if_neg (by omega)]
  · rw [List.getElem?_eq_none (by simp [outCells_len]; omega), List.getElem?_eq_none (by simp [outCells_len]; omega)]
/-- out's last piece grows -/
theorem XAt.outJoin {base bx bm : Nat} {tv vt : Value} {w1 : World} {S : Xs} {k : Nat} {D : DataW Unit} {g m q co : Nat} (h : XAt base bx bm tv w1 S vt (.slice (some ⟨g, 0, none⟩) m co) k D) (hm : S.out.length = m) (hq : m = q + 1) (t : Bs) {T : ByteArray} (hT : bstr ((S.out.getD q default).text ++ t) = T) :
    XAt base bx bm tv (w1.setCell ⟨g, q * 5, none⟩ (.string T)) { S with out := joinP S.out t } vt (.slice (some ⟨g, 0, none⟩) m co) k D ∧
      Upd (xFoot bx bm vt (.slice (some ⟨g, 0, none⟩) m co)) (xFoot bx bm vt (.slice (some ⟨g, 0, none⟩) m co)) w1 (w1.setCell ⟨g, q * 5, none⟩ (.string T)) := by
  subst hT hm
  have hgx : g ≠ bx := fun e => h.o1 (by rw [e]; rfl)
  have hgm : g ≠ bm := fun e => h.o2 (by rw [e]; rfl)
  have hu := upd_cell (w := w1) (b := g) (i := q * 5) (.string (bstr ((S.out.getD q default).text ++ t)))
  refine ⟨⟨?_, ?_, ?_, ?_, h.dk, h.kl, h.t1, h.t2, h.o1, h.o2, h.to, h.xm, h.gx, h.gm⟩, hu.grow (fun j hj => .inr (.inr (.inr (by rw [hj]; rfl)))) (fun j hj => .inl hj)⟩
  · exact (Below.heap_setCell _ _ _ _ (Ne.symm hgx)).trans h.blk
  · exact ownsRow_keep h.tx fun j hj => Below.heap_setCell _ _ _ _ (fun e => h.to j hj (by show some g = some j; rw [e]))
  · have := ownsRow_setIn h.ot (q * 5) (by rw [outCells_len]; omega) (.string (bstr ((S.out.getD q default).text ++ t)))
    rw [outCells_join _ _ hq] at this
    rw [show ({ S with out := joinP S.out t } : Xs).out = joinP S.out t from rfl, show (joinP S.out t).length = S.out.length by simp [joinP]]
    exact this
  · exact ownsMap_keep h.mp (Below.heap_setCell _ _ _ _ (Ne.symm hgm))
set_option maxRecDepth 100000 in
set_option maxHeartbeats 8000000 in
theorem put_any {base bx : Nat} {tv : Value} {F : Nat → Prop} {w : World} {S : Xs} (h : HasX base bx tv F w S) (p : Pc) (f l c : Int) (joins : Bool) (hb : base ≤ w.heap.size) (hw : S.err = 0 → Wfx S) (hp : p.text.length ≤ 1000000) :
    Calls Tryz.prog 68 #[.pointer (some ⟨bx, 0, none⟩), .agg #[.string (bstr p.text), .int .i64 p.f, .int .i64 p.l, .int .i64 p.c, .bool p.fixed], .agg #[.int .i64 f, .int .i64 l, .int .i64 c], .bool joins] w (XR base bx tv F w (putP S p f l c joins) (.tuple #[])) := by
  obtain ⟨bm, vt, vo, k, D, h, rfl⟩ := h
  have hb1 := Below.new w (.cells #[.string (bstr p.text), .int .i64 p.f, .int .i64 p.l, .int .i64 p.c, .bool p.fixed] 67)
  have hb2 := Below.new (w.alloc (.cells #[.string (bstr p.text), .int .i64 p.f, .int .i64 p.l, .int .i64 p.c, .bool p.fixed] 67)) (.cells #[.int .i64 f, .int .i64 l, .int .i64 c] 32)
  have k1 := (Blk.new (w := w) 67 (pcCells p)).next hb2
  have k2 := Blk.new (w := w.alloc (.cells #[.string (bstr p.text), .int .i64 p.f, .int .i64 p.l, .int .i64 p.c, .bool p.fixed] 67)) 32 [.int .i64 f, .int .i64 l, .int .i64 c]
  rw [World.size_alloc] at k2
  have hbb := Below.next hb1 hb2
  have hX := h.below hbb
  have hlt := h.blk.lt
  have HX := Lib.hid (And.intro hX (And.intro hbb (And.intro k1 (And.intro k2 (And.intro hlt hb)))))
  have HW := Lib.hid (And.intro hw hp)
  obtain ⟨T, hT⟩ : ∃ T, bstr p.text = T := ⟨_, rfl⟩
  have HT := Lib.hid hT
  have c0 := k1.cell (i := 0) rfl
  have x9 := hX.blk.cell (i := 9) rfl
  have x4 := hX.blk.cell (i := 4) rfl
  have g4 := hX.blk.frz 4
  simp only [hT] at c0 hX HX k1 k2 x9 x4 g4 ⊢
  generalize hWW : (w.alloc (.cells #[.string T, .int .i64 p.f, .int .i64 p.l, .int .i64 p.c, .bool p.fixed] 67)).alloc (.cells #[.int .i64 f, .int .i64 l, .int .i64 c] 32) = W at *
  have HWW := Lib.hid hWW
  by_cases ht : p.text = []
  · have hie : T.toList.isEmpty = true := by rw [← hT, ht, ByteArray.toList_eq]; rfl
    have HE := Lib.hid ht
    clear h hb1 hb2 k1 k2 hbb hX hlt hw hp ht hb hT x9 x4 g4
    go_enter Tryz.func68, Tryz.ntmps68
    go_wp2_with fail
    go_end0
    exact ⟨_, rfl, ⟨bm, vt, vo, k, D, by rw [putP, if_pos (.inl HE.out)]; exact HX.out.1, rfl⟩, Upd.below HX.out.2.1⟩
  · obtain ⟨hnl, hie⟩ := bstr_ne ht
    rw [hT] at hnl hie
    by_cases he : S.err = 0
    · have hwf := hw he
      have hsz := hwf.size
      rw [he] at x9
      have hTs : T.size = p.text.length := by rw [← hT, bstr_size]
      have hs1 : (S.size : Int) ≤ 65536 := by omega
      have hs2 : (T.size : Int) ≤ 1000000 := by omega
      have hq : IntKind.i64.wrap ((S.size : Int) + (T.size : Int)) = (S.size : Int) + (T.size : Int) := i64_of (by omega)
      have HWf := Lib.hid (And.intro hwf (And.intro he (And.intro hTs ht)))
      have hne4 : bx ≠ w.heap.size := by omega
      have HJ := Lib.hid hne4
      clear h hb1 hb2 k1 k2 hbb hX hlt hw hp ht hb he hT hwf hsz hTs hne4
      go_enter Tryz.func68, Tryz.ntmps68
      go_upto_region 2 with fail
      refine wp_region_still_tail 10 (by kernel_rfl) (by kernel_rfl) ?_
      simp only [List.take_succ_cons, List.take_zero, List.drop_succ_cons, List.drop_zero]
      change wpStill _ _ W.drew (fun a' => wpList _ _ _ _ a' W.drew) _ _
      have d4 : W.drew.cell? ⟨bx, 4, none⟩ = some (.int .i64 S.size) := x4
      have e4 : W.drew.frozen? ⟨bx, 4, none⟩ = false := g4
      have d0 : W.drew.cell? ⟨w.heap.size, 0, none⟩ = some (.string T) := c0
      have HX1 : Hid (XAt base bx bm tv W.drew S vt vo k D ∧ Below w.heap.size w W.drew ∧ Blk W.drew w.heap.size 67 [.string T, .int .i64 p.f, .int .i64 p.l, .int .i64 p.c, .bool p.fixed] ∧ Blk W.drew (w.heap.size + 1) 32 [.int .i64 f, .int .i64 l, .int .i64 c]) := Lib.hid ⟨HX.out.1.drew, HX.out.2.1.drew, by have := HX.out.2.2.1; rw [pcCells, HT.out] at this; exact this, HX.out.2.2.2.1⟩
      clear x4 g4 c0 x9 HWW hWW
      generalize W.drew = W1 at *
      repeat still_step
      try refine wpStill_nil ?_
      go_upto_region 3 with fail
      obtain ⟨S1, hS1⟩ : ∃ S1, { S with size := S.size + p.text.length } = S1 := ⟨_, rfl⟩
      have hz : (S.size : Int) + (T.size : Int) = (S1.size : Int) := by rw [← hS1]; have := HWf.out.2.2.1; show _ = ((S.size + p.text.length : Nat) : Int); omega
      rw [hz] at hq ⊢
      have hu2 := upd_cell (w := W1) (b := bx) (i := 4) (.int .i64 (S1.size : Int))
      have hX2 : XAt base bx bm tv (W1.setCell ⟨bx, 4, none⟩ (.int .i64 (S1.size : Int))) S1 vt vo k D := HX1.out.1.reblk hu2 (by
        have h := HX1.out.1.blk.set 4 (.int .i64 (S1.size : Int))
        have e : (xCells tv bm vt vo S).set 4 (.int .i64 (S1.size : Int)) = xCells tv bm vt vo S1 := by rw [← hS1]; rfl
        rwa [e] at h) (by rw [← hS1]) (by rw [← hS1]) (by rw [← hS1])
      have hp2 := HX1.out.2.2.1.other (a := ⟨bx, 4, none⟩) (.int .i64 (S1.size : Int)) (by exact Ne.symm HJ.out)
      have ha2 := HX1.out.2.2.2.other (a := ⟨bx, 4, none⟩) (.int .i64 (S1.size : Int)) (by have := HX.out.2.2.2.2.1; show w.heap.size + 1 ≠ bx; omega)
      have hup : Upd (xFoot bx bm vt vo) (xFoot bx bm vt vo) w (W1.setCell ⟨bx, 4, none⟩ (.int .i64 (S1.size : Int))) := (Upd.below HX1.out.2.1).trans (hu2.grow (fun g hg => .inl hg) (fun g hg => .inl hg))
      have HX2 := Lib.hid (And.intro hX2 (And.intro hp2 (And.intro ha2 hup)))
      have hpu : S1.size = S.size + p.text.length ∧ S1.out = S.out ∧ S1.err = 0 ∧ putP S p f l c joins = if 65536 < S1.size then failP S1 f l c 4 else if joins = true ∧ lastFree S1.out = true then { S1 with out := joinP S1.out p.text } else { S1 with out := S1.out ++ [p] } := by
        rw [← hS1]
        exact ⟨rfl, rfl, HWf.out.2.1, by rw [putP, if_neg (by rintro (h | h); exact HWf.out.2.2.2 h; exact h HWf.out.2.1)]⟩
      have HP := Lib.hid hpu
      have y4 := hX2.blk.cell (i := 4) rfl
      have y3 := hX2.blk.cell (i := 3) rfl
      clear hS1 hz hu2 hX2 hp2 ha2 hup hpu d4 e4 d0 HX1 hq
      generalize W1.setCell ⟨bx, 4, none⟩ (.int .i64 (S1.size : Int)) = W2 at *
      by_cases hbig : (65536 : Int) < (S1.size : Int)
      · have q0 := HX2.out.2.2.1.cell (i := 0) rfl
        have q1 := HX2.out.2.2.1.cell (i := 1) rfl
        have q2 := HX2.out.2.2.1.cell (i := 2) rfl
        have hput : putP S p f l c joins = failP S1 f l c 4 := by rw [HP.out.2.2.2, if_pos (by omega)]
        have HF := Lib.hid (fail_any ⟨bm, vt, vo, k, D, HX2.out.1, rfl⟩ f l c 4)
        have HPu := Lib.hid hput
        clear hput
        go_wp2_with fail
        refine HF.out.mono ?_; rintro e w3 ⟨F3, rfl, hx3, hu3⟩
        have H3 := Lib.hid (And.intro hx3 hu3)
        clear hx3 hu3 q0 q1 q2
        go_wp2_with fail
        go_end0
        exact ⟨F3, rfl, by rw [HPu.out]; exact H3.out.1, HX2.out.2.2.2.trans H3.out.2⟩
      · have hbd : decide ((65536 : Int) < (S1.size : Int)) = false := decide_eq_false hbig
        have HBg := Lib.hid hbig
        obtain ⟨po, co, rfl⟩ := ownsRow_form HX2.out.1.ot
        obtain ⟨m, hm⟩ : ∃ m, S1.out.length = m := ⟨_, rfl⟩
        rw [hm] at y3
        have HM := Lib.hid hm
        clear hbig hm
        go_upto_region 6 with fail
        by_cases hjl : joins = true ∧ lastFree S1.out = true
        · obtain ⟨hj, hf⟩ := hjl
          subst hj
          have hput : putP S p f l c true = { S1 with out := joinP S1.out p.text } := by rw [HP.out.2.2.2, if_neg (by have := HBg.out; omega), if_pos ⟨rfl, hf⟩]
          obtain ⟨h0, hfx⟩ : 0 < m ∧ (S1.out.getD (m - 1) default).fixed = false := by rw [← HM.out]; simpa [lastFree] using hf
          obtain ⟨q, hq⟩ : ∃ q, m = q + 1 := ⟨m - 1, by omega⟩
          obtain ⟨g, rfl⟩ : ∃ g, po = some ⟨g, 0, none⟩ := by
            have h := HX2.out.1.ot
            rw [HM.out] at h
            obtain ⟨g, cap, e, _⟩ := h.form h0
            cases e; exact ⟨g, rfl⟩
          have hmq : IntKind.i64.wrap ((m : Int) - 1) = (q : Int) := by rw [i64_of (by have := HWf.out.1.out; have := HWf.out.1.size; have := congrArg List.length HP.out.2.1; have := HM.out; omega)]; omega
          have hot := HX2.out.1.ot
          rw [HM.out] at hot
          have u4 : W2.cell? ⟨g, q * 5 + 4, none⟩ = some (.bool false) := by
            rw [hot.cellAt _ (by omega), outCells_at _ _ _ (by have := HM.out; omega) (by decide)]
            show some (Value.bool _) = _
            rw [← hfx, hq, Nat.add_sub_cancel]
          have u0 : W2.cell? ⟨g, q * 5, none⟩ = some (.string (bstr (S1.out.getD q default).text)) := by
            rw [hot.cellAt _ (by omega), show q * 5 = q * 5 + 0 from rfl, outCells_at _ _ _ (by have := HM.out; omega) (by decide)]
            rfl
          have v0 : W2.frozen? ⟨g, q * 5, none⟩ = false := hot.frozenAt _
          have t0 := HX2.out.2.1.cell (i := 0) rfl
          have y3' := y3
          have hm0 : (0 : Int) < (m : Int) := by omega
          have hqm : (q : Int) < (m : Int) := by omega
          have HQ := Lib.hid (And.intro hput hq)
          clear hput hq hot h0 hfx hf y4
          go_upto_region 7 with fail
          refine wp_region_still_tail 14 (by kernel_rfl) (by kernel_rfl) ?_
          simp only [List.take_succ_cons, List.take_zero, List.drop_succ_cons, List.drop_zero]
          change wpStill _ _ W2.drew (fun a' => wpList _ _ _ _ a' W2.drew) _ _
          have HX3 : Hid (XAt base bx bm tv W2.drew S1 vt (.slice (some ⟨g, 0, none⟩) m co) k D ∧ Upd (xFoot bx bm vt (.slice (some ⟨g, 0, none⟩) m co)) (xFoot bx bm vt (.slice (some ⟨g, 0, none⟩) m co)) w W2.drew) := Lib.hid (by have h1 := HX2.out.1.drew; have h2 := HX2.out.2.2.2; rw [HM.out] at h1 h2; exact ⟨h1, h2.trans (Upd.below (w := W2) (Below.refl _ _).drew)⟩)
          obtain ⟨U, hU⟩ : ∃ U, bstr (S1.out.getD q default).text = U := ⟨_, rfl⟩
          have hus : (U.size : Int) ≤ 65536 := by
            have h1 := HWf.out.1.text q (by rw [← HP.out.2.1, HM.out]; omega)
            have h2 := HWf.out.1.size
            rw [← HP.out.2.1] at h1
            rw [← hU, bstr_size]; omega
          have HU := Lib.hid hU
          rw [hU] at u0
          clear hU
          have z3 : W2.drew.cell? ⟨bx, 3, none⟩ = some (.slice (some ⟨g, 0, none⟩) m co) := y3
          have z0 : W2.drew.cell? ⟨g, q * 5, none⟩ = some (.string U) := u0
          have zf : W2.drew.frozen? ⟨g, q * 5, none⟩ = false := v0
          have zt : W2.drew.cell? ⟨w.heap.size, 0, none⟩ = some (.string T) := t0
          clear y3 y3' u0 u4 v0 t0
          generalize W2.drew = W3 at *
          have hcat : (9223372036854775807 < U.size + T.size) = False := eq_false (by omega)
          repeat still_step
          clear hcat
          try refine wpStill_nil ?_
          have hjoin := HX3.out.1.outJoin HM.out HQ.out.2 p.text (T := U ++ T) (by rw [← HT.out, ← HU.out, bstr_app])
          have HJn := Lib.hid hjoin
          clear hjoin
          go_wp2_with fail
          go_end0
          exact ⟨_, rfl, ⟨bm, vt, _, k, D, by rw [HQ.out.1]; exact HJn.out.1, rfl⟩, by rw [HM.out]; exact HX3.out.2.trans HJn.out.2⟩
        · have hput : putP S p f l c joins = { S1 with out := S1.out ++ [p] } := by rw [HP.out.2.2.2, if_neg (by have := HBg.out; omega), if_neg hjl]
          have hot := HX2.out.1.ot
          rw [HM.out] at hot
          have hml : m ≤ 65536 := by have := HWf.out.1.out; have := HWf.out.1.size; have := congrArg List.length HP.out.2.1; have := HM.out; omega
          have hbx2 : bx < W2.heap.size := (HX2.out.1.lt bx (.inl rfl)).2
          have hne := HX2.out.1.o1
          rw [HM.out] at hne
          have g3 := HX2.out.1.blk.frz 3
          have q0 := HX2.out.2.1.cell (i := 0) rfl
          have q1 := HX2.out.2.1.cell (i := 1) rfl
          have q2 := HX2.out.2.1.cell (i := 2) rfl
          have q3 := HX2.out.2.1.cell (i := 3) rfl
          have q4 := HX2.out.2.1.cell (i := 4) rfl
          have HO : Hid ((W2.alloc (.cells #[.string T, .int .i64 p.f, .int .i64 p.l, .int .i64 p.c, .bool p.fixed] 67)).drew.ownsRow base 67 5 (.slice po m co) m (outCells S1.out)) := Lib.hid (hot.alloc _)
          have hkeep : Hid (∀ g cap w3, App base 67 5 (W2.alloc (.cells #[.string T, .int .i64 p.f, .int .i64 p.l, .int .i64 p.c, .bool p.fixed] 67)).drew (.slice po m co) m 1 (outCells S1.out ++ [.string T, .int .i64 p.f, .int .i64 p.l, .int .i64 p.c, .bool p.fixed]) g cap w3 → w3.heap[bx]? = W2.heap[bx]?) := Lib.hid fun g cap w3 happ =>
            (happ.old (by show bx < (W2.alloc _).heap.size; rw [World.size_alloc]; omega) hne).trans (heap_alloc_old _ _ hbx2)
          have hbase : base ≤ W2.heap.size := by have := HX2.out.1.gx; omega
          have HQ := Lib.hid (And.intro hput hjl)
          have hcase : joins = false ∨ (joins = true ∧ m = 0) ∨ (joins = true ∧ 0 < m ∧ (S1.out.getD (m - 1) default).fixed = true) := by
            cases joins with
            | false => exact .inl rfl
            | true =>
              rcases Nat.eq_zero_or_pos m with h0 | h0
              · exact .inr (.inl ⟨rfl, h0⟩)
              · refine .inr (.inr ⟨rfl, h0, ?_⟩)
                have h := fun hh => hjl ⟨rfl, hh⟩
                have hm := HM.out
                cases hfx : (S1.out.getD (m - 1) default).fixed with
                | true => rfl
                | false => exact absurd (by unfold lastFree; rw [hm, hfx]; simp; omega) h
          have hwx2 : w.heap.size < W2.heap.size := some_lt HX2.out.2.1
          clear hput hjl hot hne
          rcases hcase with rfl | ⟨rfl, hm0⟩ | ⟨rfl, h0, hfx⟩
          · go_upto_region 8 with fail
            go_region_law (refine step_app rfl _ _ 30 rfl TPcs base (.slice _ m co) m _ rfl HO.out W2.heap.size 1 1 _ rfl _ (heap_alloc_new W2 _) rfl rfl (by simp [Value.oneCell']) Nat.one_pos (by omega) (by omega) (by simp; omega) ?_; intro g5 cap5 w5 happ; have e3 := hkeep.out _ _ _ happ; have hc3 := (World.cell?_of_block (a := ⟨bx, 3, none⟩) e3).trans y3; have hf3 := (World.frozen?_of_block (a := ⟨bx, 3, none⟩) e3).trans g3; have H5 := Lib.hid happ; clear happ e3)
            all_goals
              go_wp2_with fail
              go_end0
              have hx1 := HX2.out.1
              rw [HM.out] at hx1
              have hend := hx1.outApp p HM.out (by have h := H5.out; rw [← HT.out] at h; exact h)
              exact ⟨_, rfl, ⟨bm, vt, _, k, D, by rw [HQ.out.1]; exact hend.1, rfl⟩, HX2.out.2.2.2.trans (by rw [HM.out]; exact hend.2)⟩
          · have hm1 : decide (0 < m) = false := by simp; omega
            clear hm0
            go_upto_region 8 with fail
            go_region_law (refine step_app rfl _ _ 30 rfl TPcs base (.slice _ m co) m _ rfl HO.out W2.heap.size 1 1 _ rfl _ (heap_alloc_new W2 _) rfl rfl (by simp [Value.oneCell']) Nat.one_pos (by omega) (by omega) (by simp; omega) ?_; intro g5 cap5 w5 happ; have e3 := hkeep.out _ _ _ happ; have hc3 := (World.cell?_of_block (a := ⟨bx, 3, none⟩) e3).trans y3; have hf3 := (World.frozen?_of_block (a := ⟨bx, 3, none⟩) e3).trans g3; have H5 := Lib.hid happ; clear happ e3)
            all_goals
              go_wp2_with fail
              go_end0
              have hx1 := HX2.out.1
              rw [HM.out] at hx1
              have hend := hx1.outApp p HM.out (by have h := H5.out; rw [← HT.out] at h; exact h)
              exact ⟨_, rfl, ⟨bm, vt, _, k, D, by rw [HQ.out.1]; exact hend.1, rfl⟩, HX2.out.2.2.2.trans (by rw [HM.out]; exact hend.2)⟩
          · obtain ⟨q, hq⟩ : ∃ q, m = q + 1 := ⟨m - 1, by omega⟩
            obtain ⟨g, rfl⟩ : ∃ g, po = some ⟨g, 0, none⟩ := by
              have h := HX2.out.1.ot
              rw [HM.out] at h
              obtain ⟨g, cap, e, _⟩ := h.form h0
              cases e; exact ⟨g, rfl⟩
            have hmq : IntKind.i64.wrap ((m : Int) - 1) = (q : Int) := by rw [i64_of (by omega)]; omega
            have u4 : W2.cell? ⟨g, q * 5 + 4, none⟩ = some (.bool true) := by
              have hot := HX2.out.1.ot
              rw [HM.out] at hot
              rw [hot.cellAt _ (by omega), outCells_at _ _ _ (by have := HM.out; omega) (by decide)]
              show some (Value.bool _) = _
              rw [← hfx, hq, Nat.add_sub_cancel]
            have hm0 : (0 : Int) < (m : Int) := by omega
            have hqm : (q : Int) < (m : Int) := by omega
            clear hq h0 hfx
            go_upto_region 8 with fail
            go_region_law (refine step_app rfl _ _ 30 rfl TPcs base (.slice _ m co) m _ rfl HO.out W2.heap.size 1 1 _ rfl _ (heap_alloc_new W2 _) rfl rfl (by simp [Value.oneCell']) Nat.one_pos (by omega) (by omega) (by simp; omega) ?_; intro g5 cap5 w5 happ; have e3 := hkeep.out _ _ _ happ; have hc3 := (World.cell?_of_block (a := ⟨bx, 3, none⟩) e3).trans y3; have hf3 := (World.frozen?_of_block (a := ⟨bx, 3, none⟩) e3).trans g3; have H5 := Lib.hid happ; clear happ e3)
            all_goals
              go_wp2_with fail
              go_end0
              have hx1 := HX2.out.1
              rw [HM.out] at hx1
              have hend := hx1.outApp p HM.out (by have h := H5.out; rw [← HT.out] at h; exact h)
              exact ⟨_, rfl, ⟨bm, vt, _, k, D, by rw [HQ.out.1]; exact hend.1, rfl⟩, HX2.out.2.2.2.trans (by rw [HM.out]; exact hend.2)⟩
    · have heb : (S.err != 0) = true := by simp [he]
      have HE := Lib.hid he
      clear h hb1 hb2 k1 k2 hbb hX hlt hw hp ht hb he hT x4 g4
      go_enter Tryz.func68, Tryz.ntmps68
      go_wp2_with fail
      go_end0
      exact ⟨_, rfl, ⟨bm, vt, vo, k, D, by rw [putP, if_pos (.inr HE.out)]; exact HX.out.1, rfl⟩, Upd.below HX.out.2.1⟩
end Go.Proofs.YtcjfelndnnhgjaaGreatDoor
namespace Go.Proofs.YtcjfelndnnhgjaaGreatDoor
set_option linter.unusedVariables false
open Go.RowKit Go.Maps

/-! # a file under way -/
structure Cd where
  f : Int
  l : Int
  c : Int
  counts : Bool
  ahead : Bool
  turned : Bool
instance : Inhabited Cd := ⟨⟨0, 0, 0, false, false, false⟩⟩
structure Fs where
  num : Nat
  conds : List Cd
  joins : Bool
def cdCells (p : Cd) : List Value := [.int .i64 p.f, .int .i64 p.l, .int .i64 p.c, .bool p.counts, .bool p.ahead, .bool p.turned]
def condCells (l : List Cd) : List Value := l.flatMap cdCells
theorem condCells_snoc (l : List Cd) (p : Cd) : condCells (l ++ [p]) = condCells l ++ cdCells p := by simp [condCells]
theorem condCells_len (l : List Cd) : (condCells l).length = l.length * 6 := flatMap_len cdCells 6 (fun _ => rfl) l
theorem condCells_at (l : List Cd) (i r : Nat) (hi : i < l.length) (hr : r < 6) : (condCells l)[i * 6 + r]? = (cdCells (l.getD i default))[r]? := by
  unfold condCells
  rw [flatMap_at cdCells 6 (by decide) (fun _ => rfl), show (i * 6 + r) / 6 = i by omega, show (i * 6 + r) % 6 = r by omega, List.getElem?_eq_getElem hi]
  simp [List.getD, List.getElem?_eq_getElem hi]
def countsP (P : Fs) : Bool := decide (P.conds.length = 0) || (P.conds.getD (P.conds.length - 1) default).counts
structure FAt (base bx bf : Nat) (w : World) (P : Fs) (vc : Value) : Prop where
  blk : Blk w bf 86 [.pointer (some ⟨bx, 0, none⟩), .int .i64 ((P.num : Int) + 1), vc, .bool P.joins]
  cs : w.ownsRow base 90 6 vc P.conds.length (condCells P.conds)
  ne : vc.ownBlock ≠ some bf
  gf : base ≤ bf
  bd : P.conds.length ≤ 100000
def fFoot (bf : Nat) (vc : Value) (g : Nat) : Prop := g = bf ∨ vc.ownBlock = some g
def HasF (base bx bf : Nat) (G : Nat → Prop) (w : World) (P : Fs) : Prop := ∃ vc, FAt base bx bf w P vc ∧ G = fFoot bf vc
section
variable {base bx bf : Nat} {G : Nat → Prop} {w w' : World} {P : Fs} {vc : Value}
theorem FAt.lt (h : FAt base bx bf w P vc) : ∀ g, fFoot bf vc g → base ≤ g ∧ g < w.heap.size := by
  rintro g (rfl | hg)
  · exact ⟨h.gf, h.blk.lt⟩
  · exact h.cs.lt g hg
theorem FAt.keep (h : FAt base bx bf w P vc) (hb : ∀ g, fFoot bf vc g → w'.heap[g]? = w.heap[g]?) : FAt base bx bf w' P vc :=
  ⟨(hb bf (.inl rfl)).trans h.blk, ownsRow_keep h.cs (fun g hg => hb g (.inr hg)), h.ne, h.gf, h.bd⟩
theorem FAt.below (h : FAt base bx bf w P vc) (hb : Below w.heap.size w w') : FAt base bx bf w' P vc := h.keep fun g hg => hb.block g (h.lt g hg).2
theorem HasF.lt (h : HasF base bx bf G w P) : ∀ g, G g → base ≤ g ∧ g < w.heap.size := by
  obtain ⟨vc, h, rfl⟩ := h
  exact h.lt
theorem HasF.keep (h : HasF base bx bf G w P) (hb : ∀ g, G g → w'.heap[g]? = w.heap[g]?) : HasF base bx bf G w' P := by
  obtain ⟨vc, h, rfl⟩ := h
  exact ⟨vc, h.keep hb, rfl⟩
theorem HasF.below (h : HasF base bx bf G w P) (hb : Below w.heap.size w w') : HasF base bx bf G w' P := h.keep fun g hg => hb.block g (h.lt g hg).2
end
/-- the expander and a file of it -/
structure HasXF (base bx bf : Nat) (tv : Value) (F G : Nat → Prop) (w : World) (S : Xs) (P : Fs) : Prop where
  x : HasX base bx tv F w S
  f : HasF base bx bf G w P
  dis : ∀ g, G g → ¬ F g
theorem HasXF.below {base bx bf tv F G w S P} {w' : World} (h : HasXF base bx bf tv F G w S P) (hb : Below w.heap.size w w') : HasXF base bx bf tv F G w' S P := ⟨h.x.below hb, h.f.below hb, h.dis⟩
/-- the expander alone went on -/
theorem HasXF.xon {base bx bf tv F F' G w S S' P} {w' : World} (h : HasXF base bx bf tv F G w S P) (hx : HasX base bx tv F' w' S') (hu : Upd F F' w w') : HasXF base bx bf tv F' G w' S' P :=
  ⟨hx, h.f.keep fun g hg => hu.block g (h.f.lt g hg).2 (h.dis g hg), fun g hg hf => (hu.sub g hf).elim (h.dis g hg) fun hl => by have := (h.f.lt g hg).2; omega⟩
theorem Upd.wide {F F' : Nat → Prop} {w w' : World} (h : Upd F F' w w') (G : Nat → Prop) : Upd (fun g => F g ∨ G g) (fun g => F' g ∨ G g) w w' :=
  ⟨h.os, h.tape, h.output, h.size, fun g hg hn => h.block g hg (fun hh => hn (.inl hh)), fun g hg => hg.elim (fun hh => (h.sub g hh).imp .inl id) (fun hh => .inl (.inr hh))⟩
/-- what is below the base stays -/
theorem Upd.low {F F' : Nat → Prop} {w w' : World} {base : Nat} (h : Upd F F' w w') (hF : ∀ g, F g → base ≤ g) (hs : base ≤ w.heap.size) : Below base w w' :=
  ⟨h.os, h.tape, h.output, h.size, fun g hg => h.block g (by omega) (fun hh => by have := hF g hh; omega)⟩
def FR (base bx bf : Nat) (tv : Value) (F G : Nat → Prop) (w : World) (S : Xs) (P : Fs) (v : Value) (e : Ending) (w' : World) : Prop :=
  ∃ F' G', e = .returned v ∧ HasXF base bx bf tv F' G' w' S P ∧ Upd (fun g => F g ∨ G g) (fun g => F' g ∨ G' g) w w'
/-! # place -/
/-- what place's first region keeps -/
def PS (w : World) (bf bx bt n : Nat) (W : World) : Prop :=
  W.cell? ⟨bf, 0, none⟩ = some (.pointer (some ⟨bx, 0, none⟩)) ∧ W.cell? ⟨bf, 1, none⟩ = some (.int .i64 ((n : Int) + 1)) ∧ W.cell? ⟨bx, 0, none⟩ = some (.pointer (some ⟨bt, 0, none⟩)) ∧ Blk W w.heap.size 32 [.int .i64 0, .int .i64 0, .int .i64 0] ∧ Below w.heap.size w W
theorem PS.next {w : World} {bf bx bt n : Nat} {W W' : World} (h : PS w bf bx bt n W) (hb : Below W.heap.size W W') : PS w bf bx bt n W' :=
  ⟨(hb.cell (World.block_lt_of_cell? _ _ h.1)).trans h.1, (hb.cell (World.block_lt_of_cell? _ _ h.2.1)).trans h.2.1, (hb.cell (World.block_lt_of_cell? _ _ h.2.2.1)).trans h.2.2.1, h.2.2.2.1.next hb, h.2.2.2.2.trans (hb.mono h.2.2.2.2.size)⟩
theorem PS.alloc {w : World} {bf bx bt n : Nat} {W : World} (h : PS w bf bx bt n W) (o : Obj) : PS w bf bx bt n (W.alloc o) := h.next (Below.new W o)
theorem PS.set {w : World} {bf bx bt n : Nat} {W : World} (h : PS w bf bx bt n W) {b : Nat} (hb : bf < b ∧ bx < b ∧ w.heap.size < b) (i : Nat) (u : Value) : PS w bf bx bt n (W.setCell ⟨b, i, none⟩ u) :=
  ⟨(World.cell?_setCell_far _ _ _ _ (by simp; omega)).trans h.1, (World.cell?_setCell_far _ _ _ _ (by simp; omega)).trans h.2.1, (World.cell?_setCell_far _ _ _ _ (by simp; omega)).trans h.2.2.1,
    h.2.2.2.1.other (a := ⟨b, i, none⟩) u (by simp; omega), h.2.2.2.2.setCell (show w.heap.size ≤ (⟨b, i, none⟩ : Addr).block from Nat.le_of_lt hb.2.2) u⟩
set_option maxRecDepth 100000 in
set_option maxHeartbeats 4000000 in
theorem place_any {w0 w : World} {bx bf bt : Nat} {ps : List Part} {fs : List Fil} {F G : Nat → Prop} {S : Xs} {P : Fs} (hM : Made w0 bt ps fs) (hl : fs.length ≤ 100000) (h0 : Below w0.heap.size w0 w)
    (h : HasXF w0.heap.size bx bf (.pointer (some ⟨bt, 0, none⟩)) F G w S P) (m : Nat) (T : ByteArray) (hT : (fs.getD P.num default).text = T) (hn : P.num < fs.length) (hm : m ≤ T.size) :
    Calls Tryz.prog 43 #[.pointer (some ⟨bf, 0, none⟩), .int .i64 m] w fun e w' => e = .returned (.agg #[.int .i64 ((P.num : Int) + 1), .int .i64 (plTo T.data.toList m).1, .int .i64 (plTo T.data.toList m).2]) ∧ Below w.heap.size w w' := by
  obtain ⟨q, hq⟩ : ∃ q, plTo T.data.toList m = q := ⟨_, rfl⟩
  rw [hq]
  have HP := Lib.hid (fun (w' : World) (hw : Below w.heap.size w w') => pos_at (hM.below (h0.trans (hw.mono h0.size))) hl P.num m _ rfl hn (by rw [hT]; exact hm))
  rw [hT, hq] at HP
  obtain ⟨vc, hf, hG⟩ := h.f
  obtain ⟨bm, vt, vo, k, D, hx, hF⟩ := h.x
  have hb4 := Below.new w (.cells #[.int .i64 0, .int .i64 0, .int .i64 0] 32)
  have hS : PS w bf bx bt P.num (w.alloc (.cells #[.int .i64 0, .int .i64 0, .int .i64 0] 32)) :=
    ⟨(hb4.cell (p := ⟨bf, 0, none⟩) hf.blk.lt).trans (hf.blk.cell (i := 0) rfl), (hb4.cell (p := ⟨bf, 1, none⟩) hf.blk.lt).trans (hf.blk.cell (i := 1) rfl), (hb4.cell (p := ⟨bx, 0, none⟩) hx.blk.lt).trans (hx.blk.cell (i := 0) rfl), Blk.new _ _, hb4⟩
  obtain ⟨n, hnn⟩ : ∃ n, P.num = n := ⟨_, rfl⟩
  rw [hnn] at hS HP ⊢
  clear h hf hx hG hF hM hq hT hm hn h0 hb4 hnn
  go_enter Tryz.func43, Tryz.ntmps43
  go_upto_region 1 with fail
  have s0 : PS w bf bx bt n (w.alloc (.cells #[.int .i64 0, .int .i64 0, .int .i64 0] 32)).drew := hS.next (Below.refl _ _).drew
  have hlt : bf < (w.alloc (.cells #[.int .i64 0, .int .i64 0, .int .i64 0] 32)).heap.size ∧ bx < (w.alloc (.cells #[.int .i64 0, .int .i64 0, .int .i64 0] 32)).heap.size ∧ w.heap.size < (w.alloc (.cells #[.int .i64 0, .int .i64 0, .int .i64 0] 32)).heap.size :=
    ⟨World.block_lt_of_cell? _ _ hS.1, World.block_lt_of_cell? _ _ hS.2.2.1, hS.2.2.2.1.lt⟩
  have HLt := Lib.hid hlt
  clear hS hlt
  generalize w.alloc (.cells #[.int .i64 0, .int .i64 0, .int .i64 0] 32) = W at *
  unfold PS at s0
  go_region_held3 (fun w' => w'.cell? ⟨bf, 0, none⟩ = some (.pointer (some ⟨bx, 0, none⟩)) ∧ w'.cell? ⟨bf, 1, none⟩ = some (.int .i64 ((n : Int) + 1)) ∧ w'.cell? ⟨bx, 0, none⟩ = some (.pointer (some ⟨bt, 0, none⟩)) ∧ Blk w' w.heap.size 32 [.int .i64 0, .int .i64 0, .int .i64 0] ∧ Below w.heap.size w w')
    (first | assumption | exact PS.alloc s0 _ | exact PS.alloc s6 _ | exact PS.set (PS.set (PS.set s6 HLt.out 0 _) HLt.out 1 _) HLt.out 2 _)
    (first
      | (go_at_call 28; refine (HP.out _ (by first | exact s0.2.2.2.2 | exact (PS.alloc s0 _).2.2.2.2)).mono ?_; rintro e w6 ⟨rfl, hb6⟩; have s6 : PS w bf bx bt n w6 := (by first | exact PS.next s0 hb6 | exact PS.next (PS.alloc s0 _) hb6); unfold PS at s6; have H6 := Lib.hid hb6; (first | (have k6 := (Blk.new (w := W.drew) 32 [.int .i64 0, .int .i64 0, .int .i64 0]).next hb6; have f60 : w6.frozen? ⟨W.heap.size, 0, none⟩ = false := k6.frz 0; have f61 : w6.frozen? ⟨W.heap.size, 1, none⟩ = false := k6.frz 1; have f62 : w6.frozen? ⟨W.heap.size, 2, none⟩ = false := k6.frz 2; have c60 : w6.cell? ⟨W.heap.size, 0, none⟩ = some (.int .i64 0) := k6.cell (i := 0) rfl; have c61 : w6.cell? ⟨W.heap.size, 1, none⟩ = some (.int .i64 0) := k6.cell (i := 1) rfl; have c62 : w6.cell? ⟨W.heap.size, 2, none⟩ = some (.int .i64 0) := k6.cell (i := 2) rfl) | (have f63 := Lib.hid hb6)); clear hb6))
  · have s9 := PS.alloc s6 (.cells #[.int .i64 ((n : Int) + 1), .int .i64 q.1, .int .i64 q.2] 32)
    unfold PS at s9
    have k9 := Blk.new (w := w6) 32 [.int .i64 ((n : Int) + 1), .int .i64 q.1, .int .i64 q.2]
    have k8 := s9.2.2.2.1
    have hb9 := s9.2.2.2.2
    have r0 := k9.cell (i := 0) rfl
    have r1 := k9.cell (i := 1) rfl
    have r2 := k9.cell (i := 2) rfl
    have g0 := k8.frz 0
    have g1 := k8.frz 1
    have g2 := k8.frz 2
    have t0 := k8.cell (i := 0) rfl
    have t1 := k8.cell (i := 1) rfl
    have t2 := k8.cell (i := 2) rfl
    have hk := ((k8.set 0 (.int .i64 ((n : Int) + 1))).set 1 (.int .i64 q.1)).set 2 (.int .i64 q.2)
    have hb := ((hb9.setCell (show w.heap.size ≤ (⟨w.heap.size, 0, none⟩ : Addr).block from Nat.le_refl _) (.int .i64 ((n : Int) + 1))).setCell (show w.heap.size ≤ (⟨w.heap.size, 1, none⟩ : Addr).block from Nat.le_refl _) (.int .i64 q.1)).setCell (show w.heap.size ≤ (⟨w.heap.size, 2, none⟩ : Addr).block from Nat.le_refl _) (.int .i64 q.2)
    have e0 := hk.cell (i := 0) rfl
    have e1 := hk.cell (i := 1) rfl
    have e2 := hk.cell (i := 2) rfl
    have HB := Lib.hid hb
    clear hb hk k8 k9 hb9 s9 s6 s0
    go_wp2_with fail
    exact bodyPost_ret (v := .agg #[.int .i64 ((n : Int) + 1), .int .i64 q.1, .int .i64 q.2]) (by simp [results, Tryz.results43, go_sem, e0, e1, e2]) rfl ⟨rfl, HB.out⟩
  · have s9 := PS.set (PS.set (PS.set s6 HLt.out 0 (.int .i64 ((n : Int) + 1))) HLt.out 1 (.int .i64 q.1)) HLt.out 2 (.int .i64 q.2)
    unfold PS at s9
    have k9 := ((k6.set 0 (.int .i64 ((n : Int) + 1))).set 1 (.int .i64 q.1)).set 2 (.int .i64 q.2)
    have k8 := s9.2.2.2.1
    have hb9 := s9.2.2.2.2
    have r0 := k9.cell (i := 0) rfl
    have r1 := k9.cell (i := 1) rfl
    have r2 := k9.cell (i := 2) rfl
    have g0 := k8.frz 0
    have g1 := k8.frz 1
    have g2 := k8.frz 2
    have t0 := k8.cell (i := 0) rfl
    have t1 := k8.cell (i := 1) rfl
    have t2 := k8.cell (i := 2) rfl
    have hk := ((k8.set 0 (.int .i64 ((n : Int) + 1))).set 1 (.int .i64 q.1)).set 2 (.int .i64 q.2)
    have hb := ((hb9.setCell (show w.heap.size ≤ (⟨w.heap.size, 0, none⟩ : Addr).block from Nat.le_refl _) (.int .i64 ((n : Int) + 1))).setCell (show w.heap.size ≤ (⟨w.heap.size, 1, none⟩ : Addr).block from Nat.le_refl _) (.int .i64 q.1)).setCell (show w.heap.size ≤ (⟨w.heap.size, 2, none⟩ : Addr).block from Nat.le_refl _) (.int .i64 q.2)
    have e0 := hk.cell (i := 0) rfl
    have e1 := hk.cell (i := 1) rfl
    have e2 := hk.cell (i := 2) rfl
    have HB := Lib.hid hb
    clear hb hk k8 k9 hb9 s9 s6 s0
    go_wp2_with fail
    exact bodyPost_ret (v := .agg #[.int .i64 ((n : Int) + 1), .int .i64 q.1, .int .i64 q.2]) (by simp [results, Tryz.results43, go_sem, e0, e1, e2]) rfl ⟨rfl, HB.out⟩
end Go.Proofs.YtcjfelndnnhgjaaGreatDoor
