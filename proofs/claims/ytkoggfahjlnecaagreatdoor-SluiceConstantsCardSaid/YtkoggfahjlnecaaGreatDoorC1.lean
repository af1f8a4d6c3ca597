import Derived.Test.YtkoggfahjlnecaaGreatDoorVB11
namespace Go.Proofs.YtkoggfahjlnecaaGreatDoor
set_option linter.unusedVariables false
open Go.RowKit

/-! # SluiceConstants plainly: expressions as whole numbers and as 32 bits -/
inductive KE where
  | num (n : Nat)
  | nm
  | bin (o : Nat) (a b : KE)
def KE.size : KE → Nat
  | .num _ => 1
  | .nm => 1
  | .bin _ a b => a.size + b.size + 1
def KE.deep : KE → Nat
  | .num _ => 1
  | .nm => 1
  | .bin _ a b => max a.deep b.deep + 1
def KE.wf : KE → Prop
  | .num n => n < 200
  | .nm => True
  | .bin o a b => o < 7 ∧ a.wf ∧ b.wf
/-- an operator on whole numbers -/
def opI (o : Nat) (x y : Int) : Int :=
  match o with
  | 0 => x + y
  | 1 => x - y
  | 2 => x * y
  | 3 => bits .and .i64 x y
  | 4 => bits .or .i64 x y
  | 5 => bits .xor .i64 x y
  | _ => bits .xor .i64 (-1) (bits .xor .i64 x y)
def fitI (n : Int) : Prop := -2147483648 ≤ n ∧ n ≤ 2147483647
instance (n : Int) : Decidable (fitI n) := by unfold fitI; exact inferInstance
/-- the number, if none on the way is too great -/
def evK (nm : Int) : KE → Option Int
  | .num n => some n
  | .nm => some nm
  | .bin o a b =>
    match evK nm a, evK nm b with
    | some x, some y => if fitI (opI o x y) then some (opI o x y) else none
    | _, _ => none
/-- an operator on 32 bits -/
def opN (o A B : Nat) : Nat :=
  match o with
  | 0 => (A + B + 0) % 2 ^ 32
  | 1 => (A + notN 32 B + 1) % 2 ^ 32
  | 2 => A * B % 2 ^ 32
  | 3 => A &&& B
  | 4 => A ||| B
  | 5 => A ^^^ B
  | _ => notN 32 (A ^^^ B)
def evN (nm : Nat) : KE → Nat
  | .num n => n
  | .nm => nm
  | .bin o a b => opN o (evN nm a) (evN nm b)
theorem fit_some {nm : Int} (h : fitI nm) : ∀ {e : KE}, e.wf → ∀ {v : Int}, evK nm e = some v → fitI v
  | .num n, hw, v, hv => by
    simp only [evK, Option.some.injEq] at hv
    have : n < 200 := hw
    unfold fitI; omega
  | .nm, _, v, hv => by
    simp only [evK, Option.some.injEq] at hv
    subst hv; exact h
  | .bin o a b, _, v, hv => by
    rw [evK] at hv
    split at hv
    · split at hv
      · rename_i hf
        cases hv
        exact hf
      · cases hv
    · cases hv
/-- what a whole number is modulo 2^32 -/
def lo32 (x : Int) : Nat := (x % 4294967296).toNat
theorem lo32_lt (x : Int) : lo32 x < 4294967296 := by unfold lo32; omega
theorem lo32_cast (x : Int) : (lo32 x : Int) = x % 4294967296 := by unfold lo32; omega
theorem toNat64 (x : Int) : (BitVec.ofInt 64 x).toNat % 4294967296 = lo32 x := by
  rw [BitVec.toNat_ofInt]
  unfold lo32
  have : ((2 : Nat) ^ 64 : Nat) = 18446744073709551616 := by decide
  rw [this]
  omega
theorem wrap64 (n : Int) : IntKind.i64.wrap n = if 9223372036854775808 ≤ n % 18446744073709551616 then n % 18446744073709551616 - 18446744073709551616 else n % 18446744073709551616 := by
  unfold IntKind.wrap
  rw [show (2 : Int) ^ IntKind.i64.bits = 18446744073709551616 from by decide, show (2 : Int) ^ (IntKind.i64.bits - 1) = 9223372036854775808 from by decide, show IntKind.i64.signed = true from rfl]
  simp only [Bool.true_and, decide_eq_true_eq, ge_iff_le]
theorem wrap_lo (n : Nat) : lo32 (IntKind.i64.wrap (n : Int)) = n % 4294967296 := by
  rw [wrap64]
  unfold lo32
  split <;> omega
theorem lo_and (x y : Int) : lo32 (bits .and .i64 x y) = lo32 x &&& lo32 y := by
  show lo32 (IntKind.i64.wrap ((BitVec.ofInt 64 x &&& BitVec.ofInt 64 y).toNat : Nat)) = _
  rw [wrap_lo, BitVec.toNat_and, show 4294967296 = 2 ^ 32 from rfl, Nat.and_mod_two_pow, show 2 ^ 32 = 4294967296 from rfl, toNat64, toNat64]
theorem lo_or (x y : Int) : lo32 (bits .or .i64 x y) = lo32 x ||| lo32 y := by
  show lo32 (IntKind.i64.wrap ((BitVec.ofInt 64 x ||| BitVec.ofInt 64 y).toNat : Nat)) = _
  rw [wrap_lo, BitVec.toNat_or, show 4294967296 = 2 ^ 32 from rfl, Nat.or_mod_two_pow, show 2 ^ 32 = 4294967296 from rfl, toNat64, toNat64]
theorem lo_xor (x y : Int) : lo32 (bits .xor .i64 x y) = lo32 x ^^^ lo32 y := by
  show lo32 (IntKind.i64.wrap ((BitVec.ofInt 64 x ^^^ BitVec.ofInt 64 y).toNat : Nat)) = _
  rw [wrap_lo, BitVec.toNat_xor, show 4294967296 = 2 ^ 32 from rfl, Nat.xor_mod_two_pow, show 2 ^ 32 = 4294967296 from rfl, toNat64, toNat64]
theorem ones_xor {a : Nat} (h : a < 4294967296) : 4294967295 ^^^ a = 4294967295 - a := by
  have h1 := congrArg BitVec.toNat (BitVec.allOnes_xor (x := BitVec.ofNat 32 a))
  rw [BitVec.toNat_xor, BitVec.toNat_not, BitVec.toNat_allOnes, BitVec.toNat_ofNat, Nat.mod_eq_of_lt (show a < 2 ^ 32 from h)] at h1
  exact h1
theorem op_lo (o : Nat) (x y : Int) : opN o (lo32 x) (lo32 y) = lo32 (opI o x y) := by
  have hx := lo32_lt x
  have hy := lo32_lt y
  match o with
  | 0 => show (lo32 x + lo32 y + 0) % 4294967296 = lo32 (x + y); unfold lo32; omega
  | 1 => show (lo32 x + (4294967296 - 1 - lo32 y) + 1) % 4294967296 = lo32 (x - y); unfold lo32; omega
  | 2 =>
    show lo32 x * lo32 y % 4294967296 = lo32 (x * y)
    have h : ((lo32 x * lo32 y % 4294967296 : Nat) : Int) = (lo32 (x * y) : Nat) := by
      rw [lo32_cast, Int.natCast_emod, Int.natCast_mul, lo32_cast, lo32_cast]
      exact (Int.mul_emod x y 4294967296).symm
    exact Int.ofNat_inj.1 h
  | 3 => exact (lo_and x y).symm
  | 4 => exact (lo_or x y).symm
  | 5 => exact (lo_xor x y).symm
  | o + 6 =>
    show 4294967296 - 1 - (lo32 x ^^^ lo32 y) = lo32 (bits .xor .i64 (-1) (bits .xor .i64 x y))
    rw [lo_xor, ← lo_xor x y]
    exact (ones_xor (lo32_lt _)).symm
theorem ev_lo {nm : Int} : ∀ {e : KE}, e.wf → ∀ {v : Int}, evK nm e = some v → evN (lo32 nm) e = lo32 v
  | .num n, hw, v, hv => by
    simp only [evK, Option.some.injEq] at hv
    have : n < 200 := hw
    subst hv
    show n = lo32 n
    unfold lo32; omega
  | .nm, _, v, hv => by
    simp only [evK, Option.some.injEq] at hv
    subst hv; rfl
  | .bin o a b, ⟨_, hwa, hwb⟩, v, hv => by
    rw [evK] at hv
    split at hv
    · rename_i x y hx hy
      split at hv
      · cases hv
        rw [evN, ev_lo hwa hx, ev_lo hwb hy, op_lo]
      · cases hv
    · cases hv
theorem opN_lt (o : Nat) {A B : Nat} (hA : A < 4294967296) (hB : B < 4294967296) : opN o A B < 4294967296 := by
  match o with
  | 0 => exact Nat.mod_lt _ (by decide)
  | 1 => exact Nat.mod_lt _ (by decide)
  | 2 => exact Nat.mod_lt _ (by decide)
  | 3 => exact Nat.and_lt_two_pow (n := 32) _ hB
  | 4 => exact Nat.or_lt_two_pow (n := 32) hA hB
  | 5 => exact Nat.xor_lt_two_pow (n := 32) hA hB
  | o + 6 => show 4294967296 - 1 - (A ^^^ B) < 4294967296; omega
theorem evN_lt {nm : Nat} (h : nm < 4294967296) : ∀ {e : KE}, e.wf → evN nm e < 4294967296
  | .num n, hw => by have : n < 200 := hw; show n < 4294967296; omega
  | .nm, _ => h
  | .bin o a b, hw => opN_lt o (evN_lt h hw.2.1) (evN_lt h hw.2.2)
/-- what the law draws -/
def plainN (picks : List Int) (at_ : Nat) : Nat := match picks[at_]? with
  | some v => (max 0 (min v 1048576)).toNat
  | none => 0
def plainK (picks : List Int) : Nat → Nat → KE × Nat
  | at_, 0 => (.num (plainN picks at_ % 200), at_ + 1)
  | at_, d + 1 => if d = 0 ∨ plainN picks at_ % 3 = 0 then (.num (plainN picks at_ % 200), at_ + 1) else
      (.bin (plainN picks at_ % 7) (plainK picks (at_ + 1) d).1 (plainK picks (plainK picks (at_ + 1) d).2 d).1, (plainK picks (plainK picks (at_ + 1) d).2 d).2)
end Go.Proofs.YtkoggfahjlnecaaGreatDoor
