import Derived.Test.YtmimafbedbohiaaP2
import Derived.Laws.CopyOwn
namespace Go.Proofs.Ytmimafbedbohiaa
set_option linter.unusedVariables false

/-- the number with the words l -/
def valW : List Nat → Nat
  | [] => 0
  | x :: l => x + 2 ^ 64 * valW l
theorem valW_word : ∀ (l : List Nat) (h : ∀ x ∈ l, x < 2 ^ 64) (i : Nat), word (valW l) i = l.getD i 0
  | [], _, i => by simp [valW, word_zero]
  | x :: l, h, 0 => by
    have := h x (by simp)
    rw [valW, word]
    simp only [Nat.mul_zero, Nat.pow_zero, Nat.div_one, List.getD_cons_zero]
    rw [Nat.add_mul_mod_self_left, Nat.mod_eq_of_lt this]
  | x :: l, h, i + 1 => by
    have h1 := h x (by simp)
    have ih := valW_word l (fun y hy => h y (by simp [hy])) i
    rw [List.getD_cons_succ, ← ih, valW, word, word, show 64 * (i + 1) = 64 + 64 * i by omega, Nat.pow_add, ← Nat.div_div_eq_div_mul, Nat.add_mul_div_left _ _ (by decide), Nat.div_eq_of_lt h1, Nat.zero_add]
theorem valW_lt : ∀ (l : List Nat) (h : ∀ x ∈ l, x < 2 ^ 64), valW l < 2 ^ (64 * l.length)
  | [], _ => by decide
  | x :: l, h => by
    have h1 := h x (by simp)
    have ih := valW_lt l (fun y hy => h y (by simp [hy]))
    rw [valW, List.length_cons, Nat.mul_add, Nat.mul_one, Nat.pow_add]
    generalize 2 ^ (64 * l.length) = p at *
    have : valW l + 1 ≤ p := ih
    omega
theorem valW_take (l : List Nat) (h : ∀ x ∈ l, x < 2 ^ 64) (n m : Nat) (hn : n ≤ 64 * m) : valW (l.take m) % 2 ^ n = valW l % 2 ^ n := by
  refine cut_of_words hn fun i hi => ?_
  rw [valW_word _ (fun x hx => h x (List.mem_of_mem_take hx)), valW_word _ h, List.getD, List.getD, List.getElem?_take, if_pos hi]
end Go.Proofs.Ytmimafbedbohiaa
