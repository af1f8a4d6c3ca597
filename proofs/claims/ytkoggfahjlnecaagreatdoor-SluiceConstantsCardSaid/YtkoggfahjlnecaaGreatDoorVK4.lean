
import Derived.Test.YtkoggfahjlnecaaGreatDoorVB8
namespace Go.Proofs.YtkoggfahjlnecaaGreatDoor
set_option linter.unusedVariables false
open Go.RowKit
/-- as fillL, ownsL, but by the list of the kinds: what a walk can lay out -/
def fillC : List Nat → List Oper → List Sp → (Nat → Value) → Nat → Act → Act
  | e :: es, o :: ops, s :: sp, u, j, a => fillC es ops sp u (j + 1) (bif e == 0 then a else a.put o.dst (s.val (u j)))
  | [], _, _, _, _, a => a
  | _ :: _, [], _, _, _, a => a
  | _ :: _, _ :: _, [], _, _, a => a
def ownsC : List Nat → List Sp → (Nat → Value) → Nat → List (Nat × Nat × List Value)
  | e :: es, s :: sp, u, j => (bif e == 0 then [] else s.own (u j)) ++ ownsC es sp u (j + 1)
  | [], _, _, _ => []
  | _ :: _, [], _, _ => []
theorem earlyB_zero (e : Nat) (es : List Nat) : earlyB (e :: es) 0 = !(e == 0) := rfl
theorem earlyB_succ (e : Nat) (es : List Nat) (k : Nat) : earlyB (e :: es) (k + 1) = earlyB es k := rfl
theorem fillC_eq {u : Nat → Value} : ∀ (es : List Nat) (ops : List Oper) (sp : List Sp) (j : Nat) (a : Act) (l : Nat → Bool), (∀ k, l (j + k) = earlyB es k) → fillL l ops sp u j a = fillC es ops sp u j a
  | [], ops, sp, j, a, l, h => by
    rw [fill_congr (l := l) (l' := fun _ => false) (u := u) (u' := u) ops sp j a (fun k hk => by
      have := h (k - j)
      rw [show j + (k - j) = k by omega] at this
      exact this) (fun _ _ => rfl), fill_none ops sp j a (fun _ => rfl)]
    unfold fillC; rfl
  | e :: es, [], sp, j, a, l, h => by simp [fillL, fillC]
  | e :: es, o :: ops, [], j, a, l, h => by simp [fillL, fillC]
  | e :: es, o :: ops, s :: sp, j, a, l, h => by
    simp only [fillL, fillC]
    have h0 := h 0
    rw [Nat.add_zero, earlyB_zero] at h0
    rw [fillC_eq es ops sp (j + 1) _ l (fun k => by
      have := h (k + 1)
      rw [earlyB_succ] at this
      rwa [show j + 1 + k = j + (k + 1) by omega]), h0]
    cases e == 0 <;> simp
theorem ownsC_eq {u : Nat → Value} : ∀ (es : List Nat) (sp : List Sp) (j : Nat) (l : Nat → Bool), (∀ k, l (j + k) = earlyB es k) → ownsL l sp u j = ownsC es sp u j
  | [], sp, j, l, h => by
    rw [owns_congr (l := l) (l' := fun _ => false) (u := u) (u' := u) sp j (fun k hk => by
      have := h (k - j)
      rw [show j + (k - j) = k by omega] at this
      exact this) (fun _ _ => rfl), owns_none sp j (fun _ => rfl)]
    unfold ownsC; rfl
  | e :: es, [], j, l, h => by simp [ownsL, ownsC]
  | e :: es, s :: sp, j, l, h => by
    simp only [ownsL, ownsC]
    have h0 := h 0
    rw [Nat.add_zero, earlyB_zero] at h0
    rw [ownsC_eq es sp (j + 1) l (fun k => by
      have := h (k + 1)
      rw [earlyB_succ] at this
      rwa [show j + 1 + k = j + (k + 1) by omega]), h0]
    cases e == 0 <;> simp
/-- the rule for a drawn region that makes memory, laid out -/
theorem wp_region_webC {P : Program} {id : Nat} {ops : List Oper} {Q : Exit → Act → World → Prop} {a0 : Act} {w0 w : World} (sp : List Sp) (es : List Nat) (base : List (Nat × Nat × List Value)) (size k : Nat) (l1 : Array Bool)
    (hm : P.follows .mixedOrders = true) (hchk : webB ops.toArray es size = true) (hlen : es.length = sp.length) (hk : (early es).length + k = ops.length) (hl : ((List.range ops.length).map (earlyB es)).toArray = l1)
    (hsz : size ≤ a0.tmps.size) (hmono : MonoAll sp) (hT : Tr w0 base w.drew) (hQ : ∀ c a (d : Tmp) v w, Q (.panic c) (a.put (some d) v) w → Q (.panic c) a w) {A : (Nat → Value) → Act} (hA : ∀ u, fillC es ops sp u 0 a0 = A u) (hob : ObAll (WebOb P ops.toArray w0 base sp A) (WebPure P ops.toArray w0 base sp A) es 0)
    (hend : ∀ u w', Tr w0 (ownsC es sp u 0 ++ base) w' → okAll (earlyB es) sp u 0 w' → wpAny P .any ops.toArray Q k l1 (A u) w') : (Code.region id ops.toArray true).wp P Q a0 w :=
  wp_region_web sp es base size k l1 hm hchk hlen hk hl hsz hmono hT hQ (fun u => by rw [fillC_eq es ops sp 0 a0 _ (fun k => by rw [Nat.zero_add])]; exact hA u) hob
    (fun u w' h1 h2 => hend u w' (by rw [← ownsC_eq es sp 0 (earlyB es) (fun k => by rw [Nat.zero_add])]; exact h1) h2)
end Go.Proofs.YtkoggfahjlnecaaGreatDoor
