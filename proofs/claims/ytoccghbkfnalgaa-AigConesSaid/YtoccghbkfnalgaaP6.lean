import Derived.Test.YtoccghbkfnalgaaP5
namespace Go.Proofs.Ytoccghbkfnalgaa
set_option linter.unusedVariables false

theorem evIn_other (N : Nat) (inputs : List Int) (ins : List Bool) (n : Nat) : ∀ k, (∀ i, i < k → (inputs.getD i 0).toNat ≠ n) → (evInTo N inputs ins k).getD n false = false
  | 0, _ => by simp [evInTo, List.getD, List.getElem?_replicate]; split <;> rfl
  | k + 1, h => by
    rw [evInTo, getD_set, if_neg (fun hh => h k (by omega) hh.1)]
    exact evIn_other N inputs ins n k (fun i hi => h i (by omega))

theorem evIn_at (g : G) (hw : WF g) (ins : List Bool) : ∀ k, k ≤ g.inputs.length → ∀ i, i < k → (evInTo g.nodes.length g.inputs ins k).getD (g.inputs.getD i 0).toNat false = ins.getD i false
  | 0, _, i, hi => by omega
  | k + 1, hk, i, hi => by
    obtain ⟨k1, k2, _⟩ := hw.inp k (by omega)
    rw [evInTo, getD_set]
    by_cases e : i = k
    · subst e
      rw [if_pos ⟨rfl, by rw [evInTo_length]; omega⟩]
    · have := hw.mono i k (by omega) (by omega)
      have := (hw.inp i (by omega)).1
      rw [if_neg (by omega)]
      exact evIn_at g hw ins k (by omega) i (by omega)

theorem evNode_other (nodes : List (Int × Int)) (out : List Bool) (n : Nat) : ∀ k, (k ≤ n ∨ (nodes.getD n (0, 0)).1 = -1) → (evNodeTo nodes out k).getD n false = out.getD n false
  | 0, _ => rfl
  | k + 1, h => by
    rw [evNodeTo_succ]
    split
    · exact evNode_other nodes out n k (by rcases h with h | h; left; omega; exact .inr h)
    · rename_i hne
      have hkn : k ≠ n := by
        rintro rfl
        rcases h with h | h
        · omega
        · exact hne h
      rw [getD_set, if_neg (fun hh => hkn hh.1)]
      exact evNode_other nodes out n k (by rcases h with h | h; left; omega; exact .inr h)

theorem evNode_stay (nodes : List (Int × Int)) (out : List Bool) (n : Nat) : ∀ k j, n < k → k ≤ j → (evNodeTo nodes out j).getD n false = (evNodeTo nodes out k).getD n false
  | k, 0, _, h => by obtain rfl : k = 0 := by omega
                     rfl
  | k, j + 1, hn, h => by
    by_cases e : k = j + 1
    · subst e; rfl
    · rw [← evNode_stay nodes out n k j hn (by omega), evNodeTo_succ]
      split
      · rfl
      · rw [getD_set, if_neg (by omega)]

theorem isV_congr {V W : List Bool} {l : Int} (hl : V.length = W.length) (h : V.getD (l / 2).toNat false = W.getD (l / 2).toNat false) : isV V l = isV W l := by
  unfold isV; rw [hl, h]

theorem eval_valu (g : G) (hw : WF g) (ins : List Bool) : Valu (gEval g ins) ins g ∧ (gEval g ins).length = g.nodes.length := by
  have hlen : (gEval g ins).length = g.nodes.length := by rw [gEval, evNodeTo_length, evInTo_length]
  refine ⟨⟨by omega, ?_, ?_, ?_⟩, hlen⟩
  · rw [gEval, evNode_other _ _ _ _ (.inr hw.zero)]
    exact evIn_other _ _ _ _ _ (fun i hi => by have := (hw.inp i hi).1; omega)
  · intro n hn hne
    obtain ⟨h1, h2, h3, _⟩ := hw.node n hn hne
    have hs : (gEval g ins).getD n false = (evNodeTo g.nodes (evInTo g.nodes.length g.inputs ins g.inputs.length) (n + 1)).getD n false := evNode_stay _ _ _ _ _ (by omega) (by omega)
    rw [hs, evNodeTo_succ, if_neg hne, getD_set, if_pos ⟨rfl, by rw [evNodeTo_length, evInTo_length]; omega⟩]
    have hc : ∀ l : Int, 0 ≤ l → l / 2 < n → isV (evNodeTo g.nodes (evInTo g.nodes.length g.inputs ins g.inputs.length) n) l = isV (gEval g ins) l := by
      intro l h0 hl
      exact isV_congr (by rw [hlen, evNodeTo_length, evInTo_length]) (evNode_stay _ _ _ _ _ (by omega) (by omega)).symm
    rw [hc _ (by omega) (by omega), hc _ (by omega) (by omega)]
  · intro i hi
    obtain ⟨h1, h2, h3⟩ := hw.inp i hi
    rw [gEval, evNode_other _ _ _ _ (.inr h3)]
    exact evIn_at g hw ins _ (Nat.le_refl _) i hi

/-- the law of means, plain -/
theorem means (acts : List Actn) (ins : List Bool) (k : Nat) (hk : k < acts.length) (L : List Int) (hL : (buildTo acts acts.length).2 = L) :
    isV (gEval (buildTo acts acts.length).1 ins) (L.getD k 0) = (refTo acts ins acts.length).1.getD k false ∧ (buildTo acts acts.length).1.lit (L.getD k 0) := by
  subst hL
  have hv := eval_valu (buildTo acts acts.length).1 (build_wf acts _) ins
  have hb := build_val acts _ ins acts.length hv.1
  have hl := (build_inv acts acts.length)
  refine ⟨?_, ?_⟩
  · rw [← hb.1, List.getD, List.getD, List.getElem?_map, List.getElem?_eq_getElem (by rw [hl.len]; omega)]; rfl
  · rw [List.getD, List.getElem?_eq_getElem (by rw [hl.len]; omega)]
    exact hl.lit _ (List.getElem_mem _)
end Go.Proofs.Ytoccghbkfnalgaa
