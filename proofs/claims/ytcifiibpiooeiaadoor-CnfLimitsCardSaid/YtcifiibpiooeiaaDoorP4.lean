import Derived.Test.YtcifiibpiooeiaaDoorC4
namespace Go.Proofs.YtcifiibpiooeiaaDoor
set_option linter.unusedVariables false

/-! plain laws of clauses -/
theorem norm_self {l : List Int} (h : SS l) : norm l = l := (norm_eq h fun _ => Iff.rfl).symm
theorem addC_self {v : Nat} {cls : List (List Int)} {l : List Int} (hs : SS l) (hk : ∀ x ∈ l, x ≠ 0 ∧ x.natAbs ≤ v) (ht : taut l = false) (hl : l.length ≤ 1000) (hc : cls.length < 200000) : addC v cls l = (cls ++ [l], 0) := by
  unfold addC
  rw [if_neg (by
    intro h
    obtain ⟨x, hx, hb⟩ := List.any_eq_true.1 h
    have := (known_iff v x).2 (hk x hx)
    simp [this] at hb), if_neg (by omega), if_neg (by rw [ht]; simp), norm_self hs]
theorem WFC.app {v : Nat} {a b : List (List Int)} (ha : WFC v a) (hb : WFC v b) (hn : a.length + b.length ≤ 200000) : WFC v (a ++ b) :=
  ⟨ha.hv, by simpa using hn, fun i hi => by
    by_cases h : i < a.length
    · have : (a ++ b).getD i [] = a.getD i [] := by simp [List.getD, List.getElem?_append_left h]
      rw [this]; exact ha.l i h
    · have : (a ++ b).getD i [] = b.getD (i - a.length) [] := by simp [List.getD, List.getElem?_append_right (Nat.le_of_not_lt h)]
      rw [this]; exact hb.l _ (by simp at hi; omega)⟩
theorem WFC.take {v : Nat} {b : List (List Int)} (hb : WFC v b) (k : Nat) : WFC v (b.take k) :=
  ⟨hb.hv, by have := hb.n; simp; omega, fun i hi => by
    rw [List.length_take] at hi
    have : (b.take k).getD i [] = b.getD i [] := by simp [List.getD, show i < k by omega]
    rw [this]; exact hb.l i (by omega)⟩
theorem addC_next {v : Nat} {a b : List (List Int)} {i : Nat} (ha : WFC v a) (hb : WFC v b) (hn : a.length + b.length < 200000) (hi : i < b.length) : addC v (a ++ b.take i) (b.getD i []) = (a ++ b.take (i + 1), 0) := by
  obtain ⟨h1, h2, h3, h4⟩ := hb.l i hi
  rw [addC_self h1 h2 h3 h4 (by simp; omega), List.take_add_one, List.getElem?_eq_getElem hi]
  simp [List.getD, List.getElem?_eq_getElem hi]
theorem holdsB_app (mb : List Bool) (a b : List (List Int)) : holdsB mb (a ++ b) = (holdsB mb a && holdsB mb b) := by simp [holdsB]
theorem holdsB_nil (mb : List Bool) : holdsB mb [] = true := rfl
/-- what Add does depends on which literals there are alone -/
theorem addC_congr {v : Nat} {cls : List (List Int)} {a b : List Int} (h : ∀ z, z ∈ a ↔ z ∈ b) (ha : a.length ≤ 1000) (hb : b.length ≤ 1000) : addC v cls a = addC v cls b := by
  have hany : (a.any fun x => !(known v x)) = (b.any fun x => !(known v x)) := by
    apply Bool.eq_iff_iff.2
    simp only [List.any_eq_true]
    exact ⟨fun ⟨x, hx, hy⟩ => ⟨x, (h x).1 hx, hy⟩, fun ⟨x, hx, hy⟩ => ⟨x, (h x).2 hx, hy⟩⟩
  have e1 : (1000 < a.length ∨ cls.length = 200000) ↔ (1000 < b.length ∨ cls.length = 200000) := by omega
  unfold addC
  rw [hany, taut_congr h, norm_congr h]
  simp only [e1]
/-- many times the same literal -/
theorem addC_many (k : Nat) (hk : 1 ≤ k) (h : k ≤ 1000) : addC 1 [] (List.replicate k 1) = ([[1]], 0) := by
  rw [addC_congr (b := [1]) (fun z => by simp [List.mem_replicate]; omega) (by simpa using h) (by simp)]
  decide +kernel
theorem addC_long (k : Nat) (h : 1000 < k) : addC 1 [] (List.replicate k 1) = ([], 19) := by
  unfold addC
  rw [if_neg (by
    intro hh
    obtain ⟨x, hx, hb⟩ := List.any_eq_true.1 hh
    obtain rfl := (List.mem_replicate.1 hx).2
    revert hb; decide), if_pos (by simp; omega)]
theorem addC_neg {v : Nat} (hv : 1 ≤ v) : addC v [] [-(v : Int)] = ([[-(v : Int)]], 0) := by
  refine addC_self (l := [-(v : Int)]) (by simp) (fun x hx => ?_) ?_ (by simp) (by simp)
  · simp at hx; subst hx; omega
  · cases ht : taut [-(v : Int)] with
    | false => rfl
    | true => obtain ⟨x, h1, h2⟩ := (taut_iff _).1 ht; simp at h1 h2; omega
theorem addC_above {v : Nat} {cls : List (List Int)} : addC v cls [(v : Int) + 1] = (cls, 3) := by
  unfold addC
  rw [if_pos (List.any_eq_true.2 ⟨(v : Int) + 1, by simp, by
    have : known v ((v : Int) + 1) = false := by
      cases h : known v ((v : Int) + 1) with
      | false => rfl
      | true => have := (known_iff _ _).1 h; omega
    simp [this]⟩)]
theorem addC_zero {v : Nat} {cls : List (List Int)} : addC v cls [0] = (cls, 3) := by
  unfold addC
  rw [if_pos (List.any_eq_true.2 ⟨0, by simp, by simp [known]⟩)]
/-- the places of a turned list are all places -/
theorem turn_place {n : Nat} (hn : 0 < n) (i t : Int) : (((i + t.tmod (n : Int)).tmod n + n).tmod n) = (i + t) % n := by
  have hn' : (0 : Int) < n := by omega
  have h1 : ∀ x : Int, (x.tmod n) % n = x % n := fun x => by
    rw [Int.tmod_eq_emod]
    split
    · simp
    · rw [Int.sub_emod, Int.emod_emod_of_dvd _ (Int.dvd_refl _)]
      simp
  have h2 : (((i + t.tmod (n : Int)).tmod n + n)) % n = (i + t) % n := by
    rw [Int.add_emod, h1, Int.add_emod i, h1, ← Int.add_emod i t]
    simp
  have h3 : 0 ≤ (i + t.tmod (n : Int)).tmod n + n := by
    have := Int.lt_tmod_of_pos (i + t.tmod (n : Int)) hn'
    omega
  rw [Int.tmod_eq_emod_of_nonneg h3, h2]
/-- the turned list, each literal twice -/
def turned (l : List Int) (t : Int) (k : Nat) : List Int := (List.range k).flatMap fun (i : Nat) => [l.getD (((i : Int) + t) % l.length).toNat 0, l.getD (((i : Int) + t) % l.length).toNat 0]
theorem turned_succ (l : List Int) (t : Int) (k : Nat) : turned l t (k + 1) = turned l t k ++ [l.getD (((k : Int) + t) % l.length).toNat 0, l.getD (((k : Int) + t) % l.length).toNat 0] := by
  simp [turned, List.range_succ, List.flatMap_append]
theorem turned_len (l : List Int) (t : Int) : ∀ k, (turned l t k).length = 2 * k
  | 0 => rfl
  | k + 1 => by rw [turned_succ, List.length_append, turned_len l t k]; simp; omega
theorem turned_mem {l : List Int} (t : Int) (z : Int) : z ∈ turned l t l.length ↔ z ∈ l := by
  simp only [turned, List.mem_flatMap, List.mem_range]
  constructor
  · rintro ⟨i, hi, hz⟩
    have h0 : 0 ≤ ((i : Int) + t) % l.length := Int.emod_nonneg _ (by omega)
    have h1 : ((i : Int) + t) % l.length < l.length := Int.emod_lt_of_pos _ (by omega)
    have hlt : (((i : Int) + t) % l.length).toNat < l.length := by omega
    have hz' : z = l.getD (((i : Int) + t) % l.length).toNat 0 := by simpa using hz
    rw [hz', List.getD, List.getElem?_eq_getElem hlt]
    exact List.getElem_mem hlt
  · intro hz
    obtain ⟨j, hj, rfl⟩ := List.getElem_of_mem hz
    have h0 : 0 ≤ ((j : Int) - t) % l.length := Int.emod_nonneg _ (by omega)
    have h1 : ((j : Int) - t) % l.length < l.length := Int.emod_lt_of_pos _ (by omega)
    refine ⟨(((j : Int) - t) % l.length).toNat, by omega, ?_⟩
    have e : (((((j : Int) - t) % l.length).toNat : Int) + t) % l.length = j := by
      rw [Int.toNat_of_nonneg h0, Int.emod_add_emod, Int.sub_add_cancel]
      exact Int.emod_eq_of_lt (by omega) (by omega)
    rw [e]
    simp [List.getD, List.getElem?_eq_getElem hj]
end Go.Proofs.YtcifiibpiooeiaaDoor
