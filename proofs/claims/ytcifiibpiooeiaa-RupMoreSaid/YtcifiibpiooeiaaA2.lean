import Derived.Test.YtcifiibpiooeiaaS1
import Derived.Test.YtcifiibpiooeiaaA1
import Derived.Test.YtcifiibpiooeiaaP2
import Derived.Sort.OwnSortedInts
namespace Go.Proofs.Ytcifiibpiooeiaa
set_option linter.unusedVariables false
open Go.RowKit Go.Shelf Go.Lib Go.Sort

abbrev Lt := {x : Int // x.natAbs ≤ 1000000000}
instance : Inhabited Lt := ⟨⟨0, by decide⟩⟩
def encL (x : Lt) : Value := .int .i64 x.1
def cfL (x y : Lt) : Int := kcmp x.1 y.1
theorem ltL (x y : Lt) : ltOf cfL x y = decide (klt x.1 y.1) := by
  unfold ltOf cfL
  exact Bool.eq_iff_iff.2 (by simp [kcmp_lt])
theorem swoL : SWO (ltOf cfL) where
  irrefl x := by rw [ltL]; simpa using klt_irrefl x.1
  trans x y z h1 h2 := by rw [ltL] at *; simp at *; exact klt_trans h1 h2
  ntrans x y z h1 h2 := by
    rw [ltL] at *; simp at *
    intro k
    rcases klt_total x.1 y.1 with q | q | q
    · exact h1 q
    · rw [q] at k; exact h2 k
    · exact h2 (klt_trans q k)
theorem oneL : OneCell encL := fun _ => rfl

/-- the list with the bound of each literal -/
def liftL : (l : List Int) → (∀ x ∈ l, x.natAbs ≤ 1000000000) → List Lt
  | [], _ => []
  | x :: l, h => ⟨x, h x (by simp)⟩ :: liftL l fun y hy => h y (by simp [hy])
theorem liftL_val : ∀ (l : List Int) (h), (liftL l h).map (·.1) = l
  | [], _ => rfl
  | x :: l, h => by simp [liftL, liftL_val l]
theorem liftL_len (l : List Int) (h) : (liftL l h).length = l.length := by rw [← List.length_map (f := (·.1)), liftL_val]

theorem bang_map (d : List Lt) (i : Nat) (h : i < d.length) : (d.toArray[i]!).1 = (d.map (·.1)).toArray[i]! := by
  rw [getElem!_pos d.toArray i (by simpa using h), getElem!_pos _ i (by simpa using h)]
  simp
theorem putRow_lift (w : World) (g off : Nat) (d : List Lt) : putRow encL w g off d.toArray = putRow (Value.int .i64) w g off (d.map (·.1)).toArray := by
  unfold putRow
  congr 1
  funext c
  unfold putCells
  apply Array.ext_getElem?
  intro k
  simp only [Array.getElem?_mapIdx]
  cases c[k]? with
  | none => rfl
  | some x =>
    simp only [Option.map_some, Option.some.injEq, List.size_toArray, List.length_map]
    by_cases hk : off ≤ k ∧ k < off + d.length
    · rw [if_pos hk, if_pos hk, ← bang_map d (k - off) (by omega)]; rfl
    · rw [if_neg hk, if_neg hk]
theorem holds_own {w : World} {base e n : Nat} {g cap : Nat} {l : List Int} (h : w.ownsRow base e 1 (.slice (some ⟨g, 0, none⟩) n cap) n (ints l)) : Holds (Value.int .i64) w g 0 l.toArray ∧ base ≤ g ∧ g < w.heap.size ∧ l.length = n ∧ n ≤ cap := by
  obtain ⟨hl, ⟨e, _⟩ | ⟨g', cap', cur, e, hb, hg, h1, h2, h3, h4⟩⟩ := h
  · cases e
  · cases e
    have hlen : l.length = n := by simpa [ints] using hl
    refine ⟨fun j hj => ?_, hb, (Array.getElem?_eq_some_iff.1 hg).1, hlen, h1⟩
    have hj' : j < l.length := by simpa using hj
    have hc : cur[j]? = some (.int .i64 (l.toArray[j]!)) := by
      have := congrArg (·[j]?) h4
      simp only [List.getElem?_take] at this
      rw [if_pos (by omega), Array.getElem?_toList] at this
      rw [this, ints_getElem?, getElem!_pos l.toArray j hj, List.getElem?_eq_getElem hj']
      rfl
    constructor
    · simp [World.cell?, hg, hc]
    · simp [World.frozen?, hg]
theorem holds_lift {w : World} {g off : Nat} {d : List Lt} (h : Holds (Value.int .i64) w g off (d.map (·.1)).toArray) : Holds encL w g off d.toArray := fun j hj => by
  have hj' : j < d.length := by simpa using hj
  have := h j (by simpa using hj')
  rwa [← bang_map d j hj'] at this

set_option maxHeartbeats 1000000 in
/-- SortFunc at a list of the call's own -/
theorem sort_any {w : World} {g cap : Nat} {l : List Int} (hH : Holds (Value.int .i64) w g 0 l.toArray) (hg : g < w.heap.size) (hb : ∀ x ∈ l, x.natAbs ≤ 1000000000) (hn : l.length ≤ 1000000000000) :
    Calls Try.prog 61 #[.slice (some ⟨g, 0, none⟩) l.length cap, .func (.func 62) #[] #[]] w fun e w' => e = .returned (.tuple #[]) ∧ ∃ l' : List Int, l'.length = l.length ∧ Asc l' ∧ (∀ z, z ∈ l' ↔ z ∈ l) ∧ Holds (Value.int .i64) w' g 0 l'.toArray ∧ g < w'.heap.size ∧ w.grownBy w' (some g) := by
  obtain ⟨d, hd⟩ : ∃ d, liftL l hb = d := ⟨_, rfl⟩
  have hv : d.map (·.1) = l := by rw [← hd]; exact liftL_val l hb
  have hlen : d.length = l.length := by rw [← hd]; exact liftL_len l hb
  have eg : ∀ args w, (callFunc 62 args).run Try.prog w = .ok (.enter 62 args) w := enters_of Try.func62 (by kernel_rfl) rfl
  have hHL : Holds encL w g 0 d.toArray := holds_lift (by rw [hv]; exact hH)
  have hcmp : CmpLays1 Try.prog 62 #[] encL cfL g 0 d.toArray.size w := fun m os dk hs x y => by
    refine (cmp_any x.1 y.1 x.2 y.2 _).mono ?_
    rintro e w' ⟨he, o, rfl⟩
    exact ⟨he, 0, #[o], rfl⟩
  have hcon := Try.slices_SortFunc encL oneL cfL swoL 62 #[] g 0 cap d.toArray w eg hcmp hHL hg (by simp; omega)
  rw [show d.toArray.size = l.length by simpa using hlen] at hcon
  refine hcon.mono ?_
  rintro e w' ⟨he, d', n, os, hp, hs, rfl⟩
  obtain ⟨d'⟩ := d'
  obtain ⟨hsz, _, hperm⟩ := hp
  have hd' : d'.length = d.length := by simpa using hsz
  have hperm' : d'.Perm d := by
    simpa [hd', hlen, List.take_of_length_le] using hperm
  have hpm : (d'.map (·.1)).Perm l := by rw [← hv]; exact hperm'.map _
  refine ⟨he, d'.map (·.1), by rw [List.length_map]; omega, ?_, fun z => hpm.mem_iff, ?_, lt_sortWorld _ _ _ _ _ _ _ hg, ?_⟩
  · intro i j hij hj
    have hjd : j < d'.length := by simpa using hj
    have := hs i j (Nat.zero_le _) hij (by omega)
    rw [ltL] at this
    have h2 := of_decide_eq_false this
    rwa [bang_map d' j hjd, bang_map d' i (by omega), getD_bang _ j hj, getD_bang _ i (by omega)] at h2
  · have h1 := holds_sortWorld encL w g 0 n d.toArray d'.toArray os hg hHL (by simpa using hd')
    intro j hj
    have hj' : j < d'.length := by simpa using hj
    have := h1 j (by simpa using hj')
    rw [← bang_map d' j hj']
    exact this
  · unfold sortWorld
    rw [putRow_lift]
    exact grownBy_sortedI _
end Go.Proofs.Ytcifiibpiooeiaa
