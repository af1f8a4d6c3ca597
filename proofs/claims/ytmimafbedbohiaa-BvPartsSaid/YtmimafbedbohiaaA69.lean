import Derived.Test.YtmimafbedbohiaaA67
import Derived.Test.YtmimafbedbohiaaR6
namespace Go.Proofs.Ytmimafbedbohiaa
set_option linter.unusedVariables false
open Go.RowKit

/-- what Cat gives: the width, the number, the error -/
def catOK (ns xs : Nat → Nat) (m : Nat) : Prop := (catS ns xs (downs m m)).isSome = true ∧ 1 ≤ (catL ns xs (downs m m)).length
theorem catS_pre (ns xs : Nat → Nat) (m k : Nat) (hk : k ≤ m) (h : catS ns xs (downs m k) = none) : catS ns xs (downs m m) = none := by
  obtain ⟨t, ht⟩ : ∃ t, downs m m = downs m k ++ t := by
    refine ⟨(downs m m).drop k, ?_⟩
    have : downs m k = (downs m m).take k := by simp [downs, ← List.map_take, List.take_range, Nat.min_eq_left hk]
    rw [this, List.take_append_drop]
  rw [ht]; exact catS_none _ _ _ _ h
theorem LN.ofBools {w : World} {v : Value} {l : List Bool} (h : RO w v 1 l.length (bools l)) : LN w v l.length (valB l) := by
  refine ⟨fun i => l.getD i false, ?_, rfl⟩
  have : rl l.length (fun i => l.getD i false) = l := by
    apply List.ext_getElem?
    intro j
    rw [rl, List.getElem?_map]
    by_cases hj : j < l.length
    · rw [List.getElem?_range hj]; simp [List.getD, hj]
    · rw [List.getElem?_eq_none (by simp; omega), List.getElem?_eq_none (by omega)]; rfl
  rw [this]; exact h
theorem LN.nil0 (w : World) : LN w (.slice none 0 0) 0 0 := ⟨fun _ => false, ⟨rfl, _, _, rfl, fun j u hj => by simp [rl, bools] at hj⟩, rfl⟩

/-- what the reference's Cat hands back -/
def CatN (w : World) (m : Nat) (ns xs : Nat → Nat) (e : Ending) (w' : World) : Prop :=
  (catOK ns xs m → RetNE w (catL ns xs (downs m m)).length (valB (catL ns xs (downs m m))) 0 e w') ∧ (¬ catOK ns xs m → RetNE w 0 0 2 e w')

set_option maxRecDepth 100000 in
set_option maxHeartbeats 4000000 in
theorem rcat_any {w : World} {b o c : Nat} (m : Nat) (ns xs : Nat → Nat) (sl : Nat → Option Addr × Nat) (hm : (m : Int) ≤ 100)
    (hL : ∀ j, j < m → w.cell? ⟨b, o + j, none⟩ = some (.slice (sl j).1 (ns j) (sl j).2)) (hb : b < w.heap.size)
    (hv : ∀ j, j < m → RO w (.slice (sl j).1 (ns j) (sl j).2) 1 (ns j) (bools (bitsOf (ns j) (xs j)))) (hns : ∀ j, j < m → ns j ≤ 140) :
    Calls Try.prog 39 #[.slice (some ⟨b, o, none⟩) m c] w (CatN w m ns xs) := by
  have HL := Lib.hid hL
  have HV := Lib.hid hv
  have HN := Lib.hid hns
  have HB := Lib.hid hb
  clear hL hv hns hb
  have hmw : IntKind.i64.wrap ((m : Int) - 1) = (m : Int) - 1 := IntWalk.i64_in _ (by omega)
  go_enter Try.func39, Try.ntmps39
  go_wp2_with fail
  go_loopw [4, 5] (fun v i wr => ∃ k : Nat, k ≤ m ∧ i = .int .i64 ((m : Int) - 1 - k) ∧ wr.ownsRow w.heap.size 4 1 v (catL ns xs (downs m k)).length (bools (catL ns xs (downs m k))) ∧ (catS ns xs (downs m k)).isSome = true ∧ Below w.heap.size w wr) (fun _ i _ => (intOf i + 1).toNat)
  case atStart => exact ⟨0, Nat.zero_le _, by simp, World.ownsRow_nil _ _ _ _, rfl, Below.refl _ _⟩
  case round =>
    obtain ⟨k, hk, rfl, row, ok, hbel⟩ := hrel
    obtain ⟨pv, cv, rfl⟩ := ownsRow_form row
    have hle := catL_le ns xs (downs m k)
    by_cases hlt : k < m
    · obtain ⟨j, hj⟩ : ∃ j, j = m - 1 - k := ⟨_, rfl⟩
      have hjl : j < m := by omega
      have hje : (m : Int) - 1 - k = (j : Int) := by omega
      have hc := (hbel.cell (p := ⟨b, o + j, none⟩) HB.out).trans (HL.out j hjl)
      have hmiss := catS_miss (ns := ns) (xs := xs) (l := downs m k) (j := j)
      have hhit := catS_hit (xs := xs) (j := j) ok
      have hds := downs_succ m k
      rw [← hj] at hds
      have hvj := (HV.out j hjl).below hbel
      have hnj := HN.out j hjl
      obtain ⟨nn, hnn⟩ : ∃ nn, ns j = nn := ⟨_, rfl⟩
      obtain ⟨al, hal⟩ : ∃ al, catL ns xs (downs m k) = al := ⟨_, rfl⟩
      obtain ⟨K, hKe⟩ : ∃ K, al.length = K := ⟨_, rfl⟩
      obtain ⟨sp, hsp⟩ : ∃ sp, (sl j).1 = sp := ⟨_, rfl⟩
      obtain ⟨sc, hsc⟩ : ∃ sc, (sl j).2 = sc := ⟨_, rfl⟩
      simp only [hnn, hal, hKe, hsp, hsc] at hc hmiss hhit hvj hnj row hle ⊢
      have H1 := Lib.hid (And.intro hmiss (And.intro hhit (And.intro hds hvj)))
      have H2 := Lib.hid (And.intro hj (And.intro hk hlt))
      have H3 := Lib.hid (And.intro row (And.intro hbel (And.intro hal hKe)))
      have hjn : (0 : Int) ≤ (j : Int) := by omega
      have hjm : (j : Int) < (m : Int) := by omega
      have hwj : IntKind.i64.wrap ((j : Int) - 1) = (j : Int) - 1 := IntWalk.i64_in _ (by omega)
      have H4 := Lib.hid (And.intro hle hnj)
      rw [hje]
      clear hmiss hhit hds hvj hj hk hlt row hbel hal hKe hsp hsc hnn ok hle hje hnj
      by_cases hz : nn = 0
      · have hzi : ((nn : Int) == 0) = true := by simp [hz]
        go_wp2_with fail
        go_ret2
        refine ⟨fun h => absurd h.1 ?_, fun _ => ⟨_, rfl, LN.nil0 _, H3.out.2.1⟩⟩
        rw [catS_pre ns xs m (k + 1) (by have := H2.out; omega) (by rw [H1.out.2.2.1]; exact H1.out.1 (by omega))]; simp
      · have hzi : ((nn : Int) == 0) = false := by simp [hz]
        have HZ := Lib.hid hz
        by_cases hg : K + nn ≤ 128
        · have hgi : (K : Int) + (nn : Int) ≤ 128 := by omega
          have HG := Lib.hid hg
          clear hg
          go_wp2_with (at_builtin; refine wpList_appR rfl _ _ 35 rfl Try.T35 w.heap.size (.slice pv K cv) K _ rfl H3.out.1 _ nn _ rfl H1.out.2.2.2 (bools_one _) (by have := H4.out; omega) (by have := H4.out; omega) H3.out.2.1.size ?_; intro v2 w2 happ; have HA2 := Lib.hid (And.intro happ.own (happ.below H3.out.2.1 H3.out.2.1.size (fun k hk => (H3.out.1.lt k hk).1))); obtain ⟨p2, c2, ev2⟩ := ownsRow_form happ.own; subst ev2; clear happ)
          have hT := H1.out.2.1 (by have := HZ.out; omega) HG.out
          go_roundw
          case rel =>
            refine ⟨k + 1, H2.out.2.2, by have := H2.out; congr 1; omega, ?_, by rw [H1.out.2.2.1]; exact hT.1, HA2.out.2⟩
            rw [H1.out.2.2.1, hT.2, ← bools_append, List.length_append, bitsOf_length, H3.out.2.2.2]
            exact HA2.out.1
          case measure => simp [intOf]
        · have hgi : (128 : Int) < (K : Int) + (nn : Int) := by omega
          have HG := Lib.hid hg
          clear hg
          go_wp2_with (at_builtin; refine wpList_appR rfl _ _ 35 rfl Try.T35 w.heap.size (.slice pv K cv) K _ rfl H3.out.1 _ nn _ rfl H1.out.2.2.2 (bools_one _) (by have := H4.out; omega) (by have := H4.out; omega) H3.out.2.1.size ?_; intro v2 w2 happ; have HA2 := Lib.hid (And.intro happ.own (happ.below H3.out.2.1 H3.out.2.1.size (fun k hk => (H3.out.1.lt k hk).1))); obtain ⟨p2, c2, ev2⟩ := ownsRow_form happ.own; subst ev2; clear happ)
          go_ret2
          refine ⟨fun h => absurd h.1 ?_, fun _ => ⟨_, rfl, LN.nil0 _, HA2.out.2⟩⟩
          rw [catS_pre ns xs m (k + 1) (by have := H2.out; omega) (by rw [H1.out.2.2.1]; exact H1.out.1 (fun h => HG.out h.2))]; simp
    · obtain rfl : k = m := by omega
      obtain ⟨al, hal⟩ : ∃ al, catL ns xs (downs k k) = al := ⟨_, rfl⟩
      obtain ⟨K, hK⟩ : ∃ K, al.length = K := ⟨_, rfl⟩
      simp only [hal, hK] at row
      have H3 := Lib.hid (And.intro row (And.intro hbel (And.intro hal (And.intro hK ok))))
      have hke : (k : Int) - 1 - k = -1 := by omega
      rw [hke, hal, hK]
      clear row hbel hal hK ok hlt hle
      by_cases h0 : K = 0
      · have h0i : ((K : Int) == 0) = true := by simp [h0]
        have h00 := Lib.hid h0
        go_wp2_with fail
        go_ret2
        refine ⟨fun h => absurd h.2 (by rw [H3.out.2.2.1, H3.out.2.2.2.1, h00.out]; decide), fun _ => ⟨_, rfl, LN.nil0 _, H3.out.2.1⟩⟩
      · have h0i : ((K : Int) == 0) = false := by simp [h0]
        have h00 := Lib.hid h0
        go_wp2_with fail
        go_ret2
        refine ⟨fun h => ⟨_, rfl, ?_, H3.out.2.1⟩, fun h => absurd ⟨H3.out.2.2.2.2, ?_⟩ h⟩
        · rw [H3.out.2.2.1]
          refine LN.ofBools ?_
          rw [H3.out.2.2.2.1]; exact RO.own H3.out.1
        · rw [H3.out.2.2.1, H3.out.2.2.2.1]; have := h00.out; omega
end Go.Proofs.Ytmimafbedbohiaa
