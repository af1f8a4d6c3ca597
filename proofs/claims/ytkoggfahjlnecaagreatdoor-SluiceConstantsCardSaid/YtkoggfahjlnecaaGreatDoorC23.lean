import Derived.Test.YtkoggfahjlnecaaGreatDoorC22
namespace Go.Proofs.YtkoggfahjlnecaaGreatDoor
set_option linter.unusedVariables false
open Go.RowKit Go.Sort

/-! # typed.Nodes of an expression in memory -/
def tsz : KE → Nat
  | .num _ => 1
  | .nm => 1
  | .bin o a b => (if o = 6 then 2 else 1) + (tsz a + tsz b)
theorem Kid.next {bn : Nat} {w w' : World} {p : Option Addr} {i sz : Nat} (h : Kid bn w p i sz) (hu : Upd (One bn) (One bn) w w') : Kid bn w' p i sz := by
  obtain ⟨L, o, k, op, vw, vp, ap, vn, vc, an, ac, h1, h2, h3⟩ := h.ex
  exact ⟨L, o, k, op, vw, vp, ap, vn, vc, an, ac, h1, fun w2 hu2 => h2 w2 (hu.trans hu2), fun w2 m hu2 => h3 w2 m (hu.trans hu2)⟩
theorem kid_of {bn L i : Nat} {w : World} {cs l : List Value} {sz : Nat} (hne : L ≠ bn) (hL : Blk w L 42 l) (hl : ∀ j, j < 9 → l[i * 9 + j]? = cs[j]?) (hf : ∃ (k op vw : Int) (vp ap : Option Addr) (vn vc an ac : Nat), cs = [.int .i64 k, .int .i64 op, .int .i64 32, .int .i64 0, .int .i64 0, .bool false, .int .i64 vw, .slice vp vn vc, .slice ap an ac]) (hw : WalkC bn w cs sz) : Kid bn w (some ⟨L, 0, none⟩) i sz := by
  obtain ⟨k, op, vw, vp, ap, vn, vc, an, ac, rfl⟩ := hf
  refine ⟨L, 0, k, op, vw, vp, ap, vn, vc, an, ac, rfl, fun w' hu j u hj => ?_, hw⟩
  have hj9 : j < 9 := by have := (List.getElem?_eq_some_iff.1 hj).1; simpa using this
  rw [Nat.zero_add]
  exact (hL.upd hu hne).cell ((hl j hj9).trans hj)
theorem walk_const {bn : Nat} {w : World} {p : Option Addr} {c : Nat} : WalkC bn w (constC p c) 1 := fun w' m hu hb hm =>
  (twalk_any (sz := fun _ => 0) (an := 0) hb (by show m + 1 + 0 ≤ 20000; omega) (fun i hi => absurd hi (Nat.not_lt_zero i)) (Nat.zero_le _))
theorem walk_bin {bn L : Nat} {w : World} {op : Int} {ca cb : List Value} {x y : Nat} (hne : L ≠ bn) (hL : Blk w L 42 (ca ++ cb)) (hca : ca.length = 9)
    (fa : ∃ (k op vw : Int) (vp ap : Option Addr) (vn vc an ac : Nat), ca = [.int .i64 k, .int .i64 op, .int .i64 32, .int .i64 0, .int .i64 0, .bool false, .int .i64 vw, .slice vp vn vc, .slice ap an ac]) (fb : ∃ (k op vw : Int) (vp ap : Option Addr) (vn vc an ac : Nat), cb = [.int .i64 k, .int .i64 op, .int .i64 32, .int .i64 0, .int .i64 0, .bool false, .int .i64 vw, .slice vp vn vc, .slice ap an ac])
    (ha : WalkC bn w ca x) (hb : WalkC bn w cb y) : WalkC bn w (binC op L) (1 + (x + y)) := fun w' m hu hbk hm => by
  have h := twalk_any (sz := fun i => if i = 0 then x else y) (k := 7) (op := op) (vw := 0) (vp := none) (vn := 0) (vc := 0) (ap := some ⟨L, 0, none⟩) (an := 2) (ac := 2) hbk (by show m + 1 + (0 + x + y) ≤ 20000; omega)
    (fun i hi => (by
      rcases (show i = 0 ∨ i = 1 by omega) with rfl | rfl
      · exact (kid_of hne hL (i := 0) (fun j hj => by rw [Nat.zero_mul, Nat.zero_add]; exact List.getElem?_append_left (by omega)) fa ha).next hu
      · exact (kid_of hne hL (i := 1) (fun j hj => by rw [List.getElem?_append_right (by omega)]; congr 1; omega) fb hb).next hu)) (Nat.le_refl _)
  rw [show m + (1 + (x + y)) = m + 1 + sumF (fun i => if i = 0 then x else y) 2 from by show _ = m + 1 + (0 + x + y); omega]
  exact h
theorem walk_tx {bn : Nat} {nm : Int} {w : World} : ∀ {e : KE} {cs : List Value}, TX nm (fun k => k ≠ bn) w e cs → WalkC bn w cs (tsz e)
  | .num _, _, ⟨p, c, h1, _⟩ => by rw [h1]; exact walk_const
  | .nm, _, ⟨p, c, h1, _⟩ => by rw [h1]; exact walk_const
  | .bin o a b, cs, ⟨L, ca, cb, h1, h2, h3, h4, h5⟩ => by
    have hb := fun op => walk_bin (op := op) h2 h3 (by obtain ⟨k, op, vw, vp, ap, vn, vc, an, ac, rfl⟩ := h4.form; rfl) h4.form h5.form (walk_tx h4) (walk_tx h5)
    rcases h1 with ⟨ho, rfl⟩ | ⟨rfl, M, rfl, hM, hB⟩
    · unfold tsz; rw [if_neg ho]; exact hb _
    · intro w' m hu hbk hm
      have h := twalk_any (sz := fun _ => 1 + (tsz a + tsz b)) (k := 6) (op := 0) (vw := 0) (vp := none) (vn := 0) (vc := 0) (ap := some ⟨M, 0, none⟩) (an := 1) (ac := 1) hbk (by
          have : m + (2 + (tsz a + tsz b)) ≤ 20000 := hm
          show m + 1 + (0 + (1 + (tsz a + tsz b))) ≤ 20000; omega)
        (fun i hi => (by
          obtain rfl : i = 0 := by omega
          exact (kid_of hM hB (i := 0) (fun j hj => by rw [Nat.zero_mul, Nat.zero_add]) ⟨_, _, _, _, _, _, _, _, _, rfl⟩ (hb 9)).next hu)) (by decide)
      rw [show m + tsz (.bin 6 a b) = m + 1 + sumF (fun _ => 1 + (tsz a + tsz b)) 1 from by show m + (2 + (tsz a + tsz b)) = m + 1 + (0 + (1 + (tsz a + tsz b))); omega]
      exact h
end Go.Proofs.YtkoggfahjlnecaaGreatDoor
