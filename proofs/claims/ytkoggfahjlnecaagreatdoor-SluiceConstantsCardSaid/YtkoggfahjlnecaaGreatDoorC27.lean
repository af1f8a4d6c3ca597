import Derived.Test.YtkoggfahjlnecaaGreatDoorC26
import Derived.Test.YtkoggfahjlnecaaGreatDoorVB10
namespace Go.Proofs.YtkoggfahjlnecaaGreatDoor
set_option linter.unusedVariables false
open Go.RowKit Go.Sort

/-! # typed.Eval of an expression in memory -/
theorem bin_call {o : Nat} (ho : o < 6) {W : World} {va vb : Value} {x y : Nat} (hA : VR W va 32 x) (hB : VR W vb 32 y) : Calls Tryz.prog 47 #[.int .i64 (opB o), va, vb] W (RetE W 32 (opN o x y) 0) := by
  match o, ho with
  | 0, _ => exact bin_0 hA hB (by decide)
  | 1, _ => exact bin_1 hA hB (by decide)
  | 2, _ => exact bin_2 hA hB (by decide)
  | 3, _ => exact bin_7 hA hB (by decide)
  | 4, _ => exact bin_8 hA hB (by decide)
  | 5, _ => exact bin_9 hA hB (by decide)
theorem TX.wx {nm : Int} {A : Nat → Prop} {w : World} {e : KE} {cs : List Value} (h : TX nm A w e cs) {W : World} (hb : Below w.heap.size w W) : TX nm A W e cs := h.turn fun k hk hl => ⟨hk, hb.block k hl⟩
theorem rng_of {w W : World} {L i : Nat} {l cs : List Value} (hL : Blk w L 42 l) (hb : Below w.heap.size w W) (hl : ∀ j, j < 9 → l[i + j]? = cs[j]?) (hc : cs.length = 9) : W.rangeAt L i cs := fun j u hj => by
  have hj9 : j < 9 := by have := (List.getElem?_eq_some_iff.1 hj).1; omega
  exact (hL.next hb).cell ((hl j hj9).trans hj)
/-- Eval from every later world -/
def EvAll (B : Nat) (w : World) (s : Value) (cs : List Value) (y : Nat) : Prop := ∀ W : World, Below w.heap.size w W → Calls Tryz.prog 9 #[.agg cs.toArray, s] W (EvalR B W y)
theorem EvAll.next {B : Nat} {w W : World} {s : Value} {cs : List Value} {y : Nat} (h : EvAll B w s cs y) (hb : Below w.heap.size w W) : EvAll B W s cs y := fun W' hb' => h W' (Below.next hb hb')
def Frm (cs : List Value) : Prop := ∃ (k op vw : Int) (vp ap : Option Addr) (vn vc an ac : Nat), cs = [.int .i64 k, .int .i64 op, .int .i64 32, .int .i64 0, .int .i64 0, .bool false, .int .i64 vw, .slice vp vn vc, .slice ap an ac]
theorem eval_bin {B L : Nat} {w : World} {s : Value} {op : Int} {ca cb : List Value} {x y z : Nat} (hB : B ≤ w.heap.size) (hL : Blk w L 42 (ca ++ cb)) (fa : Frm ca) (fb : Frm cb) (ha : EvAll B w s ca x) (hb : EvAll B w s cb y)
    (hop : ∀ (W : World) (va vb : Value), VR W va 32 x → VR W vb 32 y → Calls Tryz.prog 47 #[.int .i64 op, va, vb] W (RetE W 32 z 0)) : EvAll B w s (binC op L) z := by
  obtain ⟨k0, op0, vw0, vp0, ap0, vn0, vc0, an0, ac0, rfl⟩ := fa
  obtain ⟨k1, op1, vw1, vp1, ap1, vn1, vc1, an1, ac1, rfl⟩ := fb
  intro W hW
  refine eval_node2 (Nat.le_trans hB hW.size) (fun W' hb' => rng_of hL (Below.next hW hb') (fun j hj => by rw [Nat.zero_add]; exact List.getElem?_append_left hj) rfl) (ha.next hW) (fun W' hb' => rng_of hL (Below.next hW hb') (fun j hj => by rw [List.getElem?_append_right (by show 9 ≤ 9 + j; omega)]; congr 1; show 9 + j - 9 = j; omega) rfl) (hb.next hW) ?_
  intro W' L' p0 p1 c0 c1 hb' hL' hv0 hv1
  exact tval_bin hL' fun W2 hb2 => hop W2 _ _ (hv0.below hb2) (hv1.below hb2)
theorem eval_not {B M : Nat} {w : World} {s : Value} {ca : List Value} {x : Nat} (hB : B ≤ w.heap.size) (hL : Blk w M 42 ca) (fa : Frm ca) (ha : EvAll B w s ca x) : EvAll B w s (notC M) (notN 32 x) := by
  obtain ⟨k0, op0, vw0, vp0, ap0, vn0, vc0, an0, ac0, rfl⟩ := fa
  intro W hW
  refine eval_node1 (Nat.le_trans hB hW.size) (fun W' hb' => rng_of hL (Below.next hW hb') (fun j hj => by rw [Nat.zero_add]) rfl) (ha.next hW) ?_
  intro W' L' p0 c0 hb' hL' hv0
  exact tval_un hL' fun W2 hb2 => un_0 (hv0.below hb2) (by decide)
theorem eval_tx {nm : Int} {B : Nat} {s : Value} {w : World} (hB : B ≤ w.heap.size) : ∀ {e : KE}, e.wf → ∀ {cs : List Value}, TX nm (fun k => k < B) w e cs → EvAll B w s cs (evN (lo32 nm) e)
  | .num n, _, cs, ⟨p, c, h1, h2⟩ => by
    subst h1
    exact fun W hW => eval_const (h2.turn fun k hk hl => ⟨hk, hW.block k hl⟩) (Nat.le_trans hB hW.size)
  | .nm, _, cs, ⟨p, c, h1, h2⟩ => by
    subst h1
    exact fun W hW => eval_const (h2.turn fun k hk hl => ⟨hk, hW.block k hl⟩) (Nat.le_trans hB hW.size)
  | .bin o a b, ⟨ho, hwa, hwb⟩, cs, ⟨L, ca, cb, h1, h2, h3, h4, h5⟩ => by
    have ia := eval_tx (s := s) hB hwa h4
    have ib := eval_tx (s := s) hB hwb h5
    rcases h1 with ⟨h6, rfl⟩ | ⟨rfl, M, rfl, h7, h8⟩
    · exact eval_bin hB h3 h4.form h5.form ia ib fun W va vb hA hB => bin_call (by omega) hA hB
    · refine eval_not hB h8 ⟨_, _, _, _, _, _, _, _, _, rfl⟩ (eval_bin hB h3 h4.form h5.form ia ib fun W va vb hA hB => ?_)
      exact bin_9 hA hB (by decide)
end Go.Proofs.YtkoggfahjlnecaaGreatDoor
