import Derived.Test.YtcdjkbgedmehjaaDoorV24
import Derived.Test.YtcdjkbgedmehjaaDoorP5
namespace Go.Proofs.YtcdjkbgedmehjaaDoor
set_option linter.unusedVariables false
open Go.RowKit Go.Sort

/-! # VcdMany: the trace under way -/
inductive K3 where | v | l | t
deriving DecidableEq
def kt3 : K3 → Nat
  | .v => 30
  | .l => 33
  | .t => 27
def ks3 : K3 → Nat
  | .v => 2
  | .l => 2
  | .t => 1
def R3 (vs : List (Bs × Nat)) (es : List VecE) (k : Nat) (vv lv tv : Value) : K3 → RowV
  | .v => (vv, vs.length, tokCells vs)
  | .l => (lv, es.length, rowCells es)
  | .t => (tv, k, List.replicate k lv)
def Sep3 (N : Nat) (R : K3 → RowV) (b : Nat) (v : Value) : Prop := ∀ k p m c bo o, v = .agg #[k, .slice p m c] → p = some ⟨bo, o, none⟩ → bo < N ∧ bo ≠ b ∧ ∀ q, (R q).1.ownBlock ≠ some bo
/-- the rows, in memory -/
structure M3 (base b : Nat) (w : World) (R : K3 → RowV) (es : List VecE) : Prop where
  mem : Mem kt3 ks3 base b w R
  vec : ∀ e ∈ es, 0 < e.w ∧ VR w (vecV e) e.w e.x ∧ Sep3 w.heap.size R b (vecV e)
section
variable {base b : Nat} {w w1 w' : World} {R R' : K3 → RowV} {es : List VecE}
theorem Sep3.turn {N N' : Nat} {v : Value} (h : Sep3 N R b v) (hN : N ≤ N') (hown : ∀ q g, (R' q).1.ownBlock = some g → (∃ q', (R q').1.ownBlock = some g) ∨ N ≤ g) : Sep3 N' R' b v := fun k p m c bo o e hp => by
  obtain ⟨h1, h2, h3⟩ := h k p m c bo o e hp
  refine ⟨Nat.lt_of_lt_of_le h1 hN, h2, fun q e' => ?_⟩
  rcases hown q bo e' with ⟨q', e''⟩ | hge
  · exact h3 q' e''
  · omega
theorem Sep3.vr {v : Value} {n x : Nat} (hs : Sep3 w.heap.size R b v) (hv : VR w v n x) (hold : ∀ g, g < w.heap.size → g ≠ b → (∀ q, (R q).1.ownBlock ≠ some g) → w'.heap[g]? = w.heap[g]?) : VR w' v n x :=
  hv.keepB fun k p m c bo o e hp hlt => hold bo hlt (hs k p m c bo o e hp).2.1 (hs k p m c bo o e hp).2.2
theorem M3.below (h : M3 base b w R es) (hb : Below w.heap.size w w') : M3 base b w' R es :=
  ⟨h.mem.below hb, fun e he => ⟨(h.vec e he).1, (h.vec e he).2.1.below hb, (h.vec e he).2.2.turn hb.size fun q g hg => .inl ⟨q, hg⟩⟩⟩
/-- a row was appended to -/
theorem M3.app (h : M3 base b w R es) (q : K3) {v' : Value} {n : Nat} {xs : List Value} (ha : AppR base (kt3 q) (ks3 q) w (R q).1 n xs v' w1) : M3 base b w1 (upd R q (v', n, xs)) es := by
  refine ⟨h.mem.app q ha, fun e he => ?_⟩
  obtain ⟨a1, a2, a3⟩ := h.vec e he
  refine ⟨a1, a3.vr a2 fun g hg hgb hq => ha.grown.block g hg (Ne.symm (hq q)), a3.turn ha.grown.size fun k g hg => ?_⟩
  by_cases hk : k = q
  · subst hk
    rw [upd_same] at hg
    rcases ha.at_ with e' | e'
    · rw [e'] at hg; exact .inl ⟨k, hg⟩
    · rw [e'] at hg; cases hg; exact .inr (Nat.le_refl _)
  · rw [upd_other _ _ hk] at hg; exact .inl ⟨k, hg⟩
theorem M3.box (h : M3 base b w R es) (i : Nat) (u : Value) : M3 base b (w.setCell ⟨b, i, none⟩ u) R es := by
  refine ⟨h.mem.keep (by simp) fun q g hg => Below.heap_setCell _ _ _ _ (fun e => h.mem.nb q (by rw [hg, e])), fun e he => ?_⟩
  obtain ⟨a1, a2, a3⟩ := h.vec e he
  exact ⟨a1, a3.vr a2 fun g _ hgb _ => Below.heap_setCell _ _ _ _ hgb, a3.turn (by simp) fun q g hg => .inl ⟨q, hg⟩⟩
theorem M3.more (h : M3 base b w R es) {e : VecE} (hv : VR w' (vecV e) e.w e.x) (hn : 0 < e.w) (hf : Far w (vecV e)) (hb : Below w.heap.size w w') : M3 base b w' R (es ++ [e]) := by
  have h' := h.below hb
  refine ⟨h'.mem, fun x hx => ?_⟩
  rcases List.mem_append.1 hx with hx | hx
  · exact h'.vec x hx
  · simp only [List.mem_cons, List.not_mem_nil, or_false] at hx
    subst hx
    refine ⟨hn, hv, fun k p m c bo o e' hp => ?_⟩
    have hge := hf k p m c bo o e' hp
    exact ⟨hv.lts hn k p m c bo o e' hp, by have := h.mem.lt; omega, fun q e'' => by have := (h.mem.lts q bo e'').2; omega⟩
end
theorem R3_v (vs vs' : List (Bs × Nat)) (es : List VecE) (k : Nat) (vv lv tv vv' : Value) : upd (R3 vs es k vv lv tv) .v (vv', vs'.length, tokCells vs') = R3 vs' es k vv' lv tv := by funext q; cases q <;> simp [upd, R3]
theorem R3_l (vs : List (Bs × Nat)) (es es' : List VecE) (vv lv tv lv' : Value) : upd (R3 vs es 0 vv lv tv) .l (lv', es'.length, rowCells es') = R3 vs es' 0 vv lv' tv := by funext q; cases q <;> simp [upd, R3]
theorem R3_t (vs : List (Bs × Nat)) (es : List VecE) (k k' : Nat) (vv lv tv tv' : Value) : upd (R3 vs es k vv lv tv) .t (tv', k', List.replicate k' lv) = R3 vs es k' vv lv tv' := by funext q; cases q <;> simp [upd, R3]
/-- what the loops keep -/
structure LS (BT : Nat) (W1 w : World) (vs : List (Bs × Nat)) (es : List VecE) (k : Nat) (vv lv tv : Value) : Prop where
  m3 : M3 BT BT w (R3 vs es k vv lv tv) es
  blk : Blk w BT 26 [.string ⟨#[116]⟩, vv, tv]
  bel : Below BT W1 w
section
variable {BT k : Nat} {W1 w w1 w' : World} {vs : List (Bs × Nat)} {es : List VecE} {vv lv tv : Value}
theorem LS.below (h : LS BT W1 w vs es k vv lv tv) (hb : Below w.heap.size w w') : LS BT W1 w' vs es k vv lv tv :=
  ⟨h.m3.below hb, h.blk.next hb, h.bel.trans (hb.mono (Nat.le_of_lt h.blk.lt))⟩
theorem LS.fld (h : LS BT W1 w vs es k vv lv tv) (q : K3) {v' : Value} {n : Nat} {xs : List Value} {e size : Nat} (hq : q = .v ∨ q = .t) (he : kt3 q = e) (hsz : ks3 q = size) (ha : AppR BT e size w (R3 vs es k vv lv tv q).1 n xs v' w1) (i : Nat) (R' : K3 → RowV) (hR : upd (R3 vs es k vv lv tv) q (v', n, xs) = R') :
    M3 BT BT (w1.setCell ⟨BT, i, none⟩ v') R' es ∧ Blk (w1.setCell ⟨BT, i, none⟩ v') BT 26 ([Value.string ⟨#[116]⟩, vv, tv].set i v') ∧ Below BT W1 (w1.setCell ⟨BT, i, none⟩ v') := by
  subst he; subst hsz
  have hm := (h.m3.app q ha).box i v'
  rw [hR] at hm
  have hbb : w1.heap[BT]? = w.heap[BT]? := ha.grown.block BT h.blk.lt (Ne.symm (h.m3.mem.nb q))
  have hB : Blk w1 BT 26 [.string ⟨#[116]⟩, vv, tv] := by have := h.blk; unfold Blk at this ⊢; rw [hbb]; exact this
  exact ⟨hm, hB.set i v', (ha.below h.bel (Nat.le_of_lt h.blk.lt) (fun g hg => (h.m3.mem.lts q g hg).1)).setCell (show BT ≤ (⟨BT, i, none⟩ : Addr).block from Nat.le_refl _) v'⟩
theorem LS.appV (h : LS BT W1 w vs es k vv lv tv) (vs' : List (Bs × Nat)) {v' : Value} (ha : AppR BT 30 2 w vv vs'.length (tokCells vs') v' w1) : LS BT W1 (w1.setCell ⟨BT, 1, none⟩ v') vs' es k v' lv tv := by
  obtain ⟨a, b, c⟩ := h.fld .v (.inl rfl) rfl rfl ha 1 _ (R3_v vs vs' es k vv lv tv v')
  exact ⟨a, b, c⟩
theorem LS.appT (h : LS BT W1 w vs es k vv lv tv) (k' : Nat) {v' : Value} (ha : AppR BT 27 1 w tv k' (List.replicate k' lv) v' w1) : LS BT W1 (w1.setCell ⟨BT, 2, none⟩ v') vs es k' vv lv v' := by
  obtain ⟨a, b, c⟩ := h.fld .t (.inr rfl) rfl rfl ha 2 _ (R3_t vs es k k' vv lv tv v')
  exact ⟨a, b, c⟩
theorem LS.appL (h : LS BT W1 w vs es 0 vv lv tv) (e : VecE) (hv : VR w' (vecV e) e.w e.x) (hn : 0 < e.w) (hf : Far w (vecV e)) (hb : Below w.heap.size w w') {v' : Value} (ha : AppR BT 33 2 w' lv (es ++ [e]).length (rowCells (es ++ [e])) v' w1) : LS BT W1 w1 vs (es ++ [e]) 0 vv v' tv := by
  have hm := ((h.m3.more hv hn hf hb).app .l ha)
  rw [R3_l] at hm
  have hB := h.blk.next hb
  have hbb : w1.heap[BT]? = w'.heap[BT]? := ha.grown.block BT hB.lt (Ne.symm (h.m3.mem.nb .l))
  refine ⟨hm, by unfold Blk at hB ⊢; rw [hbb]; exact hB, ha.below (h.bel.trans (hb.mono (Nat.le_of_lt h.blk.lt))) (Nat.le_of_lt hB.lt) (fun g hg => (h.m3.mem.lts .l g hg).1)⟩
theorem LS.zero (hk : Blk w BT 26 [.string ⟨#[116]⟩, .slice none 0 0, .slice none 0 0]) (hb : Below BT W1 w) : LS BT W1 w (manyVars 0) [] 0 (.slice none 0 0) (.slice none 0 0) (.slice none 0 0) := by
  have hnil : ∀ q, R3 (manyVars 0) [] 0 (.slice none 0 0) (.slice none 0 0) (.slice none 0 0) q = (.slice none 0 0, 0, []) := fun q => by cases q <;> rfl
  exact ⟨⟨⟨fun q => (by rw [hnil q]; exact World.ownsRow_nil _ _ _ _), fun q q' _ g hg => (by rw [hnil q] at hg; cases hg), fun q => (by rw [hnil q]; intro e; cases e), Nat.le_refl _, hk.lt⟩, fun e he => (by simp at he)⟩, hk, hb⟩
theorem LS.keepB (h : LS BT W1 w vs es k vv lv tv) (q : K3) {v' : Value} {n : Nat} {xs : List Value} {e size : Nat} (ha : AppR BT e size w (R3 vs es k vv lv tv q).1 n xs v' w1) : w1.heap[BT]? = w.heap[BT]? := ha.grown.block BT h.blk.lt (Ne.symm (h.m3.mem.nb q))
theorem LS.varsO (h : LS BT W1 w vs es k vv lv tv) : w.ownsRow BT 30 2 vv vs.length (tokCells vs) := h.m3.mem.own .v
theorem LS.lO (h : LS BT W1 w vs es k vv lv tv) : w.ownsRow BT 33 2 lv es.length (rowCells es) := h.m3.mem.own .l
theorem LS.tO (h : LS BT W1 w vs es k vv lv tv) : w.ownsRow BT 27 1 tv k (List.replicate k lv) := h.m3.mem.own .t
theorem LS.ge (h : LS BT W1 w vs es k vv lv tv) : BT ≤ w.heap.size := Nat.le_of_lt h.blk.lt
end
def manyE (es : List VecE) (i : Nat) : Prop := es.map (fun e => (e.w, e.x)) = manyRow i
theorem manyE_snoc {es : List VecE} {i : Nat} (h : manyE es i) (e : VecE) (hw : e.w = 1 + i % 3) (hx : e.x = i % 2 ^ (1 + i % 3)) : manyE (es ++ [e]) (i + 1) := by
  unfold manyE manyRow at *
  rw [List.map_append, h, List.range_succ, List.map_append]
  simp [hw, hx]
theorem manyE_len {es : List VecE} {i : Nat} (h : manyE es i) : es.length = i := by have := congrArg List.length h; simpa [manyRow] using this
theorem manyVars_snoc (i : Nat) : manyVars (i + 1) = manyVars i ++ [(118 :: idL i, 1 + i % 3)] := by unfold manyVars; rw [List.range_succ, List.map_append]; rfl
theorem tmod3 (n : Nat) : ((n : Int)).tmod 3 = ((n % 3 : Nat) : Int) := by rw [Int.tmod_eq_emod_of_nonneg (by omega)]; omega
theorem LS.tr {BT k i : Nat} {W1 w : World} {es : List VecE} {pv pl pt : Option Addr} {cv cl ct : Nat} (h : LS BT W1 w (manyVars i) es k (.slice pv i cv) (.slice pl i cl) (.slice pt k ct)) (he : manyE es i) : TrR w (.agg #[.string ⟨#[116]⟩, .slice pv i cv, .slice pt k ct]) (manyT i k) := by
  have hv := h.varsO
  rw [manyVars_len] at hv
  have hl := h.lO
  rw [manyE_len he] at hl
  refine ⟨⟨_, _, List.replicate k (.slice pl i cl), List.replicate k es, rfl, ?_, ?_, by simp, ?_, fun j v es' hvj hej => ?_⟩, fun s p n c rv e => ?_⟩
  · show RO w _ 2 (manyVars i).length (tokCells (manyVars i))
    rw [manyVars_len]; exact RO.own hv
  · rw [List.length_replicate]; exact RO.own h.tO
  · show List.replicate k (manyRow i) = _
    rw [List.map_replicate]
    unfold manyE at he
    rw [he]
  · have e1 := List.eq_of_mem_replicate (List.mem_of_getElem? hvj)
    have e2 := List.eq_of_mem_replicate (List.mem_of_getElem? hej)
    subst e1; subst e2
    refine ⟨by rw [manyE_len he]; exact RO.own hl, fun e hm => (h.m3.vec e hm).2.1⟩
  · obtain ⟨p', c', e', hle⟩ := ownsRow_le hv
    cases e'
    cases e
    exact hle
theorem clamp (x k : Int) (hk : 0 ≤ k) : ∃ n : Nat, max 0 (min x k) = (n : Int) ∧ (n : Int) ≤ k := ⟨(max 0 (min x k)).toNat, by omega, by omega⟩
set_option maxRecDepth 100000 in
set_option maxHeartbeats 16000000 in
theorem many_law {w : World} (x y : Int) (ht : Tab w) : Calls Tryd.prog 3 #[.int .i64 x, .int .i64 y] w fun e w' => e = .returned (.bool true) ∧ Below w.heap.size w w' := by
  have HTab := Lib.hid ht
  obtain ⟨n, hn, hn3⟩ := clamp x 303 (by decide)
  obtain ⟨m, hm, hm3⟩ := clamp y 203 (by decide)
  have HAw := Lib.hid (awake_any ht)
  have hni : (n : Int) ≤ 303 := hn3
  have hmi : (m : Int) ≤ 203 := hm3
  clear ht hn3 hm3
  go_enter Tryd.func3, Tryd.ntmps3
  go_wp2_with fail
  refine HAw.out.mono ?_; rintro e w1 ⟨rfl, hb1⟩
  have H1 := Lib.hid hb1
  clear hb1 HAw
  go_upto_region 6 with fail
  have hk := Blk.new (w := w1) 26 [.string ⟨#[116]⟩, .slice none 0 0, .slice none 0 0]
  have hb := Below.new w1 (.cells #[.string ⟨#[116]⟩, .slice none 0 0, .slice none 0 0] 26)
  have H2 : Hid (LS w1.heap.size w1 (w1.alloc (.cells #[.string ⟨#[116]⟩, .slice none 0 0, .slice none 0 0] 26)) (manyVars 0) [] 0 (.slice none 0 0) (.slice none 0 0) (.slice none 0 0)) := Lib.hid (LS.zero hk hb)
  have HBT := Lib.hid (show w.heap.size ≤ w1.heap.size from H1.out.size)
  clear hk hb
  generalize w1.alloc (.cells #[.string ⟨#[116]⟩, .slice none 0 0, .slice none 0 0] 26) = w2 at *
  obtain ⟨BT, hBT⟩ : ∃ BT, w1.heap.size = BT := ⟨_, rfl⟩
  have HTb : Hid (∀ wx, Below BT w1 wx → Below w.heap.size w wx) := Lib.hid fun wx h => H1.out.trans (h.mono (by rw [← hBT]; exact HBT.out))
  rw [hBT] at H2 ⊢
  clear hBT HBT
  go_wp2_with fail
  go_loopw [6, 26] (fun lv iv wr => ∃ (i : Nat) (es : List VecE) (vv : Value), i ≤ n ∧ iv = .int .i64 i ∧ manyE es i ∧ LS BT w1 wr (manyVars i) es 0 vv lv (.slice none 0 0)) (fun _ iv _ => n - (intOf iv).toNat)
  case atStart => exact ⟨0, [], _, Nat.zero_le _, rfl, rfl, H2.out⟩
  case round =>
    obtain ⟨i, es, vv, hi, rfl, he, hls⟩ := hrel
    obtain ⟨pl, cl, hlv⟩ := ownsRow_form hls.lO
    rw [manyE_len he] at hlv
    subst hlv
    obtain ⟨pv, cv, hvv⟩ := ownsRow_form hls.varsO
    rw [manyVars_len] at hvv
    subst hvv
    have HL := Lib.hid (And.intro he hls)
    clear he hls
    by_cases hlt : i < n
    · have c1 := HL.out.2.blk.cell (i := 1) rfl
      obtain ⟨r, hr⟩ : ∃ r, i % 3 = r := ⟨_, rfl⟩
      have ht3 := tmod3 i
      rw [hr] at ht3
      have hr3 : r < 3 := by omega
      have hw1 : IntKind.i64.wrap (r : Int) = (r : Int) := i64_of (by omega)
      have hw2 : IntKind.i64.wrap (1 + (r : Int)) = 1 + (r : Int) := i64_of (by omega)
      have hiw : IntKind.i64.wrap ((i : Int) + 1) = (i : Int) + 1 := i64_of (by omega)
      have hiu : IntKind.u64.wrap (i : Int) = (i : Int) := IntWalk.u64_in _ (by omega)
      have hcat : (⟨#[118]⟩ : ByteArray) ++ bstr (idL i) = bstr (118 :: idL i) := bstr_app [118] _
      have hsz : (bstr (idL i)).size ≤ 2 := by rw [bstr_size]; exact (idL_len i (by omega)).2
      have hs3 : ¬ (9223372036854775807 : Int) < 1 + ((bstr (idL i)).size : Int) := by omega
      have hs4 : ¬ 9223372036854775807 < 1 + (bstr (idL i)).size := by omega
      have hs5 : ¬ 9223372036854775807 < (bstr (idL i)).size + 1 := by omega
      have HX := Lib.hid (And.intro hlt (And.intro hr (And.intro (show i < 8836 by omega) hr3)))
      have hii : (i : Int) < n := by omega
      have hi0 : (0 : Int) ≤ i := by omega
      clear hlt hr hr3 hi hsz
      go_upto_region 9 with fail
      have HTN := Lib.hid (Tr.nil wr)
      have q0 := c1
      clear c1
      refine wp_region_webC (w0 := wr) [.known (.pointer (some ⟨BT, 1, none⟩)), .known (.slice pv i cv), .rel (fun v W => v = .int .i64 i) (fun _ => []), .known (.string (bstr (idL i))), .known (.string (bstr (118 :: idL i))), .rel (fun v W => v = .int .i64 i) (fun _ => []), .known (.int .i64 r), .known (.int .i64 (1 + (r : Int))), .known (.agg #[.string (bstr (118 :: idL i)), .int .i64 (1 + (r : Int))]), .rel (fun v W => ∃ L, v = .slice (some ⟨L, 0, none⟩) 1 1 ∧ Blk W L 30 [.string (bstr (118 :: idL i)), .int .i64 (1 + (r : Int))]) (fun _ => [])] [1, 1, 2, 1, 1, 2, 1, 1, 1, 1] [] 39 3 #[true, true, true, true, true, true, true, true, true, true, false, false, false] (by kernel_rfl) (by kernel_rfl) rfl rfl rfl (Nat.le_of_ble_eq_true rfl) ⟨Sp.Mono.known, Sp.Mono.known, (fun _ _ _ _ h => h), Sp.Mono.known, Sp.Mono.known, (fun _ _ _ _ h => h), Sp.Mono.known, Sp.Mono.known, Sp.Mono.known, (by rintro u w w1 hb ⟨L, rfl, hk⟩; exact ⟨L, rfl, hk.next hb⟩), trivial⟩ HTN.out.drew (fun _ _ _ _ _ h => h) (A := ?_) ?_ ?_ ?_
      rotate_left
      · intro u
        simp only [fillC, Sp.val, Nat.reduceBEq, cond_false, Act.put, List.setIfInBounds_toArray, List.set_cons_zero, List.set_cons_succ]
        rfl
      refine ob_yes (web_op (o := _) rfl (fun u W hT hd Q K hK => ?_)) ?_
      · (try simp only [Act.put, List.setIfInBounds_toArray, List.set_cons_zero, List.set_cons_succ] at hK)
        have ca0 : W.cell? _ = some _ := After.cell q0 ⟨W, hT.bel⟩
        go_simp
        exact hK.out _ _ (Below.refl _ _) rfl (fun p hp => by cases hp) List.nodup_nil
      refine ob_yes (web_op (o := _) rfl (fun u W hT hd Q K hK => ?_)) ?_
      · (try simp only [Act.put, List.setIfInBounds_toArray, List.set_cons_zero, List.set_cons_succ] at hK)
        have ca0 : W.cell? _ = some _ := After.cell q0 ⟨W, hT.bel⟩
        go_simp
        exact hK.out _ _ (Below.refl _ _) rfl (fun p hp => by cases hp) List.nodup_nil
      refine ob_pure (web_pure (o := _) rfl (fun u W hT hd => ?_)) ?_
      · have ca0 : W.cell? _ = some _ := After.cell q0 ⟨W, hT.bel⟩
        exact ⟨_, Or.inl ⟨rfl, fun w => rfl⟩, rfl, rfl⟩
      refine ob_yes (web_op (o := _) rfl (fun u W hT hd Q K hK => ?_)) ?_
      · have d2 := hd 2 (by kernel_rfl)
        generalize u 2 = x2 at *
        obtain rfl := d2
        (try simp only [Act.put, List.setIfInBounds_toArray, List.set_cons_zero, List.set_cons_succ] at hK)
        have ca0 : W.cell? _ = some _ := After.cell q0 ⟨W, hT.bel⟩
        go_simp
        refine (refid_any i HX.out.2.2.1 _).mono ?_; rintro e W2 ⟨rfl, hb2⟩
        (try go_simp)
        exact hK.out _ _ hb2 rfl (fun p hp => by cases hp) List.nodup_nil
      refine ob_yes (web_op (o := _) rfl (fun u W hT hd Q K hK => ?_)) ?_
      · (try simp only [Act.put, List.setIfInBounds_toArray, List.set_cons_zero, List.set_cons_succ] at hK)
        have ca0 : W.cell? _ = some _ := After.cell q0 ⟨W, hT.bel⟩
        go_simp
        rw [hcat] at *
        exact hK.out _ _ (Below.refl _ _) rfl (fun p hp => by cases hp) List.nodup_nil
      refine ob_pure (web_pure (o := _) rfl (fun u W hT hd => ?_)) ?_
      · have ca0 : W.cell? _ = some _ := After.cell q0 ⟨W, hT.bel⟩
        exact ⟨_, Or.inl ⟨rfl, fun w => rfl⟩, rfl, rfl⟩
      refine ob_yes (web_op (o := _) rfl (fun u W hT hd Q K hK => ?_)) ?_
      · have d5 := hd 5 (by kernel_rfl)
        generalize u 5 = x5 at *
        obtain rfl := d5
        (try simp only [Act.put, List.setIfInBounds_toArray, List.set_cons_zero, List.set_cons_succ] at hK)
        have ca0 : W.cell? _ = some _ := After.cell q0 ⟨W, hT.bel⟩
        go_simp
        exact hK.out _ _ (Below.refl _ _) rfl (fun p hp => by cases hp) List.nodup_nil
      refine ob_yes (web_op (o := _) rfl (fun u W hT hd Q K hK => ?_)) ?_
      · (try simp only [Act.put, List.setIfInBounds_toArray, List.set_cons_zero, List.set_cons_succ] at hK)
        have ca0 : W.cell? _ = some _ := After.cell q0 ⟨W, hT.bel⟩
        go_simp
        exact hK.out _ _ (Below.refl _ _) rfl (fun p hp => by cases hp) List.nodup_nil
      refine ob_yes (web_op (o := _) rfl (fun u W hT hd Q K hK => ?_)) ?_
      · (try simp only [Act.put, List.setIfInBounds_toArray, List.set_cons_zero, List.set_cons_succ] at hK)
        have ca0 : W.cell? _ = some _ := After.cell q0 ⟨W, hT.bel⟩
        go_simp
        exact hK.out _ _ (Below.refl _ _) rfl (fun p hp => by cases hp) List.nodup_nil
      refine ob_yes (web_op (o := _) rfl (fun u W hT hd Q K hK => ?_)) ?_
      · (try simp only [Act.put, List.setIfInBounds_toArray, List.set_cons_zero, List.set_cons_succ] at hK)
        have ca0 : W.cell? _ = some _ := After.cell q0 ⟨W, hT.bel⟩
        go_simp
        exact hK.out _ _ (Below.new _ _) ⟨_, rfl, Blk.new _ _⟩ (fun p hp => by cases hp) List.nodup_nil
      exact ob_nil
      intro u wx hT hok
      obtain ⟨h0, h1, h2, h3, h4, h5, h6, h7, h8, h9, _⟩ := hok
      clear h0 h1 h3 h4 h6 h7 h8
      simp only [ownsC, Sp.own, Nat.reduceBEq, cond_false, List.append_nil] at hT
      have d2 := h2 (by kernel_rfl)
      clear h2
      generalize u 2 = x2 at *
      obtain rfl := d2
      have d5 := h5 (by kernel_rfl)
      clear h5
      generalize u 5 = x5 at *
      obtain rfl := d5
      have d9 := h9 (by kernel_rfl)
      clear h9
      generalize u 9 = x9 at *
      obtain ⟨L, rfl, hk9⟩ := d9
      (try dsimp only [List.nil_append, List.cons_append] at hT)
      have HTE := Lib.hid hT
      clear hT
      refine wpAny_of_held (S := fun _ => True) _ _ _ _ ?_
      have hls := HL.out.2.below HTE.out.bel
      have hov := hls.varsO
      rw [manyVars_len] at hov
      have c1 := hls.blk.cell (i := 1) rfl
      have f1 := hls.blk.frz 1
      have HA := Lib.hid (And.intro hov (And.intro (RO.own (hk9.own (n := 1) (size := 2) rfl (by decide) 0 (Nat.zero_le _))) (And.intro hls.ge hls)))
      clear hov hls hk9 q0
      refine wpAnyH_ready (rs := [10]) (by kernel_rfl) (by simp) ?_
      refine held_cons rfl (fun K hK => step_appR rfl _ _ 23 rfl TVars BT (.slice pv i cv) i _ rfl HA.out.1 _ 1 _ rfl HA.out.2.1 (by simp [Value.oneCell']) (by omega) (by omega) HA.out.2.2.1 ?_) AllReadyH.nil
      intro v4 w4 happ
      obtain ⟨p6, c6', ev4⟩ := ownsRow_form happ.own
      subst ev4
      have e6 := HA.out.2.2.2.keepB .v happ
      have c1' := (World.cell?_of_block (a := ⟨BT, 1, none⟩) e6).trans c1
      have f1' := (World.frozen?_of_block (a := ⟨BT, 1, none⟩) e6).trans f1
      have HP := Lib.hid happ
      clear happ e6 c1 f1
      refine hK.out _ _ trivial (fun _ => ?_)
      clear hK K
      (try simp only [Act.put, List.setIfInBounds_toArray, List.set_cons_zero, List.set_cons_succ])
      refine held_take (i := 11) (v := .pointer (some ⟨BT, 1, none⟩)) rfl (by kernel_rfl) (by kernel_rfl) (by kernel_rfl) (fun _ _ _ h => h) (Or.inl ⟨by rfl, ?_⟩) trivial ?_
      · intro w hSw; go_simp; (try with_reducible rfl)
      (try simp only [Act.put, List.setIfInBounds_toArray, List.set_cons_zero, List.set_cons_succ])
      refine wpAnyH_ready (rs := [12]) (by kernel_rfl) (by simp) ?_
      refine held_cons rfl (fun K hK => ?_) AllReadyH.nil
      go_simp
      refine hK.out _ _ trivial (fun _ => ?_)
      clear hK K
      (try simp only [List.setIfInBounds_toArray, List.set_cons_zero, List.set_cons_succ])
      refine wpAnyH_done (by kernel_rfl) ?_ _
      have hq : AppR BT 30 2 wx (.slice pv i cv) (manyVars (i + 1)).length (tokCells (manyVars (i + 1))) (.slice p6 (i + 1) c6') w4 := by
        rw [manyVars_len, manyVars_snoc, ← tokCells_snoc, HX.out.2.1]
        exact HP.out
      have hls5 := HA.out.2.2.2.appV (manyVars (i + 1)) hq
      have H5 := Lib.hid hls5
      clear hq hls5 c1' f1' HP HA HTE HTN
      generalize w4.setCell ⟨BT, 1, none⟩ (.slice p6 (i + 1) c6') = w5 at *
      have HN := Lib.hid (new_val (w := w5) (1 + r) i (by omega) (by have := HX.out.2.2.2; omega) (by have := HX.out.1; omega))
      go_wp2_with fail
      have hb5 := Below.new w5 (.cells #[.int .u64 i] 37)
      have HB5 := Lib.hid hb5
      clear hb5
      refine HN.out.mono ?_; rintro e w6 ⟨v6, rfl, hv6, hb6, hf6⟩
      obtain ⟨p7, c7, rfl, _⟩ := hv6.ex
      have hbA := Below.next (HB5.out.trans (hb6.mono HB5.out.size)) (Below.new w6 (.cells #[.int .i64 (1 + r : Nat), .slice p7 (wcount (1 + r)) c7] 33))
      have hbB := Below.next hbA (Below.new (w6.alloc (.cells #[.int .i64 (1 + r : Nat), .slice p7 (wcount (1 + r)) c7] 33)) (.cells #[.int .i64 (1 + r : Nat), .slice p7 (wcount (1 + r)) c7] 33))
      have hkB := Blk.new (w := w6.alloc (.cells #[.int .i64 (1 + r : Nat), .slice p7 (wcount (1 + r)) c7] 33)) 33 [.int .i64 (1 + r : Nat), .slice p7 (wcount (1 + r)) c7]
      simp only [World.size_alloc] at hkB
      have hvB := (hv6.below (Below.new w6 (.cells #[.int .i64 (1 + r : Nat), .slice p7 (wcount (1 + r)) c7] 33))).below (Below.new (w6.alloc (.cells #[.int .i64 (1 + r : Nat), .slice p7 (wcount (1 + r)) c7] 33)) (.cells #[.int .i64 (1 + r : Nat), .slice p7 (wcount (1 + r)) c7] 33))
      have hfB : Far w5 (.agg #[.int .i64 (1 + r : Nat), .slice p7 (wcount (1 + r)) c7]) := fun k p m c bo o e hp => Nat.le_trans HB5.out.size (hf6 k p m c bo o e hp)
      have hol := ownsRow_below H5.out.lO hbB
      rw [manyE_len HL.out.1] at hol
      have HB := Lib.hid (And.intro hbB (And.intro (RO.own (hkB.own (n := 1) (size := 2) rfl (by decide) 0 (Nat.zero_le _))) (And.intro hvB (And.intro hfB (And.intro hol (Nat.le_trans H5.out.ge hbB.size))))))
      have hcst : ((1 + r : Nat) : Int) = 1 + (r : Int) := by omega
      clear hv6 hb6 hf6 hbA hbB hkB hvB hfB hol HN
      rw [hcst] at HB ⊢
      go_wp2_with (at_builtin; refine wpList_appR rfl _ _ 27 rfl TVecs BT (.slice pl i cl) i _ rfl HB.out.2.2.2.2.1 _ 1 _ rfl HB.out.2.1 (by simp [Value.oneCell']) (by omega) (by omega) HB.out.2.2.2.2.2 ?_; intro v8 w8 happ; obtain ⟨p8, c8, ev8⟩ := ownsRow_form happ.own; subst ev8; have HP := Lib.hid happ; clear happ)
      have hq : AppR BT 33 2 ((w6.alloc (.cells #[.int .i64 (1 + (r : Int)), .slice p7 (wcount (1 + r)) c7] 33)).alloc (.cells #[.int .i64 (1 + (r : Int)), .slice p7 (wcount (1 + r)) c7] 33)) (.slice pl i cl) (es ++ [(⟨1 + r, p7, c7, i % 2 ^ (1 + r)⟩ : VecE)]).length (rowCells (es ++ [(⟨1 + r, p7, c7, i % 2 ^ (1 + r)⟩ : VecE)])) (.slice p8 (i + 1) c8) w8 := by
        rw [List.length_append, manyE_len HL.out.1, ← rowCells_snoc]
        exact HP.out
      have hls8 := H5.out.appL ⟨1 + r, p7, c7, i % 2 ^ (1 + r)⟩ HB.out.2.2.1 (by show 0 < 1 + r; omega) HB.out.2.2.2.1 HB.out.1 hq
      have he8 := manyE_snoc HL.out.1 ⟨1 + r, p7, c7, i % 2 ^ (1 + r)⟩ (by rw [HX.out.2.1]) (by rw [HX.out.2.1])
      have H8 := Lib.hid (And.intro he8 hls8)
      clear hq hls8 he8 HP
      go_roundw
      case rel => exact ⟨i + 1, _, _, HX.out.1, by go_num, H8.out.1, H8.out.2⟩
      case measure => have := HX.out.1; simp [intOf]; omega
    · obtain rfl : i = n := by omega
      clear hlt hi
      go_wp2_with fail
      go_loopw [57] (fun kv wr => ∃ (k : Nat) (tv : Value), k ≤ m ∧ kv = .int .i64 k ∧ LS BT w1 wr (manyVars i) es k (.slice pv i cv) (.slice pl i cl) tv) (fun kv _ => m - (intOf kv).toNat)
      case atStart => exact ⟨0, _, Nat.zero_le _, rfl, HL.out.2⟩
      case round =>
        obtain ⟨k, tv, hk, rfl, hls⟩ := hrel
        obtain ⟨pt, ct, htv⟩ := ownsRow_form hls.tO
        subst htv
        have HR := Lib.hid hls
        clear hls
        by_cases hlt : k < m
        · have c2 := HR.out.blk.cell (i := 2) rfl
          have f2 := HR.out.blk.frz 2
          have hbx := Below.new wr (.cells #[.slice pl i cl] 27)
          have hkx := Blk.new (w := wr) 27 [.slice pl i cl]
          have hls := HR.out.below hbx
          have HA := Lib.hid (And.intro hls.tO (And.intro (RO.own (hkx.own (n := 1) (size := 1) rfl (by decide) 0 (Nat.zero_le _))) (And.intro hls.ge (And.intro hls (And.intro (hbx.block BT HR.out.blk.lt) hlt)))))
          have hki : (k : Int) < m := by omega
          have hk0 : (0 : Int) ≤ k := by omega
          have hkw : IntKind.i64.wrap ((k : Int) + 1) = (k : Int) + 1 := i64_of (by omega)
          clear hbx hkx hls hlt hk
          go_upto_region 16 with (at_builtin; refine wpList_appR rfl _ _ 24 rfl TRows BT (.slice pt k ct) k _ rfl HA.out.1 _ 1 _ rfl HA.out.2.1 (by simp [Value.oneCell']) (by omega) (by omega) HA.out.2.2.1 ?_; intro v4 w4 happ; obtain ⟨p6, c6', ev4⟩ := ownsRow_form happ.own; subst ev4; have e6 := (HA.out.2.2.2.1.keepB .t happ).trans HA.out.2.2.2.2.1; have c2' := (World.cell?_of_block (a := ⟨BT, 2, none⟩) e6).trans c2; have f2' := (World.frozen?_of_block (a := ⟨BT, 2, none⟩) e6).trans f2; have HP := Lib.hid happ; clear happ e6)
          have hq : AppR BT 27 1 (wr.alloc (.cells #[.slice pl i cl] 27)) (.slice pt k ct) (k + 1) (List.replicate (k + 1) (.slice pl i cl)) (.slice p6 (k + 1) c6') w4 := by
            rw [List.replicate_succ']
            exact HP.out
          have hls5 := HA.out.2.2.2.1.appT (k + 1) hq
          have H5 := Lib.hid hls5
          clear hq hls5 c2 f2 c2' f2' HP
          generalize w4.setCell ⟨BT, 2, none⟩ (.slice p6 (k + 1) c6') = w5 at *
          go_wp2_with fail
          go_roundw
          case rel => exact ⟨k + 1, _, HA.out.2.2.2.2.2, by go_num, H5.out⟩
          case measure => have := HA.out.2.2.2.2.2; simp [intOf]; omega
        · obtain rfl : k = m := by omega
          clear hlt hk
          have hTr := HR.out.tr HL.out.1
          have hTab2 := tab_below HTab.out (HTb.out wr HR.out.bel)
          have c0 := HR.out.blk.cell (i := 0) rfl
          have c1 := HR.out.blk.cell (i := 1) rfl
          have c2 := HR.out.blk.cell (i := 2) rfl
          have HTr := Lib.hid (And.intro hTr hTab2)
          clear hTr hTab2
          by_cases hgood : i ≤ 300 ∧ k ≤ 200
          · have hck : checkN (manyT i k) = 0 := by rw [many_check i k (by omega), if_pos hgood]
            have hTok := tok_of_check hck (many_vals i k)
            have hln := many_len i k hgood.1 hgood.2
            have HW := Lib.hid (write_good HTr.out.1 hTok hck hln HTr.out.2)
            have HOk := Lib.hid (And.intro hTok hln)
            have hi300 : (i : Int) ≤ 300 := by omega
            have hk200 : (k : Int) ≤ 200 := by omega
            clear hgood hck hTok hln
            go_wp2_with fail
            refine HW.out.mono ?_; rintro e w8 ⟨rfl, hb8⟩
            have H8 := Lib.hid hb8
            have HRd := Lib.hid (read_any (w := w8) HOk.out.1 (Nat.le_trans HOk.out.2 (by decide)))
            clear hb8 HW c0 c1 c2
            generalize bstr (trcText (manyT i k)) = TX at *
            go_wp2_with fail
            refine HRd.out.mono ?_; rintro e w9 ⟨tvb, rfl, hTb, hb9⟩
            obtain ⟨vv, rv, rvs, ess, rfl, hvv, hrv, hel, hrows, hrow⟩ := hTb.ex
            obtain ⟨pb, cb, rfl⟩ := hvv.form
            obtain ⟨pq, cq, rfl⟩ := hrv.form
            have hrl : rvs.length = k := by
              have := congrArg List.length hrows
              rw [List.length_map, hel] at this
              rw [← this]; simp [manyT]
            have hvl : (manyT i k).vars.length = i := manyVars_len i
            have hbx := Below.new w9 (.cells #[.string (bstr (manyT i k).top), .slice pb (manyT i k).vars.length cb, .slice pq rvs.length cq] 26)
            have hkx := Blk.new (w := w9) 26 [.string (bstr (manyT i k).top), .slice pb (manyT i k).vars.length cb, .slice pq rvs.length cq]
            have hls := (HR.out.below H8.out).below (hb9.trans (hbx.mono hb9.size))
            have HZ := Lib.hid (And.intro (hvv.below hbx) (And.intro (hrv.below hbx) (And.intro hel (And.intro hrows (And.intro (fun a v es h1 h2 => And.intro ((hrow a v es h1 h2).1.below hbx) (fun e he => ((hrow a v es h1 h2).2 e he).below hbx)) (And.intro hkx (And.intro hls (And.intro hrl hvl))))))))
            clear hb9 hTb hvv hrv hel hrows hrow hbx hkx hls HRd
            have HRl := Lib.hid hrl
            rw [hrl, hvl] at HZ ⊢
            clear hrl hvl
            go_wp2_with fail
            generalize hW10 : w9.alloc (.cells #[.string (bstr (manyT i k).top), .slice pb i cb, .slice pq k cq] 26) = W10 at *
            obtain ⟨g12, hg12⟩ : ∃ g, w9.heap.size = g := ⟨_, rfl⟩
            rw [hg12] at HZ ⊢
            clear hg12 hW10
            go_loopw [110] (fun jv wz => ∃ j : Nat, j ≤ i ∧ jv = .int .i64 j ∧ Below W10.heap.size W10 wz) (fun jv _ => i - (intOf jv).toNat)
            case atStart => exact ⟨0, Nat.zero_le _, rfl, Below.refl _ _⟩
            case round =>
              obtain ⟨j, hj, rfl, hbz⟩ := hrel
              have HL3 := Lib.hid hbz
              clear hbz
              by_cases hlt : j < i
              · have hmv : (manyVars i)[j]? = some (118 :: idL j, 1 + j % 3) := manyVars_at hlt
                have hv1 := HZ.out.1.below HL3.out
                have htc : tokCells (manyT i k).vars = tokCells (manyVars i) := rfl
                rw [htc] at hv1
                obtain ⟨vb, vo, rfl⟩ := hv1.sl (tokCells_at _ _ _ hmv).1
                have a0 := hv1.cell (tokCells_at _ _ _ hmv).1
                have a1 := hv1.cell (tokCells_at _ _ _ hmv).2
                rw [← Nat.add_assoc] at a1
                have hls := HZ.out.2.2.2.2.2.2.1.below HL3.out
                have hov := hls.varsO
                rw [manyVars_len] at hov
                obtain ⟨ub, uo, rfl⟩ := (RO.own hov).sl (tokCells_at _ _ _ hmv).1
                have b0 := (RO.own hov).cell (tokCells_at _ _ _ hmv).1
                have b1 := (RO.own hov).cell (tokCells_at _ _ _ hmv).2
                rw [← Nat.add_assoc] at b1
                have t1 := hls.blk.cell (i := 1) rfl
                have hkz := HZ.out.2.2.2.2.2.1.next HL3.out
                have z1 := hkz.cell (i := 1) rfl
                have z2 := hkz.cell (i := 2) rfl
                have A0 := After.cell a0
                have A1 := After.cell a1
                have B0 := After.cell b0
                have B1 := After.cell b1
                have T1 := After.cell t1
                have Z1 := After.cell z1
                have Z2 := After.cell z2
                have HX := Lib.hid (And.intro hlt hls)
                simp only at A0 A1 B0 B1
                generalize bstr (118 :: idL j) = X at *
                generalize 1 + j % 3 = D at *
                have hji : (j : Int) < i := by omega
                have hj0 : (0 : Int) ≤ j := by omega
                have hjw : IntKind.i64.wrap ((j : Int) + 1) = (j : Int) + 1 := i64_of (by omega)
                by_cases hk0 : k = 0
                · have hk1 : ¬ (0 : Int) < k := by omega
                  have hk2 : ¬ 0 < k := by omega
                  have hk3 : decide (0 < k) = false := decide_eq_false (by omega)
                  have hk4 : decide ((0 : Int) < k) = false := decide_eq_false (by omega)
                  clear hmv hv1 htc a0 a1 hls hov b0 b1 t1 hkz z1 z2 hlt hj hk0
                  go_upto_region 26 with fail
                  refine wp_region_after (by kernel_rfl) (by kernel_rfl) ?_
                  repeat (go_big_quiet_step (fail))
                  refine wpQuiet_nil ?_
                  rintro _ ⟨s, rfl⟩
                  have HS := Lib.hid (HL3.out.trans (s.below.mono HL3.out.size))
                  generalize s.val = w11 at *
                  clear A0 A1 B0 B1 T1 Z1 Z2
                  go_wp2_with fail
                  go_roundw
                  case rel => exact ⟨j + 1, HX.out.1, by go_num, HS.out⟩
                  case measure => have := HX.out.1; simp [intOf]; omega
                · have hk1 : (0 : Int) < k := by omega
                  have hk2 : 0 < k := by omega
                  obtain ⟨k', hk'⟩ : ∃ k', k = k' + 1 := ⟨k - 1, by omega⟩
                  have hk'l : k' < rvs.length := by rw [HRl.out]; omega
                  have hk'e : k' < ess.length := by rw [HZ.out.2.2.1]; omega
                  obtain ⟨vk, hvk⟩ : ∃ v, rvs[k']? = some v := ⟨_, List.getElem?_eq_getElem hk'l⟩
                  obtain ⟨es', hes'⟩ : ∃ es, ess[k']? = some es := ⟨_, List.getElem?_eq_getElem hk'e⟩
                  have hrow := HZ.out.2.2.2.2.1 k' vk es' hvk hes'
                  have hnum : es'.map (fun e => (e.w, e.x)) = manyRow i := by
                    have h1 : (manyT i k).rows[k']? = some (es'.map fun e => (e.w, e.x)) := by rw [HZ.out.2.2.2.1, List.getElem?_map, hes']; rfl
                    exact List.eq_of_mem_replicate (List.mem_of_getElem? h1)
                  have hel' : es'.length = i := manyE_len hnum
                  obtain ⟨pk, ck, rfl⟩ := hrow.1.form
                  obtain ⟨qb, qo, rfl⟩ := (HZ.out.2.1.below HL3.out).sl hvk
                  have d0 := (HZ.out.2.1.below HL3.out).cell hvk
                  rw [hel'] at d0
                  obtain ⟨e1, he1⟩ : ∃ e, es'[j]? = some e := ⟨_, List.getElem?_eq_getElem (by rw [hel']; exact hlt)⟩
                  have hr1 := hrow.1.below HL3.out
                  obtain ⟨kb, ko, rfl⟩ := hr1.sl (rowCells_at _ _ _ he1).1
                  have e0' := hr1.cell (rowCells_at _ _ _ he1).1
                  have e1' := hr1.cell (rowCells_at _ _ _ he1).2
                  rw [← Nat.add_assoc] at e1'
                  have hve1 := (hrow.2 e1 (List.mem_of_getElem? he1)).below HL3.out
                  obtain ⟨e2, he2⟩ : ∃ e, es[j]? = some e := ⟨_, List.getElem?_eq_getElem (by rw [manyE_len HL.out.1]; exact hlt)⟩
                  have hlo := RO.own hls.lO
                  rw [manyE_len HL.out.1] at hlo
                  obtain ⟨lb, lo, rfl⟩ := hlo.sl (rowCells_at _ _ _ he2).1
                  have g0 := hlo.cell (rowCells_at _ _ _ he2).1
                  have g1 := hlo.cell (rowCells_at _ _ _ he2).2
                  rw [← Nat.add_assoc] at g1
                  have hve2 := (hls.m3.vec e2 (List.mem_of_getElem? he2)).2.1
                  have hsame : e1.w = e2.w ∧ e1.x = e2.x := by
                    have h1 : (es'.map fun e => (e.w, e.x))[j]? = (es.map fun e => (e.w, e.x))[j]? := by rw [hnum, show (es.map fun e => (e.w, e.x)) = manyRow i from HL.out.1]
                    rw [List.getElem?_map, List.getElem?_map, he1, he2] at h1
                    simpa using h1
                  have HEq : Hid (∀ s : After wr, Calls Tryd.prog 9 #[.agg #[.int .i64 e1.w, .slice e1.p (wcount e1.w) e1.c], .agg #[.int .i64 e2.w, .slice e2.p (wcount e2.w) e2.c]] s.val fun r w' => r = .returned (.bool true) ∧ Below s.val.heap.size s.val w') := Lib.hid fun s => by
                    have h := equal_any (hve1.below s.below) (hve2.below s.below)
                    rw [decide_eq_true hsame] at h
                    exact h
                  have D0 := After.cell d0
                  have E0 := After.cell e0'
                  have E1 := After.cell e1'
                  have G0 := After.cell g0
                  have G1 := After.cell g1
                  have hkw : IntKind.i64.wrap ((k : Int) - 1) = (k' : Int) := (i64_of (by omega)).trans (by omega)
                  have hki : (k' : Int) < k := by omega
                  have hk'0 : (0 : Int) ≤ k' := by omega
                  clear hmv hv1 htc a0 a1 hls hov b0 b1 t1 hkz z1 z2 hlt hj hk0 hk' hk'l hk'e hvk hes' hrow hnum hel' d0 he1 hr1 e0' e1' hve1 he2 hlo g0 g1 hve2 hsame
                  go_upto_region 26 with fail
                  refine wp_region_after (by kernel_rfl) (by kernel_rfl) ?_
                  repeat (go_big_quiet_step ((first | (with_reducible exact Calls.after_of (HEq.out _)))))
                  refine wpQuiet_nil ?_
                  rintro _ ⟨s, rfl⟩
                  have HS := Lib.hid (HL3.out.trans (s.below.mono HL3.out.size))
                  generalize s.val = w11 at *
                  clear A0 A1 B0 B1 T1 Z1 Z2 D0 E0 E1 G0 G1 HEq
                  go_wp2_with fail
                  go_roundw
                  case rel => exact ⟨j + 1, HX.out.1, by go_num, HS.out⟩
                  case measure => have := HX.out.1; simp [intOf]; omega
              · obtain rfl : j = i := by omega
                clear hlt hj
                have hfin := HTb.out _ (HZ.out.2.2.2.2.2.2.1.below HL3.out).bel
                have HF := Lib.hid hfin
                clear hfin
                go_wp2_with fail
                go_ret
                exact ⟨rfl, HF.out⟩
          · have hck : checkN (manyT i k) = 19 := by rw [many_check i k (by omega), if_neg hgood]
            have hrw : ∀ r ∈ (manyT i k).rows, (r.length : Int) ≤ 140737488355328 := fun r hr => by
              have : r = manyRow i := List.eq_of_mem_replicate hr
              subst this
              simp only [manyRow, List.length_map, List.length_range]; omega
            have HW := Lib.hid (write_bad HTr.out.1 (by show ((manyVars i).length : Int) ≤ _; rw [manyVars_len]; omega) (by show ((List.replicate k (manyRow i)).length : Int) ≤ _; rw [List.length_replicate]; omega) hrw (by rw [hck]; decide))
            rw [hck] at HW
            have hor : (300 : Int) < i ∨ (200 : Int) < k := by omega
            have hbel := HTb.out wr HR.out.bel
            have HBel := Lib.hid hbel
            clear hck hrw hgood hbel
            by_cases h300 : (300 : Int) < i
            · clear hor
              go_wp2_with fail
              refine HW.out.mono ?_; rintro e w8 ⟨rfl, hb8⟩
              have H8 := Lib.hid (HBel.out.trans (hb8.mono HBel.out.size))
              clear hb8 HW c0 c1 c2
              go_wp2_with fail
              go_ret
              exact ⟨rfl, H8.out⟩
            · have h200 : (200 : Int) < k := by omega
              clear hor
              go_wp2_with fail
              refine HW.out.mono ?_; rintro e w8 ⟨rfl, hb8⟩
              have H8 := Lib.hid (HBel.out.trans (hb8.mono HBel.out.size))
              clear hb8 HW c0 c1 c2
              go_wp2_with fail
              go_ret
              exact ⟨rfl, H8.out⟩
end Go.Proofs.YtcdjkbgedmehjaaDoor
