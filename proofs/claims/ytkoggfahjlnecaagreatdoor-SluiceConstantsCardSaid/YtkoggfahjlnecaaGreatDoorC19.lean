import Derived.Test.YtkoggfahjlnecaaGreatDoorC19A
namespace Go.Proofs.YtkoggfahjlnecaaGreatDoor
set_option linter.unusedVariables false
open Go.RowKit Go.Sort

/-! # typed expressions in memory; a leaf -/
/-- a vector of 32 bits whose word lies in A -/
def VRA (A : Nat → Prop) (w : World) (p : Option Addr) (c x : Nat) : Prop := VR w (.agg #[.int .i64 32, .slice p 1 c]) 32 x ∧ ∀ b o, p = some ⟨b, o, none⟩ → A b
theorem VRA.turn {A A' : Nat → Prop} {w w' : World} {p : Option Addr} {c x : Nat} (h : VRA A w p c x) (hA : ∀ b, A b → b < w.heap.size → A' b ∧ w'.heap[b]? = w.heap[b]?) : VRA A' w' p c x := by
  obtain ⟨⟨⟨p', c', e, hl, p2, c2, e2, hr⟩, h2, h3⟩, hA0⟩ := h
  have e3 : p' = p ∧ c' = c := by
    have := congrArg (fun v => match v with | Value.agg cs => cs.toList[1]? | _ => none) e
    simp at this
    exact ⟨this.1.symm, this.2.2.symm⟩
  obtain ⟨rfl, rfl⟩ := e3
  have e4 : p2 = p' ∧ c2 = c' := by cases e2; exact ⟨rfl, rfl⟩
  obtain ⟨rfl, rfl⟩ := e4
  obtain ⟨b, o, rfl, hc⟩ := hr 0 _ (wordsV_at (m := 1) (x := x) (i := 0) (by decide))
  have hb := hA b (hA0 b o rfl) (World.block_lt_of_cell? _ _ hc)
  refine ⟨⟨⟨_, _, e, hl, _, _, e2, fun j u hj => ?_⟩, h2, h3⟩, fun b' o' e => by cases e; exact hb.1⟩
  obtain ⟨b', o', e5, hc'⟩ := hr j u hj
  cases e5
  exact ⟨_, _, rfl, (World.cell?_of_block hb.2).trans hc'⟩
theorem VRA.of {w w' : World} {p : Option Addr} {c x : Nat} (h : VR w' (.agg #[.int .i64 32, .slice p 1 c]) 32 x) (hf : Far w (.agg #[.int .i64 32, .slice p 1 c])) : VRA (fun k => w.heap.size ≤ k) w' p c x := ⟨h, fun b o e => hf _ p 1 c b o rfl e⟩
def opB (o : Nat) : Int := match o with | 0 => 0 | 1 => 1 | 2 => 2 | 3 => 7 | 4 => 8 | _ => 9
abbrev constC (p : Option Addr) (c : Nat) : List Value := [.int .i64 1, .int .i64 0, .int .i64 32, .int .i64 0, .int .i64 0, .bool false, .int .i64 32, .slice p 1 c, .slice none 0 0]
abbrev binC (op : Int) (L : Nat) : List Value := [.int .i64 7, .int .i64 op, .int .i64 32, .int .i64 0, .int .i64 0, .bool false, .int .i64 0, .slice none 0 0, .slice (some ⟨L, 0, none⟩) 2 2]
abbrev notC (L : Nat) : List Value := [.int .i64 6, .int .i64 0, .int .i64 32, .int .i64 0, .int .i64 0, .bool false, .int .i64 0, .slice none 0 0, .slice (some ⟨L, 0, none⟩) 1 1]
/-- a typed expression's nine cells -/
def TX (nm : Int) (A : Nat → Prop) (w : World) : KE → List Value → Prop
  | .num n, cs => ∃ p c, cs = constC p c ∧ VRA A w p c n
  | .nm, cs => ∃ p c, cs = constC p c ∧ VRA A w p c (lo32 nm)
  | .bin o a b, cs => ∃ L ca cb, ((o ≠ 6 ∧ cs = binC (opB o) L) ∨ (o = 6 ∧ ∃ M, cs = notC M ∧ A M ∧ Blk w M 42 (binC 9 L))) ∧ A L ∧ Blk w L 42 (ca ++ cb) ∧ TX nm A w a ca ∧ TX nm A w b cb
theorem Blk.eqv {w w' : World} {b t : Nat} {l : List Value} (h : Blk w b t l) (e : w'.heap[b]? = w.heap[b]?) : Blk w' b t l := by unfold Blk at h ⊢; rw [e]; exact h
theorem TX.turn {nm : Int} {A A' : Nat → Prop} {w w' : World} (hA : ∀ b, A b → b < w.heap.size → A' b ∧ w'.heap[b]? = w.heap[b]?) : ∀ {e : KE} {cs : List Value}, TX nm A w e cs → TX nm A' w' e cs
  | .num _, _, ⟨p, c, h1, h2⟩ => ⟨p, c, h1, h2.turn hA⟩
  | .nm, _, ⟨p, c, h1, h2⟩ => ⟨p, c, h1, h2.turn hA⟩
  | .bin _ _ _, _, ⟨L, ca, cb, h1, h2, h3, h4, h5⟩ => ⟨L, ca, cb, h1.imp id (fun ⟨h6, M, h7, h8, h9⟩ => ⟨h6, M, h7, (hA M h8 h9.lt).1, h9.eqv (hA M h8 h9.lt).2⟩), (hA L h2 h3.lt).1, h3.eqv (hA L h2 h3.lt).2, TX.turn hA h4, TX.turn hA h5⟩
theorem TX.form {nm : Int} {A : Nat → Prop} {w : World} : ∀ {e : KE} {cs : List Value}, TX nm A w e cs → ∃ (k op vw : Int) (vp ap : Option Addr) (vn vc an ac : Nat), cs = [.int .i64 k, .int .i64 op, .int .i64 32, .int .i64 0, .int .i64 0, .bool false, .int .i64 vw, .slice vp vn vc, .slice ap an ac]
  | .num _, _, ⟨p, c, h1, _⟩ => ⟨_, _, _, _, _, _, _, _, _, h1⟩
  | .nm, _, ⟨p, c, h1, _⟩ => ⟨_, _, _, _, _, _, _, _, _, h1⟩
  | .bin _ _ _, _, ⟨L, ca, cb, h1, _⟩ => by
    rcases h1 with ⟨_, h1⟩ | ⟨_, M, h1, _⟩
    · exact ⟨_, _, _, _, _, _, _, _, _, h1⟩
    · exact ⟨_, _, _, _, _, _, _, _, _, h1⟩
def LeafR (w : World) (x : Nat) (r : Ending) (w' : World) : Prop := ∃ p c, r = .returned (.agg #[.int .i64 1, .int .i64 0, .int .i64 32, .int .i64 0, .int .i64 0, .bool false, .int .i64 32, .slice p 1 c, .slice none 0 0]) ∧ VRA (fun k => w.heap.size ≤ k) w' p c x ∧ Below w.heap.size w w'
theorem setCells_other {b k : Nat} (hne : k ≠ b) : ∀ (vs : List Value) (o : Nat) {w : World}, (w.setCells b o vs).heap[k]? = w.heap[k]?
  | [], _, _ => rfl
  | v :: r, o, w => (setCells_other hne r (o + 1)).trans (Below.heap_setCell _ _ _ _ (fun e => hne e))
set_option maxRecDepth 100000 in
set_option maxHeartbeats 4000000 in
theorem leaf_num {br : Nat} {nm : Int} {tp : Option Addr} {tc : Nat} {ep : Option Addr} {ec nodes : Nat} {w : World} {n : Nat} (hn : n < 200) (h : RSt br nm tp tc ep ec nodes w) : Calls Tryz.prog 74 #[.pointer (some ⟨br, 0, none⟩), .agg #[.int .i64 1, .int .i64 0, .int .i64 0, .int .i64 0, .string (dec n), .slice none 0 0]] w (LeafR w n) := by
  have HPa := Lib.hid (fun (w : World) (hm : Max w) => lparse_any n hn hm)
  clear hn
  have g1 := Below.new w (.cells #[.int .i64 1, .int .i64 0, .int .i64 0, .int .i64 0, .string (dec n), .slice none 0 0] 27)
  have g2 := Below.new (w.alloc (.cells #[.int .i64 1, .int .i64 0, .int .i64 0, .int .i64 0, .string (dec n), .slice none 0 0] 27)) (.cells #[.int .i64 0, .int .i64 0, .int .i64 0, .int .i64 0, .int .i64 0, .bool false, .int .i64 0, .slice none 0 0, .slice none 0 0] 42)
  have gg := Below.next g1 g2
  have H := Lib.hid (And.intro ((Blk.new (w := w) 27 [.int .i64 1, .int .i64 0, .int .i64 0, .int .i64 0, .string (dec n), .slice none 0 0]).next g2) (And.intro (Blk.new (w := (w.alloc (.cells #[.int .i64 1, .int .i64 0, .int .i64 0, .int .i64 0, .string (dec n), .slice none 0 0] 27))) 42 [.int .i64 0, .int .i64 0, .int .i64 0, .int .i64 0, .int .i64 0, .bool false, .int .i64 0, .slice none 0 0, .slice none 0 0]) (And.intro gg (h.next gg))))
  simp only [World.size_alloc] at H
  clear g1 g2 gg h
  go_enter Tryz.func74, Tryz.ntmps74
  go_upto_region 1 with fail
  change Hid (Blk ((w.alloc (.cells #[.int .i64 1, .int .i64 0, .int .i64 0, .int .i64 0, .string (dec n), .slice none 0 0] 27)).alloc (.cells #[.int .i64 0, .int .i64 0, .int .i64 0, .int .i64 0, .int .i64 0, .bool false, .int .i64 0, .slice none 0 0, .slice none 0 0] 42)) _ _ _ ∧ _) at H
  generalize ((w.alloc (.cells #[.int .i64 1, .int .i64 0, .int .i64 0, .int .i64 0, .string (dec n), .slice none 0 0] 27)).alloc (.cells #[.int .i64 0, .int .i64 0, .int .i64 0, .int .i64 0, .int .i64 0, .bool false, .int .i64 0, .slice none 0 0, .slice none 0 0] 42)) = w1 at *
  obtain ⟨b0, hb0⟩ : ∃ b, w.heap.size = b := ⟨_, rfl⟩
  obtain ⟨b1, hb1⟩ : ∃ b, b0 + 1 = b := ⟨_, rfl⟩
  rw [hb0] at H ⊢
  rw [hb1] at H ⊢
  have HB := Lib.hid (And.intro hb0 hb1)
  clear hb0 hb1
  have x0 := H.out.1.cell (i := 0) rfl
  have x1 := H.out.1.cell (i := 1) rfl
  have x2 := H.out.1.cell (i := 2) rfl
  have x3 := H.out.1.cell (i := 3) rfl
  have x4 := H.out.1.cell (i := 4) rfl
  have x5 := H.out.1.cell (i := 5) rfl
  have HP := Lib.hid (HPa.out _ H.out.2.2.2.max)
  go_wp2_with fail
  refine HP.out.mono ?_; rintro r w2 ⟨p, c, rfl, hv, hb2, hf2⟩
  have gs := Below.new w2 (.cells #[.int .i64 32, .slice p 1 c, .bool true, .bool false] 118)
  have gn := Below.next hb2 gs
  have hvr := (VRA.of hv hf2).turn (A' := fun k => b1 < k) (w' := (w2.alloc (.cells #[.int .i64 32, .slice p 1 c, .bool true, .bool false] 118))) fun k hk hl => ⟨Nat.lt_of_lt_of_le H.out.2.1.lt hk, gs.block k hl⟩
  have H3 := Lib.hid (And.intro (H.out.2.1.next gn) (And.intro (Below.trans H.out.2.2.1 (gn.mono (by have h := H.out.1.lt; have := HB.out.1; omega))) (And.intro hvr (Blk.new (w := w2) 118 [.int .i64 32, .slice p 1 c, .bool true, .bool false]))))
  change Hid (Blk (w2.alloc (.cells #[.int .i64 32, .slice p 1 c, .bool true, .bool false] 118)) _ _ _ ∧ _) at H3
  clear gs gn hb2 hv hf2 hvr x0 x1 x2 x3 x4 x5 HP HPa H
  go_upto_region 4 with fail
  generalize (w2.alloc (.cells #[.int .i64 32, .slice p 1 c, .bool true, .bool false] 118)) = w3 at *
  obtain ⟨bL, hbL⟩ : ∃ b, w2.heap.size = b := ⟨_, rfl⟩
  rw [hbL] at H3 ⊢
  clear hbL
  have l0 := H3.out.2.2.2.cell (i := 0) rfl
  have l1 := H3.out.2.2.2.cell (i := 1) rfl
  have HN := Lib.hid (tnum_any H3.out.2.2.1.1)
  go_wp2_with fail
  refine HN.out.mono ?_; rintro r w9 ⟨rfl, hb9⟩
  have H9 := Lib.hid (And.intro (H3.out.1.next hb9) (And.intro (Below.trans H3.out.2.1 (hb9.mono (by have h := H3.out.1.lt; have := HB.out; omega))) (H3.out.2.2.1.turn (A' := fun k => b1 < k) (w' := w9) fun k hk hl => ⟨hk, hb9.block k hl⟩)))
  clear hb9 l0 l1 HN H3
  have HT : Hid (w9.there b1 0 9) := Lib.hid (fun j hj => by rw [Nat.zero_add]; exact ⟨by rw [H9.out.1.cell (List.getElem?_eq_getElem hj)]; rfl, H9.out.1.frz j⟩)
  go_wp2_with ((refine wpList_store_mid rfl 42 _ _ rfl b1 0 #[.int .i64 1, .int .i64 0, .int .i64 32, .int .i64 0, .int .i64 0, .bool false, .int .i64 32, .slice p 1 c, .slice none 0 0] rfl rfl HT.out sizeTE (by kernel_rfl) ?_))
  have hk9 := H9.out.1.put [.int .i64 1, .int .i64 0, .int .i64 32, .int .i64 0, .int .i64 0, .bool false, .int .i64 32, .slice p 1 c, .slice none 0 0] rfl
  have hb9 := Below.sets (b := b1) (by have := HB.out; omega) [.int .i64 1, .int .i64 0, .int .i64 32, .int .i64 0, .int .i64 0, .bool false, .int .i64 32, .slice p 1 c, .slice none 0 0] 0 H9.out.2.1
  have hv9 := H9.out.2.2.turn (A' := fun k => b0 ≤ k) (w' := w9.setCells b1 0 [.int .i64 1, .int .i64 0, .int .i64 32, .int .i64 0, .int .i64 0, .bool false, .int .i64 32, .slice p 1 c, .slice none 0 0]) fun k hk hl => ⟨by have := HB.out.2; omega, setCells_other (b := b1) (Nat.ne_of_gt hk) _ _⟩
  exact bodyPost_ret (v := .agg #[.int .i64 1, .int .i64 0, .int .i64 32, .int .i64 0, .int .i64 0, .bool false, .int .i64 32, .slice p 1 c, .slice none 0 0]) (results_cell_row rfl _ _ b1 _ _ _ _ rfl hk9 Tryz.underlying42 rfl sizeTE) rfl ⟨_, _, rfl, by rw [HB.out.1]; exact hv9, by rw [HB.out.1]; exact hb9⟩
theorem lo64 (nm : Int) : ∃ n : Nat, n < 18446744073709551616 ∧ IntKind.u64.wrap nm = (n : Int) ∧ n % 2 ^ 32 = lo32 nm := by
  refine ⟨(nm % 18446744073709551616).toNat, by omega, ?_, ?_⟩
  · unfold IntKind.wrap
    rw [show (2 : Int) ^ IntKind.u64.bits = 18446744073709551616 from by decide, show IntKind.u64.signed = false from rfl]
    simp only [Bool.false_and]
    rw [if_neg (by decide)]
    omega
  · unfold lo32
    show _ % 4294967296 = _
    omega
set_option maxRecDepth 100000 in
set_option maxHeartbeats 4000000 in
theorem leaf_nm {br : Nat} {nm : Int} {tp : Option Addr} {tc : Nat} {ep : Option Addr} {ec nodes : Nat} {w : World} (h : RSt br nm tp tc ep ec nodes w) : Calls Tryz.prog 74 #[.pointer (some ⟨br, 0, none⟩), .agg #[.int .i64 2, .int .i64 0, .int .i64 0, .int .i64 0, .string ⟨#[80]⟩, .slice none 0 0]] w (LeafR w (lo32 nm)) := by
  obtain ⟨n6, hn6, hwu, hlo⟩ := lo64 nm
  have HNw := Lib.hid (fun (w : World) (t : Nat) => new_32 (w := w) n6 hn6 t)
  have HLo := Lib.hid hlo
  clear hn6 hlo
  have g1 := Below.new w (.cells #[.int .i64 2, .int .i64 0, .int .i64 0, .int .i64 0, .string ⟨#[80]⟩, .slice none 0 0] 27)
  have g2 := Below.new (w.alloc (.cells #[.int .i64 2, .int .i64 0, .int .i64 0, .int .i64 0, .string ⟨#[80]⟩, .slice none 0 0] 27)) (.cells #[.int .i64 0, .int .i64 0, .int .i64 0, .int .i64 0, .int .i64 0, .bool false, .int .i64 0, .slice none 0 0, .slice none 0 0] 42)
  have gg := Below.next g1 g2
  have H := Lib.hid (And.intro ((Blk.new (w := w) 27 [.int .i64 2, .int .i64 0, .int .i64 0, .int .i64 0, .string ⟨#[80]⟩, .slice none 0 0]).next g2) (And.intro (Blk.new (w := (w.alloc (.cells #[.int .i64 2, .int .i64 0, .int .i64 0, .int .i64 0, .string ⟨#[80]⟩, .slice none 0 0] 27))) 42 [.int .i64 0, .int .i64 0, .int .i64 0, .int .i64 0, .int .i64 0, .bool false, .int .i64 0, .slice none 0 0, .slice none 0 0]) (And.intro gg (h.next gg))))
  simp only [World.size_alloc] at H
  clear g1 g2 gg h
  go_enter Tryz.func74, Tryz.ntmps74
  go_upto_region 1 with fail
  change Hid (Blk ((w.alloc (.cells #[.int .i64 2, .int .i64 0, .int .i64 0, .int .i64 0, .string ⟨#[80]⟩, .slice none 0 0] 27)).alloc (.cells #[.int .i64 0, .int .i64 0, .int .i64 0, .int .i64 0, .int .i64 0, .bool false, .int .i64 0, .slice none 0 0, .slice none 0 0] 42)) _ _ _ ∧ _) at H
  generalize ((w.alloc (.cells #[.int .i64 2, .int .i64 0, .int .i64 0, .int .i64 0, .string ⟨#[80]⟩, .slice none 0 0] 27)).alloc (.cells #[.int .i64 0, .int .i64 0, .int .i64 0, .int .i64 0, .int .i64 0, .bool false, .int .i64 0, .slice none 0 0, .slice none 0 0] 42)) = w1 at *
  obtain ⟨b0, hb0⟩ : ∃ b, w.heap.size = b := ⟨_, rfl⟩
  obtain ⟨b1, hb1⟩ : ∃ b, b0 + 1 = b := ⟨_, rfl⟩
  rw [hb0] at H ⊢
  rw [hb1] at H ⊢
  have HB := Lib.hid (And.intro hb0 hb1)
  clear hb0 hb1
  have x0 := H.out.1.cell (i := 0) rfl
  have x1 := H.out.1.cell (i := 1) rfl
  have x2 := H.out.1.cell (i := 2) rfl
  have x3 := H.out.1.cell (i := 3) rfl
  have x4 := H.out.1.cell (i := 4) rfl
  have x5 := H.out.1.cell (i := 5) rfl
  go_upto_region 6 with fail
  have k0 := H.out.2.2.2.bk.cell (i := 0) rfl
  have k1 := H.out.2.2.2.bk.cell (i := 1) rfl
  have HFi : Hid (∀ W : World, Below w1.heap.size w1 W → Calls Tryz.prog 101 #[.agg #[.slice tp 1 tc, .slice ep 1 ec], .string ⟨#[80]⟩] W fun e w2 => e = .returned (.agg #[.string ⟨#[80]⟩, .int .i64 1, .int .i64 nm, .string ⟨#[]⟩, .int .i64 0, .bool false, .int .i64 0, .slice none 0 0, .int .i64 0, .bool false, .int .i64 0, .int .i64 0, .int .i64 0, .int .i64 0, .int .i64 0, .bool false, .int .i64 0, .slice none 0 0, .slice none 0 0]) ∧ Below W.heap.size W w2) := Lib.hid fun W hb => tfind_any (H.out.2.2.2.next hb).th
  have HTr := Lib.hid (Tr.nil w1)
  refine wp_region_webCR (w0 := w1) [.known (.pointer (some ⟨br, 0, none⟩)), .known (.pointer (some ⟨br, 0, none⟩)), .known (.pointer (some ⟨br, 0, none⟩)), .known (.agg #[.slice tp 1 tc, .slice ep 1 ec]), .known (.pointer (some ⟨b0, 4, none⟩)), .known (.string ⟨#[80]⟩), .known (.agg #[.string ⟨#[80]⟩, .int .i64 1, .int .i64 nm, .string ⟨#[]⟩, .int .i64 0, .bool false, .int .i64 0, .slice none 0 0, .int .i64 0, .bool false, .int .i64 0, .int .i64 0, .int .i64 0, .int .i64 0, .int .i64 0, .bool false, .int .i64 0, .slice none 0 0, .slice none 0 0]), .box 81 [.string ⟨#[]⟩, .int .i64 0, .int .i64 0, .string ⟨#[]⟩, .int .i64 0, .bool false, .int .i64 0, .slice none 0 0, .int .i64 0, .bool false, .int .i64 0, .int .i64 0, .int .i64 0, .int .i64 0, .int .i64 0, .bool false, .int .i64 0, .slice none 0 0, .slice none 0 0]] [1, 1, 1, 1, 1, 1, 1, 1] [] 38 1 #[true, true, true, true, true, true, true, true, false] (by kernel_rfl) (by kernel_rfl) rfl rfl rfl (Nat.le_of_ble_eq_true rfl) ⟨Sp.Mono.known, Sp.Mono.known, Sp.Mono.known, Sp.Mono.known, Sp.Mono.known, Sp.Mono.known, Sp.Mono.known, Sp.Mono.box, trivial⟩ HTr.out.drew (fun _ _ _ _ _ h => h) (A := ?_) ?_ ?_ ?_
  rotate_left
  · intro u
    simp only [fillC, Sp.val, Sp.box, Nat.reduceBEq, cond_false, Act.put, List.setIfInBounds_toArray, List.set_cons_zero, List.set_cons_succ]
    rfl
  iterate 6 (refine ob_yes (web_op (o := _) rfl (fun u W hT hd Q K hK => ?_)) ?_; · (have cc0 : W.cell? _ = some _ := After.cell k0 ⟨W, hT.bel⟩; have cc1 : W.cell? _ = some _ := After.cell k1 ⟨W, hT.bel⟩; have cc2 : W.cell? _ = some _ := After.cell x4 ⟨W, hT.bel⟩; go_simp; exact hK.out _ _ (Below.refl _ _) rfl (fun p hp => by cases hp) List.nodup_nil))
  refine ob_yes (web_op (o := _) rfl (fun u W hT hd Q K hK => ?_)) ?_
  · (try simp only [Act.put, List.setIfInBounds_toArray, List.set_cons_zero, List.set_cons_succ] at hK)
    have cc0 : W.cell? _ = some _ := After.cell k0 ⟨W, hT.bel⟩
    have cc1 : W.cell? _ = some _ := After.cell k1 ⟨W, hT.bel⟩
    have cc2 : W.cell? _ = some _ := After.cell x4 ⟨W, hT.bel⟩
    go_simp
    refine (HFi.out _ hT.bel).mono ?_; rintro r w9 ⟨rfl, hb9⟩
    exact hK.out _ _ hb9 rfl (fun p hp => by cases hp) List.nodup_nil
  refine ob_yes (web_op (o := _) rfl (fun u W hT hd Q K hK => ?_)) ?_
  · (try simp only [Act.put, List.setIfInBounds_toArray, List.set_cons_zero, List.set_cons_succ] at hK)
    have cc0 : W.cell? _ = some _ := After.cell k0 ⟨W, hT.bel⟩
    have cc1 : W.cell? _ = some _ := After.cell k1 ⟨W, hT.bel⟩
    have cc2 : W.cell? _ = some _ := After.cell x4 ⟨W, hT.bel⟩
    go_simp
    exact hK.out _ _ (Below.new _ _) ⟨_, rfl⟩ (fun p hp => by cases hp with | head => exact ⟨Blk.new 81 [.string ⟨#[]⟩, .int .i64 0, .int .i64 0, .string ⟨#[]⟩, .int .i64 0, .bool false, .int .i64 0, .slice none 0 0, .int .i64 0, .bool false, .int .i64 0, .int .i64 0, .int .i64 0, .int .i64 0, .int .i64 0, .bool false, .int .i64 0, .slice none 0 0, .slice none 0 0], Nat.le_refl _⟩ | tail _ hp => cases hp) (by simp [ownAt, spAt, Sp.own, Sp.box])
  exact ob_nil
  intro u wx hT hok
  obtain ⟨h0, h1, h2, h3, h4, h5, h6, h7, _⟩ := hok
  clear h0 h1 h2 h3 h4 h5 h6
  simp only [ownsC, Sp.own, Sp.box, Nat.reduceBEq, cond_false, List.nil_append, List.append_nil, Nat.zero_add, Nat.reduceAdd] at hT
  have d7 := h7 (by kernel_rfl)
  clear h7
  generalize u 7 = x7 at *
  obtain ⟨L7, rfl⟩ := d7
  (try dsimp only [List.nil_append, List.cons_append] at hT)
  have HTE := Lib.hid hT
  clear hT
  clear HTr x0 x1 x2 x3 x4 x5 k0 k1 HFi
  refine wpAny_of_held (S := fun _ => True) _ _ _ _ ?_
  have hk7 := HTE.out.at 0 rfl
  have hge := HTE.out.ge _ (List.mem_cons_self ..)
  have hlt7 : b1 < L7 := Nat.lt_of_lt_of_le H.out.2.1.lt hge
  have hr7 := H.out.2.1.next HTE.out.bel
  have hb7 := Below.trans H.out.2.2.1 (HTE.out.bel.mono (by have h := H.out.1.lt; have := HB.out; omega))
  refine wpAnyH_ready (rs := [8]) (by kernel_rfl) (by simp) ?_
  refine held_cons rfl (fun K hK => ?_) AllReadyH.nil
  refine step_store rfl _ _ _ rfl L7 [.string ⟨#[80]⟩, .int .i64 1, .int .i64 nm, .string ⟨#[]⟩, .int .i64 0, .bool false, .int .i64 0, .slice none 0 0, .int .i64 0, .bool false, .int .i64 0, .int .i64 0, .int .i64 0, .int .i64 0, .int .i64 0, .bool false, .int .i64 0, .slice none 0 0, .slice none 0 0] rfl rfl hk7 (Nat.le_refl _) sizeTh (by simp [Value.oneCell']) ?_
  refine hK.out _ _ trivial (fun _ => ?_)
  clear hK K
  (try simp only [Act.put, List.setIfInBounds_toArray, List.set_cons_zero, List.set_cons_succ])
  refine wpAnyH_done (by kernel_rfl) ?_ _
  have H8 := Lib.hid (And.intro (hk7.put [.string ⟨#[80]⟩, .int .i64 1, .int .i64 nm, .string ⟨#[]⟩, .int .i64 0, .bool false, .int .i64 0, .slice none 0 0, .int .i64 0, .bool false, .int .i64 0, .int .i64 0, .int .i64 0, .int .i64 0, .int .i64 0, .bool false, .int .i64 0, .slice none 0 0, .slice none 0 0] rfl) (And.intro (Blk.far (b := b1) (c := L7) (Nat.ne_of_lt hlt7) [.string ⟨#[80]⟩, .int .i64 1, .int .i64 nm, .string ⟨#[]⟩, .int .i64 0, .bool false, .int .i64 0, .slice none 0 0, .int .i64 0, .bool false, .int .i64 0, .int .i64 0, .int .i64 0, .int .i64 0, .int .i64 0, .bool false, .int .i64 0, .slice none 0 0, .slice none 0 0] 0 hr7) (And.intro (Below.sets (b := L7) (by have := HB.out; omega) [.string ⟨#[80]⟩, .int .i64 1, .int .i64 nm, .string ⟨#[]⟩, .int .i64 0, .bool false, .int .i64 0, .slice none 0 0, .int .i64 0, .bool false, .int .i64 0, .int .i64 0, .int .i64 0, .int .i64 0, .int .i64 0, .bool false, .int .i64 0, .slice none 0 0, .slice none 0 0] 0 hb7) hlt7)))
  generalize wx.setCells L7 0 [.string ⟨#[80]⟩, .int .i64 1, .int .i64 nm, .string ⟨#[]⟩, .int .i64 0, .bool false, .int .i64 0, .slice none 0 0, .int .i64 0, .bool false, .int .i64 0, .int .i64 0, .int .i64 0, .int .i64 0, .int .i64 0, .bool false, .int .i64 0, .slice none 0 0, .slice none 0 0] = w8 at *
  clear hk7 hr7 hb7 hlt7 hge HTE H
  have q1 := H8.out.1.cell (i := 1) rfl
  have q2 := H8.out.1.cell (i := 2) rfl
  go_wp2_with fail
  refine (HNw.out w8 55).mono ?_; rintro r w2 ⟨v, rfl, hv, hb2, hf2⟩
  have gq := Below.new w8 (.cells #[.int .u64 (n6 : Nat)] 55)
  rw [HLo.out] at hv
  obtain ⟨p, c, e, _⟩ := hv.ex
  replace e : v = .agg #[.int .i64 32, .slice p 1 c] := e
  subst e
  have gs := Below.new w2 (.cells #[.int .i64 32, .slice p 1 c] 39)
  have gn := Below.next (Below.next gq hb2) gs
  have hlt1 := H8.out.2.1.lt
  have hvr := (VRA.of hv hf2).turn (A' := fun k => b1 < k) (w' := (w2.alloc (.cells #[.int .i64 32, .slice p 1 c] 39))) fun k hk hl => ⟨Nat.lt_of_lt_of_le hlt1 (Nat.le_trans gq.size hk), gs.block k hl⟩
  have H3 := Lib.hid (And.intro (H8.out.2.1.next gn) (And.intro (Below.trans H8.out.2.2.1 (gn.mono (by have := HB.out; omega))) (And.intro hvr (Blk.new (w := w2) 39 [.int .i64 32, .slice p 1 c]))))
  change Hid (Blk (w2.alloc (.cells #[.int .i64 32, .slice p 1 c] 39)) _ _ _ ∧ _) at H3
  clear gq gs gn hb2 hv hf2 hvr hlt1 q1 q2 H8 HNw HLo hwu
  go_upto_region 9 with fail
  generalize (w2.alloc (.cells #[.int .i64 32, .slice p 1 c] 39)) = w3 at *
  obtain ⟨bL, hbL⟩ : ∃ b, w2.heap.size = b := ⟨_, rfl⟩
  rw [hbL] at H3 ⊢
  clear hbL
  have l0 := H3.out.2.2.2.cell (i := 0) rfl
  have l1 := H3.out.2.2.2.cell (i := 1) rfl
  have HN := Lib.hid (tnum_any H3.out.2.2.1.1)
  go_wp2_with fail
  refine HN.out.mono ?_; rintro r w9 ⟨rfl, hb9⟩
  have H9 := Lib.hid (And.intro (H3.out.1.next hb9) (And.intro (Below.trans H3.out.2.1 (hb9.mono (by have h := H3.out.1.lt; have := HB.out; omega))) (H3.out.2.2.1.turn (A' := fun k => b1 < k) (w' := w9) fun k hk hl => ⟨hk, hb9.block k hl⟩)))
  clear hb9 l0 l1 HN H3
  have HT : Hid (w9.there b1 0 9) := Lib.hid (fun j hj => by rw [Nat.zero_add]; exact ⟨by rw [H9.out.1.cell (List.getElem?_eq_getElem hj)]; rfl, H9.out.1.frz j⟩)
  go_wp2_with ((refine wpList_store_mid rfl 42 _ _ rfl b1 0 #[.int .i64 1, .int .i64 0, .int .i64 32, .int .i64 0, .int .i64 0, .bool false, .int .i64 32, .slice p 1 c, .slice none 0 0] rfl rfl HT.out sizeTE (by kernel_rfl) ?_))
  have hk9 := H9.out.1.put [.int .i64 1, .int .i64 0, .int .i64 32, .int .i64 0, .int .i64 0, .bool false, .int .i64 32, .slice p 1 c, .slice none 0 0] rfl
  have hb9 := Below.sets (b := b1) (by have := HB.out; omega) [.int .i64 1, .int .i64 0, .int .i64 32, .int .i64 0, .int .i64 0, .bool false, .int .i64 32, .slice p 1 c, .slice none 0 0] 0 H9.out.2.1
  have hv9 := H9.out.2.2.turn (A' := fun k => b0 ≤ k) (w' := w9.setCells b1 0 [.int .i64 1, .int .i64 0, .int .i64 32, .int .i64 0, .int .i64 0, .bool false, .int .i64 32, .slice p 1 c, .slice none 0 0]) fun k hk hl => ⟨by have := HB.out.2; omega, setCells_other (b := b1) (Nat.ne_of_gt hk) _ _⟩
  exact bodyPost_ret (v := .agg #[.int .i64 1, .int .i64 0, .int .i64 32, .int .i64 0, .int .i64 0, .bool false, .int .i64 32, .slice p 1 c, .slice none 0 0]) (results_cell_row rfl _ _ b1 _ _ _ _ rfl hk9 Tryz.underlying42 rfl sizeTE) rfl ⟨_, _, rfl, by rw [HB.out.1]; exact hv9, by rw [HB.out.1]; exact hb9⟩
end Go.Proofs.YtkoggfahjlnecaaGreatDoor
