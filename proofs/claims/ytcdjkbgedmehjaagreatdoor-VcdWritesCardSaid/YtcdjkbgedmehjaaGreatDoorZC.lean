/- Texts of this claim, one behind another: V1, V2, V3, V4. They state lemmas; each names its own conditions. -/
import Derived.Test.YtcdjkbgedmehjaaGreatDoorZB
import Derived.Laws.Strings
namespace Go.Proofs.YtcdjkbgedmehjaaGreatDoor
set_option linter.unusedVariables false
open Go.RowKit Go.Sort

/-! # the reader: the next word -/
theorem Rdr.tokAt {base b : Nat} {w : World} {S : RdS} {V : Key → Value} (h : Rdr base b w S V) {bt ot n c k : Nat} (hV : V .tok = .slice (some ⟨bt, ot, none⟩) n c) {t : Bs × Nat} (ht : S.toks[k]? = some t) :
    w.cell? ⟨bt, ot + k * 2, none⟩ = some (.string (bstr t.1)) ∧ w.cell? ⟨bt, ot + k * 2 + 1, none⟩ = some (.int .i64 t.2) := by
  obtain ⟨p, c', hV', hro⟩ := h.toks
  rw [hV] at hV'
  cases hV'
  exact ⟨hro.cell (tokCells_at _ _ _ ht).1, hro.cell (tokCells_at _ _ _ ht).2⟩
set_option maxRecDepth 100000 in
set_option maxHeartbeats 4000000 in
theorem next_any {base b : Nat} {w : World} {S : RdS} {V : Key → Value} (h : Rdr base b w S V) {t : Bs × Nat} (ht : S.toks[S.pos]? = some t) (hN : (S.toks.length : Int) ≤ 3000000) :
    Calls Tryz.prog 62 #[.pointer (some ⟨b, 0, none⟩)] w fun e w' => e = .returned (.agg #[.string (bstr t.1), .int .i64 t.2]) ∧ Rdr base b w' { S with pos := S.pos + 1 } V ∧ Only (fun k => k = b) w w' := by
  obtain ⟨p, c, hV, hro⟩ := h.toks
  have hp : S.pos < S.toks.length := (List.getElem?_eq_some_iff.1 ht).1
  obtain ⟨bt, ot, rfl⟩ := hro.sl (tokCells_at _ _ _ ht).1
  have k0 := hro.cell (tokCells_at _ _ _ ht).1
  have k1 := hro.cell (tokCells_at _ _ _ ht).2
  have c0 := h.cell (i := 0) rfl
  have c1 := h.cell (i := 1) rfl
  have c8 := h.cell (i := 8) rfl
  rw [hV] at c0
  have HT := Lib.hid (And.intro hV ht)
  obtain ⟨n, hn⟩ : ∃ n, S.toks.length = n := ⟨_, rfl⟩
  obtain ⟨k, hk⟩ : ∃ k, S.pos = k := ⟨_, rfl⟩
  rw [hn] at c0 hp hN
  rw [hk] at c1 k0 k1 hp HT ⊢
  rw [hn] at HT
  obtain ⟨x, y⟩ := t
  simp only at k0 k1 ⊢
  generalize hX : bstr x = X at k0 ⊢
  have HX := Lib.hid hX
  have hki : (k : Int) < n := by omega
  have hk0 : (0 : Int) ≤ k := by omega
  have hw1 : IntKind.i64.wrap ((k : Int) + 1) = (k : Int) + 1 := i64_of (by omega)
  have hw2 : IntKind.i64.wrap (((k : Int) + 1) - 1) = (k : Int) := (i64_of (by omega)).trans (by omega)
  have H := Lib.hid h
  clear h ht hro hV hn hk hp hX
  go_enter Tryz.func62, Tryz.ntmps62
  go_wp2_with fail
  have hb0 := Below.new w (.cells #[.string ⟨#[]⟩, .int .i64 0] 97)
  have hk0 := Blk.new (w := w) 97 [.string ⟨#[]⟩, .int .i64 0]
  have HR0 := Lib.hid (And.intro (H.out.lim.below hb0) (And.intro hk0 (And.intro (Only.of (F := fun k => k = b) hb0) (And.intro H.out.mem.lt hb0.size))))
  have c0' := hb0.cell (World.block_lt_of_cell? _ _ c0) |>.trans c0
  have c1' := hb0.cell (World.block_lt_of_cell? _ _ c1) |>.trans c1
  have c8' := hb0.cell (World.block_lt_of_cell? _ _ c8) |>.trans c8
  have k0' := hb0.cell (World.block_lt_of_cell? _ _ k0) |>.trans k0
  have k1' := hb0.cell (World.block_lt_of_cell? _ _ k1) |>.trans k1
  have f1' := (H.out.below hb0).blk.frz 1
  have f0 := hk0.frz 0
  have f2 := hk0.frz 1
  clear c0 c1 c8 k0 k1 hb0 hk0 H
  generalize w.alloc (.cells #[.string ⟨#[]⟩, .int .i64 0] 97) = W at *
  obtain ⟨R, hR⟩ : ∃ R, w.heap.size = R := ⟨_, rfl⟩
  have HRw := Lib.hid (Nat.le_of_eq hR)
  rw [hR] at HR0 ⊢
  clear hR
  go_quiet (fail)
  go_wp2_with fail
  have h2 := (HR0.out.1.below (below_drewN nq)).at (k + 1)
  have hb2 := (HR0.out.2.2.1.below (below_drewN (B := W.heap.size) nq) (Nat.le_trans HRw.out HR0.out.2.2.2.2)).set (p := ⟨b, 1, none⟩) rfl (.int .i64 ((k + 1 : Nat) : Int))
  have hkR := (HR0.out.2.1.next (below_drewN nq)).other (a := ⟨b, 1, none⟩) (.int .i64 ((k + 1 : Nat) : Int)) (Ne.symm (Nat.ne_of_lt HR0.out.2.2.2.1))
  have H2 := Lib.hid (And.intro h2 (And.intro hb2 (And.intro hkR HRw.out)))
  clear h2 hb2 hkR HR0 c0' c1' c8' k0' k1' f1' f0 f2
  have hcast : ((k : Int) + 1) = ((k + 1 : Nat) : Int) := rfl
  rw [hcast] at hw1 hw2 ⊢
  clear hcast
  generalize (W.drewN nq).setCell ⟨b, 1, none⟩ (.int .i64 ((k + 1 : Nat) : Int)) = W2 at *
  have c0 := H2.out.1.r.cell (i := 0) rfl
  have c1 := H2.out.1.r.cell (i := 1) rfl
  rw [HT.out.1] at c0
  have k0 := (H2.out.1.r.tokAt HT.out.1 HT.out.2).1
  have k1 := (H2.out.1.r.tokAt HT.out.1 HT.out.2).2
  simp only [HX.out] at k0 k1
  have f0 := H2.out.2.2.1.frz 0
  have f1 := H2.out.2.2.1.frz 1
  have d0 := H2.out.2.2.1.cell (i := 0) rfl
  have d1 := H2.out.2.2.1.cell (i := 1) rfl
  simp only at c1
  have H3 := Lib.hid (And.intro (H2.out.1.below ((Below.refl _ _).drew)) (And.intro (H2.out.2.1.below ((Below.refl W2.heap.size W2).drew) H2.out.2.1.size) (And.intro (H2.out.2.2.1.next ((Below.refl _ _).drew)) H2.out.2.2.2)))
  generalize ((k + 1 : Nat) : Int) = z at hw1 hw2 c1 ⊢
  refine wp_region_still_tail 11 (by kernel_rfl) (by kernel_rfl) ?_
  simp only [List.take_succ_cons, List.take_zero, List.drop_succ_cons, List.drop_zero]
  change wpStill _ _ W2.drew (fun a' => wpList _ _ _ _ a' W2.drew) _ _
  have c0' : W2.drew.cell? _ = _ := c0
  have c1' : W2.drew.cell? _ = _ := c1
  have k0' : W2.drew.cell? _ = _ := k0
  have k1' : W2.drew.cell? _ = _ := k1
  have f0' : W2.drew.frozen? _ = _ := f0
  have f1' : W2.drew.frozen? _ = _ := f1
  have d0' : W2.drew.cell? _ = _ := d0
  have d1' : W2.drew.cell? _ = _ := d1
  clear c0 c1 k0 k1 f0 f1 d0 d1 H2
  generalize W2.drew = W3 at *
  repeat still_step
  try refine wpStill_nil ?_
  go_wp2_with fail
  have hB3 := ((Below.refl R W3).setCell (show R ≤ (⟨R, 0, none⟩ : Addr).block from Nat.le_refl _) (.string X)).setCell (show R ≤ (⟨R, 1, none⟩ : Addr).block from Nat.le_refl _) (.int .i64 y)
  have hk3 := (H3.out.2.2.1.set 0 (.string X)).set 1 (.int .i64 y)
  have e0 := hk3.cell (i := 0) rfl
  have e1 := hk3.cell (i := 1) rfl
  have hend := (H3.out.1.below hB3).r
  have hbe := H3.out.2.1.below hB3 H3.out.2.2.2
  refine bodyPost_ret (v := .agg #[.string X, .int .i64 y]) ?_ rfl ⟨rfl, hend, hbe⟩
  simp [results, Tryz.results62, go_sem, e0, e1]
end Go.Proofs.YtcdjkbgedmehjaaGreatDoor
namespace Go.Proofs.YtcdjkbgedmehjaaGreatDoor
set_option linter.unusedVariables false
open Go.RowKit Go.Sort

/-! # the reader: is there a word; comments (none) -/
set_option maxRecDepth 100000 in
set_option maxHeartbeats 4000000 in
theorem more_any {base b : Nat} {w : World} {S : RdS} {V : Key → Value} (h : Rdr base b w S V) {q : Bool} (hq : decide (S.pos < S.toks.length) = q) :
    Calls Tryz.prog 36 #[.pointer (some ⟨b, 0, none⟩)] w fun e w' => e = .returned (.bool q) ∧ ∃ k, w' = w.drewN k := by
  obtain ⟨p, c, hV, hro⟩ := h.toks
  have c0 := h.cell (i := 0) rfl
  have c1 := h.cell (i := 1) rfl
  have c8 := h.cell (i := 8) rfl
  rw [hV] at c0
  obtain ⟨n, hn⟩ : ∃ n, S.toks.length = n := ⟨_, rfl⟩
  obtain ⟨k, hk⟩ : ∃ k, S.pos = k := ⟨_, rfl⟩
  rw [hn, hk] at hq
  rw [hn] at c0
  rw [hk] at c1
  clear h hro hV hn hk
  cases q
  · have hki : ¬ (k : Int) < n := by simp at hq; omega
    go_enter Tryz.func36, Tryz.ntmps36
    go_wp2_with fail
    go_quiet (fail)
    go_wp2_with fail
    go_ret
    exact ⟨rfl, _, rfl⟩
  · have hki : (k : Int) < n := by simp at hq; omega
    go_enter Tryz.func36, Tryz.ntmps36
    go_wp2_with fail
    go_quiet (fail)
    go_wp2_with fail
    go_ret
    exact ⟨rfl, _, rfl⟩
/-- there is no comment at this place -/
def NoCom (S : RdS) : Prop := ∀ t, S.toks[S.pos]? = some t → t.1 ≠ [36, 99, 111, 109, 109, 101, 110, 116]
set_option maxRecDepth 100000 in
set_option maxHeartbeats 4000000 in
theorem comments_none {base b : Nat} {w : World} {S : RdS} {V : Key → Value} (h : Rdr base b w S V) (hn : NoCom S) :
    Calls Tryz.prog 57 #[.pointer (some ⟨b, 0, none⟩)] w fun e w' => e = .returned (.tuple #[]) ∧ Rdr base b w' S V ∧ Below w.heap.size w w' := by
  have HM := Lib.hid (fun (w' : World) (hw : Rdr base b w' S V) => more_any hw rfl)
  obtain ⟨p, c, hV, hro⟩ := h.toks
  by_cases hlt : S.pos < S.toks.length
  · obtain ⟨t, ht⟩ : ∃ t, S.toks[S.pos]? = some t := ⟨_, List.getElem?_eq_getElem hlt⟩
    obtain ⟨bt, ot, rfl⟩ := hro.sl (tokCells_at _ _ _ ht).1
    have hne := hn t ht
    rw [decide_eq_true hlt] at HM
    have HH := Lib.hid (And.intro h (And.intro hV ht))
    obtain ⟨n, hn'⟩ : ∃ n, S.toks.length = n := ⟨_, rfl⟩
    obtain ⟨k, hk⟩ : ∃ k, S.pos = k := ⟨_, rfl⟩
    rw [hn'] at hlt HH
    rw [hk] at hlt HH
    have hki : (k : Int) < n := by omega
    have hk0 : (0 : Int) ≤ k := by omega
    obtain ⟨X, hX⟩ : ∃ X, bstr t.1 = X := ⟨_, rfl⟩
    have hXn : ¬ X.toList = [36, 99, 111, 109, 109, 101, 110, 116] := by rw [← hX, ByteArray.toList_eq]; simpa [bstr] using hne
    have hXb : (X.toList == [36, 99, 111, 109, 109, 101, 110, 116]) = false := by rw [beq_eq_false_iff_ne]; exact hXn
    clear hXn
    have HK := Lib.hid (And.intro hk hX)
    clear h hn hro hV hlt hne hk hn' hX ht
    go_enter Tryz.func57, Tryz.ntmps57
    go_wp2_with fail
    go_loopw [] (fun wr => Rdr base b wr S V ∧ Below w.heap.size w wr) (fun _ => 0)
    case atStart => exact ⟨HH.out.1, Below.refl _ _⟩
    case round =>
      have HL := Lib.hid hrel
      have c0 := hrel.1.cell (i := 0) rfl
      have c1 := hrel.1.cell (i := 1) rfl
      have k0 := (hrel.1.tokAt HH.out.2.1 HH.out.2.2).1
      rw [HH.out.2.1] at c0
      simp only [HK.out] at c1 k0
      clear hrel
      have HA : Hid (∀ j, Calls Tryz.prog 36 #[.pointer (some ⟨b, 0, none⟩)] (wr.drewN j) fun e w' => e = .returned (.bool true) ∧ ∃ k, w' = (wr.drewN j).drewN k) := Lib.hid fun j => HM.out _ (HL.out.1.below (below_drewN j))
      go_wp2_with fail
      go_quiet (go_must (exact (HA.out _).mono fun e w' ⟨he, n, hn⟩ => ⟨he, _, hn.trans (World.drewN_drewN _ _ _)⟩))
      go_wp2_with fail
      go_end0
      exact ⟨rfl, HL.out.1.below (below_drewN _), HL.out.2.trans ((below_drewN _).mono HL.out.2.size)⟩
  · rw [decide_eq_false hlt] at HM
    have HH := Lib.hid h
    clear h hn hro hV hlt
    go_enter Tryz.func57, Tryz.ntmps57
    go_wp2_with fail
    go_loopw [] (fun wr => Rdr base b wr S V ∧ Below w.heap.size w wr) (fun _ => 0)
    case atStart => exact ⟨HH.out, Below.refl _ _⟩
    case round =>
      have HL := Lib.hid hrel
      clear hrel
      have HA : Hid (∀ j, Calls Tryz.prog 36 #[.pointer (some ⟨b, 0, none⟩)] (wr.drewN j) fun e w' => e = .returned (.bool false) ∧ ∃ k, w' = (wr.drewN j).drewN k) := Lib.hid fun j => HM.out _ (HL.out.1.below (below_drewN j))
      go_wp2_with fail
      go_quiet (go_must (exact (HA.out _).mono fun e w' ⟨he, n, hn⟩ => ⟨he, _, hn.trans (World.drewN_drewN _ _ _)⟩))
      go_wp2_with fail
      go_end0
      exact ⟨rfl, HL.out.1.below (below_drewN _), HL.out.2.trans ((below_drewN _).mono HL.out.2.size)⟩

theorem tok_f0 (X : ByteArray) (y : Int) (w : World) : (Instr.field 97 (.agg #[.string X, .int .i64 y]) 0).run Tryz.prog w = .ok (.string X) w := by kernel_rfl
theorem tok_f1 (X : ByteArray) (y : Int) (w : World) : (Instr.field 97 (.agg #[.string X, .int .i64 y]) 1).run Tryz.prog w = .ok (.int .i64 y) w := by kernel_rfl
def kEndW : Bs := [36, 101, 110, 100]
def posOf (w : World) (b : Nat) : Nat := match w.cell? ⟨b, 1, none⟩ with
  | some (.int _ z) => z.toNat
  | _ => 0
theorem Rdr.posOf {base b : Nat} {w : World} {S : RdS} {V : Key → Value} (h : Rdr base b w S V) : posOf w b = S.pos := by
  have c1 := h.cell (i := 1) rfl
  unfold Go.Proofs.YtcdjkbgedmehjaaGreatDoor.posOf
  rw [c1]
  simp
set_option maxRecDepth 100000 in
set_option maxHeartbeats 4000000 in
/-- up to the next end -/
theorem skip_any {base b : Nat} {w : World} {S : RdS} {V : Key → Value} (h : Rdr base b w S V) (k : Nat) (hk : ∀ j, j < k → ∃ t, S.toks[S.pos + j]? = some t ∧ t.1 ≠ kEndW) {te : Bs × Nat} (he : S.toks[S.pos + k]? = some te) (hte : te.1 = kEndW) (hN : (S.toks.length : Int) ≤ 3000000) :
    Calls Tryz.prog 59 #[.pointer (some ⟨b, 0, none⟩)] w fun e w' => e = .returned (.tuple #[]) ∧ Rdr base b w' { S with pos := S.pos + k + 1 } V ∧ Only (fun k => k = b) w w' := by
  have HH := Lib.hid (And.intro h (And.intro hk (And.intro he (And.intro hte hN))))
  clear h hk he hte hN
  go_enter Tryz.func59, Tryz.ntmps59
  go_wp2_with fail
  go_loopw [] (fun wr => ∃ j, j ≤ k ∧ Rdr base b wr { S with pos := S.pos + j } V ∧ Only (fun k => k = b) w wr) (fun wr => S.pos + k - posOf wr b)
  case atStart => exact ⟨0, Nat.zero_le _, HH.out.1, Only.refl _ _⟩
  case round =>
    obtain ⟨j, hj, hr, ho⟩ := hrel
    have HL := Lib.hid (And.intro hj (And.intro hr ho))
    have c8 := hr.cell (i := 8) rfl
    clear hr ho
    by_cases hlt : j < k
    · obtain ⟨t, ht, hne⟩ := HH.out.2.1 j hlt
      have HC := Lib.hid (next_any HL.out.2.1 (t := t) ht HH.out.2.2.2.2)
      obtain ⟨X, hX⟩ : ∃ X, bstr t.1 = X := ⟨_, rfl⟩
      have hXn : ¬ X.toList = [36, 101, 110, 100] := by rw [← hX, ByteArray.toList_eq]; simpa [bstr, kEndW] using hne
      have hXb : (X.toList == [36, 101, 110, 100]) = false := by rw [beq_eq_false_iff_ne]; exact hXn
      rw [hX] at HC
      have HX := Lib.hid (And.intro hXn (And.intro hlt (Nat.le_of_lt hlt)))
      have hf := fun w => tok_f0 X t.2 w
      clear hX hne ht hlt hj hXn
      go_wp2_with fail
      refine HC.out.mono ?_; rintro e w1 ⟨rfl, hr1, ho1⟩
      have H1 := Lib.hid (And.intro hr1 (HL.out.2.2.trans ho1))
      clear hr1 ho1 HC
      go_wp2_with fail
      go_roundw
      case rel => exact ⟨j + 1, HX.out.2.1, H1.out.1, H1.out.2⟩
      case measure =>
        have e1 := H1.out.1.posOf
        have e2 := HL.out.2.1.posOf
        have := HX.out.2.1
        simp only at e1 e2
        omega
    · obtain rfl : j = k := by omega
      have HC := Lib.hid (next_any HL.out.2.1 (t := te) HH.out.2.2.1 HH.out.2.2.2.2)
      have hte : bstr te.1 = ⟨#[36, 101, 110, 100]⟩ := by rw [HH.out.2.2.2.1]; rfl
      rw [hte] at HC
      have hf := fun w => tok_f0 ⟨#[36, 101, 110, 100]⟩ te.2 w
      clear hlt hj hte
      go_wp2_with fail
      refine HC.out.mono ?_; rintro e w1 ⟨rfl, hr1, ho1⟩
      have H1 := Lib.hid (And.intro hr1 (HL.out.2.2.trans ho1))
      clear hr1 ho1 HC
      go_wp2_with fail
      go_end0
      exact ⟨rfl, H1.out.1, H1.out.2⟩
end Go.Proofs.YtcdjkbgedmehjaaGreatDoor
namespace Go.Proofs.YtcdjkbgedmehjaaGreatDoor
set_option linter.unusedVariables false
open Go.RowKit Go.Sort

/-! # the reader: words that are wanted -/
theorem strCells_at (l : List Bs) (i : Nat) (h : i < l.length) : (strCells l)[i]? = some (.string (bstr (l.getD i []))) := by
  unfold strCells
  rw [List.getElem?_map, List.getElem?_eq_getElem h]
  simp [List.getD, List.getElem?_eq_getElem h]
set_option maxRecDepth 100000 in
set_option maxHeartbeats 4000000 in
theorem want_any {base b : Nat} {w : World} {S : RdS} {V : Key → Value} (h : Rdr base b w S V) (ws : List Bs) {lv : Value} (hl : RO w lv 1 ws.length (strCells ws)) (hlb : ∀ g, lv.ownBlock = some g → g ≠ b)
    (ht : ∀ j, j < ws.length → ∃ y, S.toks[S.pos + j]? = some (ws.getD j [], y)) (hN : (S.toks.length : Int) ≤ 3000000) (hn : (ws.length : Int) ≤ 1000) :
    Calls Tryz.prog 58 #[.pointer (some ⟨b, 0, none⟩), lv] w fun e w' => e = .returned (.tuple #[]) ∧ Rdr base b w' { S with pos := S.pos + ws.length } V ∧ Only (fun k => k = b) w w' := by
  obtain ⟨pl, cl, rfl⟩ := hl.form
  obtain ⟨n, hnn⟩ : ∃ n, ws.length = n := ⟨_, rfl⟩
  have HH := Lib.hid (And.intro h (And.intro ht (And.intro hN (And.intro hl hlb))))
  have HNn := Lib.hid hnn
  rw [hnn] at HH hn ⊢
  clear h hl hlb ht hN hnn
  go_enter Tryz.func58, Tryz.ntmps58
  go_wp2_with fail
  go_loopw [9] (fun iv wr => ∃ i : Nat, i ≤ n ∧ iv = .int .i64 i ∧ Rdr base b wr { S with pos := S.pos + i } V ∧ Only (fun k => k = b) w wr) (fun iv _ => n - (intOf iv).toNat)
  case atStart => exact ⟨0, Nat.zero_le _, rfl, HH.out.1, Only.refl _ _⟩
  case round =>
    obtain ⟨i, hi, rfl, hr, ho⟩ := hrel
    have HL := Lib.hid (And.intro hr ho)
    clear hr ho
    by_cases hlt : i < n
    · obtain ⟨y, ht⟩ := HH.out.2.1 i hlt
      have hat := strCells_at ws i (by rw [HNn.out]; exact hlt)
      have hlw := HL.out.2.ro HH.out.2.2.2.1 HH.out.2.2.2.2
      obtain ⟨bl, ol, rfl⟩ := hlw.sl hat
      have f0 := hlw.cell hat
      have HC := Lib.hid (next_any HL.out.1 (t := _) ht HH.out.2.2.1)
      obtain ⟨X, hX⟩ : ∃ X, bstr (ws.getD i []) = X := ⟨_, rfl⟩
      simp only [hX] at f0 HC
      have HX := Lib.hid hlt
      have hii : (i : Int) < n := by omega
      have hi0 : (0 : Int) ≤ i := by omega
      have hiw : IntKind.i64.wrap ((i : Int) + 1) = (i : Int) + 1 := i64_of (by omega)
      clear hlw hat ht hX hlt hi
      go_wp2_with fail
      refine HC.out.mono ?_; rintro e w1 ⟨rfl, hr1, ho1⟩
      have hb1 := Below.new w1 (.cells #[.string X, .int .i64 y] 97)
      have H1 := Lib.hid (And.intro (hr1.below hb1) ((HL.out.2.trans ho1).below hb1 (HL.out.2.trans ho1).size))
      clear hr1 ho1 HC hb1
      go_wp2_with fail
      go_roundw
      case rel => exact ⟨i + 1, HX.out, by go_num, by rw [← Nat.add_assoc]; exact H1.out.1, H1.out.2⟩
      case measure => have := HX.out; simp [intOf]; omega
    · obtain rfl : i = n := by omega
      clear hlt hi
      go_wp2_with fail
      go_end0
      exact ⟨rfl, HL.out.1, HL.out.2⟩
end Go.Proofs.YtcdjkbgedmehjaaGreatDoor
namespace Go.Proofs.YtcdjkbgedmehjaaGreatDoor
set_option linter.unusedVariables false
open Go.RowKit Go.Sort

/-! # words that may be names; numbers -/
theorem takeS_snoc (s : ByteArray) (k : Nat) (h : k < s.size) : s.data.toList.take (k + 1) = s.data.toList.take k ++ [s[k]] := by
  rw [List.take_succ_eq_append_getElem (by simpa using h)]; rfl
def seen (c : UInt8) : Bool := decide (33 ≤ c.toNat) && decide (c.toNat < 127)
def seens (l : List UInt8) : Bool := l.all seen
theorem seens_snoc (l : List UInt8) (c : UInt8) : seens (l ++ [c]) = (seens l && seen c) := by simp [seens]
theorem seens_take (l : List UInt8) (k : Nat) (h : seens (l.take k) = false) : seens l = false := by
  rw [← List.take_append_drop k l]
  unfold seens at *
  rw [List.all_append, h, Bool.false_and]
def printedB (s : ByteArray) : Bool := decide (s.size ≠ 0) && decide (s.size ≤ 200) && seens s.data.toList
theorem str_none {s : ByteArray} (h : s.size = 0) : s.toList.isEmpty = true := by
  have : s.toList = [] := by
    obtain ⟨d⟩ := s
    have : d.size = 0 := h
    rw [ByteArray.toList_eq]
    simp [Array.size_eq_zero_iff.1 this]
  simp [this]
theorem str_some {s : ByteArray} (h : s.size ≠ 0) : ¬ s.toList = [] ∧ s.toList.isEmpty = false := by
  have hnl : ¬ s.toList = [] := by
    intro e
    rw [ByteArray.toList_eq] at e
    exact h (by have := congrArg List.length e; simpa using this)
  exact ⟨hnl, by simpa [List.isEmpty_iff] using hnl⟩
set_option maxHeartbeats 1000000 in
theorem printed_any (s : ByteArray) (w : World) : Calls Tryz.prog 53 #[.string s] w fun e w' => e = .returned (.bool (printedB s)) ∧ w = w' := by
  by_cases h0 : s.size = 0
  · have hie := str_none h0
    have hv : printedB s = false := by unfold printedB; simp [h0]
    rw [hv]
    clear h0 hv
    go_enter Tryz.func53, Tryz.ntmps53
    go_wp2_with fail
    go_ret
    exact ⟨rfl, rfl⟩
  obtain ⟨hnl, hie⟩ := str_some h0
  by_cases h200 : (200 : Int) < s.size
  · have hv : printedB s = false := by unfold printedB; rw [decide_eq_false (show ¬ s.size ≤ 200 by omega)]; simp
    rw [hv]
    clear h0 hv hnl
    go_enter Tryz.func53, Tryz.ntmps53
    go_wp2_with fail
    go_ret
    exact ⟨rfl, rfl⟩
  have hv : printedB s = seens s.data.toList := by unfold printedB; rw [decide_eq_true h0, decide_eq_true (show s.size ≤ 200 by omega)]; rfl
  rw [hv]
  clear hv hnl h0
  go_enter Tryz.func53, Tryz.ntmps53
  go_wp2_with fail
  go_loop [13] (fun i => ∃ k : Nat, k ≤ s.size ∧ i = .int .i64 k ∧ seens (s.data.toList.take k) = true) (fun i => s.size - (intOf i).toNat)
  case atStart => exact ⟨0, Nat.zero_le _, rfl, rfl⟩
  case round =>
    obtain ⟨k, hk, rfl, hl⟩ := hrel
    by_cases hlt : k < s.size
    · have hsn := seens_snoc (s.data.toList.take k) s[k]
      rw [← takeS_snoc s k hlt, hl, Bool.true_and] at hsn
      have hwr : IntKind.i64.wrap ((k : Int) + 1) = (k : Int) + 1 := i64_of (by omega)
      clear hl
      by_cases h1 : s[k].toNat < 33
      · have HS := Lib.hid (hsn.trans (show seen s[k] = false by unfold seen; rw [decide_eq_false (show ¬ 33 ≤ s[k].toNat by omega)]; rfl))
        clear hsn
        go_wp2_with fail
        go_ret
        exact ⟨congrArg (fun b => Ending.returned (Value.bool b)) (seens_take _ _ HS.out).symm, rfl⟩
      · by_cases h2 : 127 ≤ s[k].toNat
        · have HS := Lib.hid (hsn.trans (show seen s[k] = false by unfold seen; rw [decide_eq_false (show ¬ s[k].toNat < 127 by omega)]; simp))
          clear hsn
          go_wp2_with fail
          go_ret
          exact ⟨congrArg (fun b => Ending.returned (Value.bool b)) (seens_take _ _ HS.out).symm, rfl⟩
        · have HS := Lib.hid (hsn.trans (show seen s[k] = true by unfold seen; rw [decide_eq_true (show s[k].toNat < 127 by omega), decide_eq_true (show 33 ≤ s[k].toNat by omega)]; rfl))
          clear hsn
          go_wp2_with fail
          go_round
          case rel => exact ⟨k + 1, by omega, by go_num, HS.out⟩
          case measure => simp [intOf]; omega
    · obtain rfl : k = s.size := by omega
      rw [List.take_of_length_le (by simp)] at hl
      have HL := Lib.hid hl
      clear hl
      go_wp2_with fail
      go_ret
      exact ⟨congrArg (fun b => Ending.returned (Value.bool b)) HL.out.symm, rfl⟩
def wordB (s : ByteArray) : Bool := printedB s && decide (s.data.toList.getD 0 0 ≠ 36)
set_option maxHeartbeats 1000000 in
theorem word_any (s : ByteArray) (w : World) : Calls Tryz.prog 25 #[.string s] w fun e w' => e = .returned (.bool (wordB s)) ∧ w = w' := by
  have HP := Lib.hid (printed_any s)
  by_cases hp : printedB s = true
  · have h0 : 0 < s.size := by
      rcases Nat.eq_zero_or_pos s.size with h | h
      · unfold printedB at hp; rw [decide_eq_false (by omega)] at hp; simp at hp
      · exact h
    have hat : s.data.toList.getD 0 0 = s[0] := by
      rw [List.getD_eq_getElem?_getD, List.getElem?_eq_getElem (show 0 < s.data.toList.length by simpa using h0)]; rfl
    have hv : wordB s = decide (s[0] ≠ 36) := by unfold wordB; rw [hp, hat]; rfl
    rw [hv]
    rw [hp] at HP
    clear hp hat hv
    by_cases h36 : s[0].toNat = 36
    · have hv : decide (s[0] ≠ 36) = false := decide_eq_false (by simp; exact UInt8.toNat_inj.1 h36)
      rw [hv]
      clear hv
      go_enter Tryz.func25, Tryz.ntmps25
      go_wp2_with fail
      refine (HP.out _).mono ?_; rintro e w1 ⟨rfl, rfl⟩
      go_wp2_with fail
      go_ret
      exact ⟨rfl, rfl⟩
    · have hv : decide (s[0] ≠ 36) = true := decide_eq_true (fun h => h36 (by rw [h]; rfl))
      rw [hv]
      clear hv
      go_enter Tryz.func25, Tryz.ntmps25
      go_wp2_with fail
      refine (HP.out _).mono ?_; rintro e w1 ⟨rfl, rfl⟩
      go_wp2_with fail
      go_ret
      exact ⟨congrArg (fun b => Ending.returned (Value.bool b)) (by simp; omega), rfl⟩
  · have hp' : printedB s = false := by simpa using hp
    have hv : wordB s = false := by unfold wordB; rw [hp']; rfl
    rw [hv]
    rw [hp'] at HP
    clear hp hp' hv
    go_enter Tryz.func25, Tryz.ntmps25
    go_wp2_with fail
    refine (HP.out _).mono ?_; rintro e w1 ⟨rfl, rfl⟩
    go_wp2_with fail
    go_ret
    exact ⟨rfl, rfl⟩
theorem wide_any (n : Int) (w : World) : Calls Tryz.prog 30 #[.int .i64 n] w fun e w' => e = .returned (.bool (decide (1 ≤ n) && decide (n ≤ 128))) ∧ w = w' := by
  by_cases h1 : 1 ≤ n
  · by_cases h2 : n ≤ 128
    · rw [decide_eq_true h1, decide_eq_true h2]
      go_enter Tryz.func30, Tryz.ntmps30
      go_wp2_with fail
      go_ret
      exact ⟨congrArg (fun b => Ending.returned (Value.bool b)) (by simp []), rfl⟩
    · rw [decide_eq_true h1, decide_eq_false h2]
      have h3 : 128 < n := by omega
      clear h2
      go_enter Tryz.func30, Tryz.ntmps30
      go_wp2_with fail
      go_ret
      exact ⟨congrArg (fun b => Ending.returned (Value.bool b)) (by simp; omega), rfl⟩
  · rw [decide_eq_false h1]
    have h3 : n < 1 := by omega
    clear h1
    go_enter Tryz.func30, Tryz.ntmps30
    go_wp2_with fail
    go_ret
    exact ⟨rfl, rfl⟩

/-- a number's decimal digits, and what they say -/
def decV (ds : List Nat) : Nat := ds.foldl (fun n d => 10 * n + d) 0
theorem decV_snoc (ds : List Nat) (d : Nat) : decV (ds ++ [d]) = 10 * decV ds + d := by simp [decV]
theorem decV_lt : ∀ (ds : List Nat) (k : Nat), (∀ d ∈ ds, d < 10) → decV (ds.take k) < 10 ^ k
  | _, 0, _ => by simp [decV]
  | ds, k + 1, h => by
    have ih := decV_lt ds k h
    by_cases hk : k < ds.length
    · rw [List.take_succ_eq_append_getElem hk, decV_snoc]
      have := h ds[k] (List.getElem_mem _)
      rw [Nat.pow_succ]; omega
    · rw [List.take_of_length_le (by omega)] at ih ⊢
      rw [Nat.pow_succ]; omega
def digS (ds : List Nat) : List UInt8 := ds.map fun d => UInt8.ofNat (48 + d)
set_option maxHeartbeats 1000000 in
theorem number_any (ds : List Nat) (most : Nat) (h0 : ds ≠ []) (hm : ds.length ≤ most) (hm6 : most ≤ 6) (hd : ∀ d ∈ ds, d < 10) (s : ByteArray) (hs : s = bstr (digS ds)) (w : World) :
    Calls Tryz.prog 64 #[.string s, .int .i64 most] w fun e w' => e = .returned (.int .i64 (decV ds : Nat)) ∧ w = w' := by
  have hsz : s.size = ds.length := by rw [hs]; show (digS ds).toArray.size = _; simp [digS]
  have hat : ∀ k (hk : k < s.size), s[k].toNat = 48 + ds.getD k 0 := by
    intro k hk
    have hkd : k < ds.length := by omega
    subst hs
    have e : (bstr (digS ds))[k] = UInt8.ofNat (48 + ds[k]) := by
      show (digS ds).toArray[k]'(by simpa [digS] using hkd) = _
      simp [digS]
    rw [e, List.getD_eq_getElem?_getD, List.getElem?_eq_getElem hkd]
    have := hd ds[k] (List.getElem_mem _)
    simp only [Option.getD_some, UInt8.toNat_ofNat']
    omega
  have hne : s.size ≠ 0 := by rw [hsz]; have := List.length_pos_iff.2 h0; omega
  obtain ⟨hnl, hie⟩ := str_some hne
  have HH := Lib.hid (And.intro hd (And.intro hat hsz))
  have hi1 : (s.size : Int) ≤ most := by omega
  have hi2 : (most : Int) ≤ 6 := by omega
  clear hd hat hs h0 hm hm6 hne hsz
  go_enter Tryz.func64, Tryz.ntmps64
  go_wp2_with fail
  go_loop [4, 5, 6, 17] (fun rv nv jv iv => ∃ k : Nat, k ≤ s.size ∧ iv = .int .i64 k ∧ nv = .int .i64 (decV (ds.take k) : Nat)) (fun rv nv jv iv => s.size - (intOf iv).toNat)
  case atStart => exact ⟨0, Nat.zero_le _, rfl, rfl⟩
  case round =>
    obtain ⟨k, hk, rfl, rfl⟩ := hrel
    by_cases hlt : k < s.size
    · have hkd : k < ds.length := by have := HH.out.2.2; omega
      have hc := HH.out.2.1 k hlt
      have hv := decV_lt ds k HH.out.1
      have hp : 10 ^ k ≤ 10 ^ 5 := Nat.pow_le_pow_right (by decide) (by omega)
      have hsn : decV (ds.take (k + 1)) = 10 * decV (ds.take k) + ds.getD k 0 := by
        rw [List.take_succ_eq_append_getElem hkd, decV_snoc]
        simp [List.getD, List.getElem?_eq_getElem hkd]
      have hd10 : ds.getD k 0 < 10 := by
        rw [List.getD_eq_getElem?_getD, List.getElem?_eq_getElem hkd]
        exact HH.out.1 _ (List.getElem_mem _)
      obtain ⟨d, hde⟩ : ∃ d, ds.getD k 0 = d := ⟨_, rfl⟩
      obtain ⟨v, hve⟩ : ∃ v, decV (ds.take k) = v := ⟨_, rfl⟩
      rw [hde] at hc hsn hd10
      rw [hve] at hv hsn ⊢
      have hv2 : (v : Int) ≤ 100000 := by omega
      have hg1 : ¬ s[k].toNat < 48 := by omega
      have hg2 : ¬ 57 < s[k].toNat := by omega
      have hw8 : IntKind.u8.wrap ((s[k].toNat : Int) - 48) = (d : Int) := by
        rw [hc, show ((48 + d : Nat) : Int) - 48 = (d : Int) by omega]
        exact IntWalk.u8_in _ (by omega)
      have hw64 : IntKind.i64.wrap (d : Int) = d := i64_of (by omega)
      have hw1 : IntKind.i64.wrap (10 * (v : Int)) = 10 * (v : Int) := i64_of (by omega)
      have hw2 : IntKind.i64.wrap (10 * (v : Int) + d) = 10 * (v : Int) + d := i64_of (by omega)
      have hwr : IntKind.i64.wrap ((k : Int) + 1) = (k : Int) + 1 := i64_of (by omega)
      have HS := Lib.hid hsn
      clear hsn hc hv hp hde hve hd10 hkd hk
      go_wp2_with fail
      go_round
      case rel => exact ⟨_, _, _, _, ⟨k + 1, by omega, rfl, rfl⟩, rfl, by rw [HS.out]; go_num, rfl, by go_num⟩
      case measure => simp [intOf]; omega
    · obtain rfl : k = s.size := by omega
      have e : decV (ds.take s.size) = decV ds := by rw [HH.out.2.2, List.take_length]
      rw [e]
      clear e
      go_wp2_with fail
      go_ret
      exact ⟨rfl, rfl⟩
end Go.Proofs.YtcdjkbgedmehjaaGreatDoor
