import Derived.Test.YtcdjkbgedmehjaaDoorV1
namespace Go.Proofs.YtcdjkbgedmehjaaDoor
set_option linter.unusedVariables false
open Go.RowKit Go.Sort

/-! # the reader: is there a word; comments (none) -/
set_option maxRecDepth 100000 in
set_option maxHeartbeats 4000000 in
theorem more_any {base b : Nat} {w : World} {S : RdS} {V : Key → Value} (h : Rdr base b w S V) {q : Bool} (hq : decide (S.pos < S.toks.length) = q) :
    Calls Tryd.prog 23 #[.pointer (some ⟨b, 0, none⟩)] w fun e w' => e = .returned (.bool q) ∧ ∃ k, w' = w.drewN k := by
  obtain ⟨p, c, hV, hro⟩ := h.toks
  have c0 := h.cell (i := 0) rfl
  have c1 := h.cell (i := 1) rfl
  have c8 := h.cell (i := 8) rfl
  rw [hV] at c0
  obtain ⟨n, hn⟩ : ∃ n, S.toks.length = n := ⟨_, rfl⟩
  obtain ⟨k, hk⟩ : ∃ k, S.pos = k := ⟨_, rfl⟩
  rw [hn, hk] at hq
  rw [hn] at c0
  rw [hk] at c1
  clear h hro hV hn hk
  cases q
  · have hki : ¬ (k : Int) < n := by simp at hq; omega
    go_enter Tryd.func23, Tryd.ntmps23
    go_wp2_with fail
    go_quiet (fail)
    go_wp2_with fail
    go_ret
    exact ⟨rfl, _, rfl⟩
  · have hki : (k : Int) < n := by simp at hq; omega
    go_enter Tryd.func23, Tryd.ntmps23
    go_wp2_with fail
    go_quiet (fail)
    go_wp2_with fail
    go_ret
    exact ⟨rfl, _, rfl⟩
/-- there is no comment at this place -/
def NoCom (S : RdS) : Prop := ∀ t, S.toks[S.pos]? = some t → t.1 ≠ [36, 99, 111, 109, 109, 101, 110, 116]
set_option maxRecDepth 100000 in
set_option maxHeartbeats 4000000 in
theorem comments_none {base b : Nat} {w : World} {S : RdS} {V : Key → Value} (h : Rdr base b w S V) (hn : NoCom S) :
    Calls Tryd.prog 41 #[.pointer (some ⟨b, 0, none⟩)] w fun e w' => e = .returned (.tuple #[]) ∧ Rdr base b w' S V ∧ Below w.heap.size w w' := by
  have HM := Lib.hid (fun (w' : World) (hw : Rdr base b w' S V) => more_any hw rfl)
  obtain ⟨p, c, hV, hro⟩ := h.toks
  by_cases hlt : S.pos < S.toks.length
  · obtain ⟨t, ht⟩ : ∃ t, S.toks[S.pos]? = some t := ⟨_, List.getElem?_eq_getElem hlt⟩
    obtain ⟨bt, ot, rfl⟩ := hro.sl (tokCells_at _ _ _ ht).1
    have hne := hn t ht
    rw [decide_eq_true hlt] at HM
    have HH := Lib.hid (And.intro h (And.intro hV ht))
    obtain ⟨n, hn'⟩ : ∃ n, S.toks.length = n := ⟨_, rfl⟩
    obtain ⟨k, hk⟩ : ∃ k, S.pos = k := ⟨_, rfl⟩
    rw [hn'] at hlt HH
    rw [hk] at hlt HH
    have hki : (k : Int) < n := by omega
    have hk0 : (0 : Int) ≤ k := by omega
    obtain ⟨X, hX⟩ : ∃ X, bstr t.1 = X := ⟨_, rfl⟩
    have hXn : ¬ X.toList = [36, 99, 111, 109, 109, 101, 110, 116] := by rw [← hX, ByteArray.toList_eq]; simpa [bstr] using hne
    have hXb : (X.toList == [36, 99, 111, 109, 109, 101, 110, 116]) = false := by rw [beq_eq_false_iff_ne]; exact hXn
    clear hXn
    have HK := Lib.hid (And.intro hk hX)
    clear h hn hro hV hlt hne hk hn' hX ht
    go_enter Tryd.func41, Tryd.ntmps41
    go_wp2_with fail
    go_loopw [] (fun wr => Rdr base b wr S V ∧ Below w.heap.size w wr) (fun _ => 0)
    case atStart => exact ⟨HH.out.1, Below.refl _ _⟩
    case round =>
      have HL := Lib.hid hrel
      have c0 := hrel.1.cell (i := 0) rfl
      have c1 := hrel.1.cell (i := 1) rfl
      have k0 := (hrel.1.tokAt HH.out.2.1 HH.out.2.2).1
      rw [HH.out.2.1] at c0
      simp only [HK.out] at c1 k0
      clear hrel
      have HA : Hid (∀ j, Calls Tryd.prog 23 #[.pointer (some ⟨b, 0, none⟩)] (wr.drewN j) fun e w' => e = .returned (.bool true) ∧ ∃ k, w' = (wr.drewN j).drewN k) := Lib.hid fun j => HM.out _ (HL.out.1.below (below_drewN j))
      go_wp2_with fail
      go_quiet (go_must (exact (HA.out _).mono fun e w' ⟨he, n, hn⟩ => ⟨he, _, hn.trans (World.drewN_drewN _ _ _)⟩))
      go_wp2_with fail
      go_end0
      exact ⟨rfl, HL.out.1.below (below_drewN _), HL.out.2.trans ((below_drewN _).mono HL.out.2.size)⟩
  · rw [decide_eq_false hlt] at HM
    have HH := Lib.hid h
    clear h hn hro hV hlt
    go_enter Tryd.func41, Tryd.ntmps41
    go_wp2_with fail
    go_loopw [] (fun wr => Rdr base b wr S V ∧ Below w.heap.size w wr) (fun _ => 0)
    case atStart => exact ⟨HH.out, Below.refl _ _⟩
    case round =>
      have HL := Lib.hid hrel
      clear hrel
      have HA : Hid (∀ j, Calls Tryd.prog 23 #[.pointer (some ⟨b, 0, none⟩)] (wr.drewN j) fun e w' => e = .returned (.bool false) ∧ ∃ k, w' = (wr.drewN j).drewN k) := Lib.hid fun j => HM.out _ (HL.out.1.below (below_drewN j))
      go_wp2_with fail
      go_quiet (go_must (exact (HA.out _).mono fun e w' ⟨he, n, hn⟩ => ⟨he, _, hn.trans (World.drewN_drewN _ _ _)⟩))
      go_wp2_with fail
      go_end0
      exact ⟨rfl, HL.out.1.below (below_drewN _), HL.out.2.trans ((below_drewN _).mono HL.out.2.size)⟩

theorem tok_f0 (X : ByteArray) (y : Int) (w : World) : (Instr.field 79 (.agg #[.string X, .int .i64 y]) 0).run Tryd.prog w = .ok (.string X) w := by kernel_rfl
theorem tok_f1 (X : ByteArray) (y : Int) (w : World) : (Instr.field 79 (.agg #[.string X, .int .i64 y]) 1).run Tryd.prog w = .ok (.int .i64 y) w := by kernel_rfl
def kEndW : Bs := [36, 101, 110, 100]
def posOf (w : World) (b : Nat) : Nat := match w.cell? ⟨b, 1, none⟩ with
  | some (.int _ z) => z.toNat
  | _ => 0
theorem Rdr.posOf {base b : Nat} {w : World} {S : RdS} {V : Key → Value} (h : Rdr base b w S V) : posOf w b = S.pos := by
  have c1 := h.cell (i := 1) rfl
  unfold Go.Proofs.YtcdjkbgedmehjaaDoor.posOf
  rw [c1]
  simp
set_option maxRecDepth 100000 in
set_option maxHeartbeats 4000000 in
/-- up to the next end -/
theorem skip_any {base b : Nat} {w : World} {S : RdS} {V : Key → Value} (h : Rdr base b w S V) (k : Nat) (hk : ∀ j, j < k → ∃ t, S.toks[S.pos + j]? = some t ∧ t.1 ≠ kEndW) {te : Bs × Nat} (he : S.toks[S.pos + k]? = some te) (hte : te.1 = kEndW) (hN : (S.toks.length : Int) ≤ 3000000) :
    Calls Tryd.prog 43 #[.pointer (some ⟨b, 0, none⟩)] w fun e w' => e = .returned (.tuple #[]) ∧ Rdr base b w' { S with pos := S.pos + k + 1 } V ∧ Only (fun k => k = b) w w' := by
  have HH := Lib.hid (And.intro h (And.intro hk (And.intro he (And.intro hte hN))))
  clear h hk he hte hN
  go_enter Tryd.func43, Tryd.ntmps43
  go_wp2_with fail
  go_loopw [] (fun wr => ∃ j, j ≤ k ∧ Rdr base b wr { S with pos := S.pos + j } V ∧ Only (fun k => k = b) w wr) (fun wr => S.pos + k - posOf wr b)
  case atStart => exact ⟨0, Nat.zero_le _, HH.out.1, Only.refl _ _⟩
  case round =>
    obtain ⟨j, hj, hr, ho⟩ := hrel
    have HL := Lib.hid (And.intro hj (And.intro hr ho))
    have c8 := hr.cell (i := 8) rfl
    clear hr ho
    by_cases hlt : j < k
    · obtain ⟨t, ht, hne⟩ := HH.out.2.1 j hlt
      have HC := Lib.hid (next_any HL.out.2.1 (t := t) ht HH.out.2.2.2.2)
      obtain ⟨X, hX⟩ : ∃ X, bstr t.1 = X := ⟨_, rfl⟩
      have hXn : ¬ X.toList = [36, 101, 110, 100] := by rw [← hX, ByteArray.toList_eq]; simpa [bstr, kEndW] using hne
      have hXb : (X.toList == [36, 101, 110, 100]) = false := by rw [beq_eq_false_iff_ne]; exact hXn
      rw [hX] at HC
      have HX := Lib.hid (And.intro hXn (And.intro hlt (Nat.le_of_lt hlt)))
      have hf := fun w => tok_f0 X t.2 w
      clear hX hne ht hlt hj hXn
      go_wp2_with fail
      refine HC.out.mono ?_; rintro e w1 ⟨rfl, hr1, ho1⟩
      have H1 := Lib.hid (And.intro hr1 (HL.out.2.2.trans ho1))
      clear hr1 ho1 HC
      go_wp2_with fail
      go_roundw
      case rel => exact ⟨j + 1, HX.out.2.1, H1.out.1, H1.out.2⟩
      case measure =>
        have e1 := H1.out.1.posOf
        have e2 := HL.out.2.1.posOf
        have := HX.out.2.1
        simp only at e1 e2
        omega
    · obtain rfl : j = k := by omega
      have HC := Lib.hid (next_any HL.out.2.1 (t := te) HH.out.2.2.1 HH.out.2.2.2.2)
      have hte : bstr te.1 = ⟨#[36, 101, 110, 100]⟩ := by rw [HH.out.2.2.2.1]; rfl
      rw [hte] at HC
      have hf := fun w => tok_f0 ⟨#[36, 101, 110, 100]⟩ te.2 w
      clear hlt hj hte
      go_wp2_with fail
      refine HC.out.mono ?_; rintro e w1 ⟨rfl, hr1, ho1⟩
      have H1 := Lib.hid (And.intro hr1 (HL.out.2.2.trans ho1))
      clear hr1 ho1 HC
      go_wp2_with fail
      go_end0
      exact ⟨rfl, H1.out.1, H1.out.2⟩
end Go.Proofs.YtcdjkbgedmehjaaDoor
