import Derived.Test.YtcdjkbgedmehjaaDoorV4
namespace Go.Proofs.YtcdjkbgedmehjaaDoor
set_option linter.unusedVariables false
open Go.RowKit Go.Sort

/-! # the reader: a name -/
set_option maxRecDepth 100000 in
set_option maxHeartbeats 4000000 in
theorem name_printed {base b : Nat} {w : World} {S : RdS} {V : Key → Value} (h : Rdr base b w S V) {t : Bs × Nat} (ht : S.toks[S.pos]? = some t) (hN : (S.toks.length : Int) ≤ 3000000) (hw : printedB (bstr t.1) = true) :
    Calls Tryd.prog 44 #[.pointer (some ⟨b, 0, none⟩), .func (Fn.func 52) #[] #[]] w fun e w' => e = .returned (.string (bstr t.1)) ∧ Rdr base b w' { S with pos := S.pos + 1 } V ∧ Only (fun k => k = b) w w' := by
  have HC := Lib.hid (next_any h ht hN)
  have HW : Hid (∀ w, Calls Tryd.prog 52 #[.string (bstr t.1)] w fun e w' => e = .returned (.bool true) ∧ w = w') := Lib.hid fun w => by rw [← hw]; exact printed_any _ w
  generalize bstr t.1 = X at *
  generalize t.2 = y at *
  clear h ht hN hw
  go_enter Tryd.func44, Tryd.ntmps44
  go_wp2_with fail
  refine HC.out.mono ?_; rintro e w1 ⟨rfl, hr1, ho1⟩
  have hb1 := Below.new w1 (.cells #[.string X, .int .i64 y] 79)
  have H1 := Lib.hid (And.intro (hr1.below hb1) (ho1.below hb1 ho1.size))
  clear hr1 ho1 HC hb1
  go_wp2_with fail
  refine (HW.out _).mono ?_; rintro e w2 ⟨rfl, rfl⟩
  go_wp2_with fail
  go_ret
  exact ⟨rfl, H1.out.1, H1.out.2⟩
set_option maxRecDepth 100000 in
set_option maxHeartbeats 4000000 in
theorem name_word {base b : Nat} {w : World} {S : RdS} {V : Key → Value} (h : Rdr base b w S V) {t : Bs × Nat} (ht : S.toks[S.pos]? = some t) (hN : (S.toks.length : Int) ≤ 3000000) (hw : wordB (bstr t.1) = true) :
    Calls Tryd.prog 44 #[.pointer (some ⟨b, 0, none⟩), .func (Fn.func 27) #[] #[]] w fun e w' => e = .returned (.string (bstr t.1)) ∧ Rdr base b w' { S with pos := S.pos + 1 } V ∧ Only (fun k => k = b) w w' := by
  have HC := Lib.hid (next_any h ht hN)
  have HW : Hid (∀ w, Calls Tryd.prog 27 #[.string (bstr t.1)] w fun e w' => e = .returned (.bool true) ∧ w = w') := Lib.hid fun w => by rw [← hw]; exact word_any _ w
  generalize bstr t.1 = X at *
  generalize t.2 = y at *
  clear h ht hN hw
  go_enter Tryd.func44, Tryd.ntmps44
  go_wp2_with fail
  refine HC.out.mono ?_; rintro e w1 ⟨rfl, hr1, ho1⟩
  have hb1 := Below.new w1 (.cells #[.string X, .int .i64 y] 79)
  have H1 := Lib.hid (And.intro (hr1.below hb1) (ho1.below hb1 ho1.size))
  clear hr1 ho1 HC hb1
  go_wp2_with fail
  refine (HW.out _).mono ?_; rintro e w2 ⟨rfl, rfl⟩
  go_wp2_with fail
  go_ret
  exact ⟨rfl, H1.out.1, H1.out.2⟩
end Go.Proofs.YtcdjkbgedmehjaaDoor
