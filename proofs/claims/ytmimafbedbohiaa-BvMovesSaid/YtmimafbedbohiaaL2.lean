import Derived.Test.YtmimafbedbohiaaL1
namespace Go.Proofs.Ytmimafbedbohiaa
set_option linter.unusedVariables false

theorem i64_bd {n : Int} (h : (Lit.int .i64 n).wf = true) : -9223372036854775808 ≤ n ∧ n ≤ 9223372036854775807 := by
  simp [Lit.wf, IntKind.min, IntKind.max, IntKind.signed, IntKind.bits] at h
  omega
end Go.Proofs.Ytmimafbedbohiaa
