import Derived.Test.YtoccghbkfnalgaaRows
import Derived.WalkKit
namespace Go.Proofs.Ytoccghbkfnalgaa
set_option linter.unusedVariables false

theorem ck58' (n : Nat) (em : Bool) (a b : Int) (w : World) : (Instr.checkKey em (n+1+1) 58 (.agg #[.int .i64 a, .int .i64 b])).run Try.prog w = .ok () w := by
  simp [Instr.checkKey, part, isAgg, sizeOf, typeInfo]
theorem ck58 (em : Bool) (a b : Int) (w : World) : (Instr.checkKey em 10000 58 (.agg #[.int .i64 a, .int .i64 b])).run Try.prog w = .ok () w := ck58' 9998 em a b w
  
theorem eq58' (n : Nat) (a b c d : Int) (w : World) : (Op.equalIn (n+1+1) 58 (.agg #[.int .i64 a, .int .i64 b]) (.agg #[.int .i64 c, .int .i64 d])).run Try.prog w = .ok (a == c && b == d) w := by
  simp [Op.equalIn, part, isAgg, sizeOf, typeInfo]
  cases h : a == c <;> simp
  · simp at h; simp [h]
  · simp at h; simp [h]
    cases h : b == d <;> simp
    · simp at h; simp [h]
    · simp at h; simp [h]
theorem eq58 (a b c d : Int) (w : World) : (Op.equal 58 (.agg #[.int .i64 a, .int .i64 b]) (.agg #[.int .i64 c, .int .i64 d])).run Try.prog w = .ok (a == c && b == d) w := eq58' 9998 a b c d w
end Go.Proofs.Ytoccghbkfnalgaa
