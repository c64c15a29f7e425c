/- Facts on the comparison of structs of numbers in the loaded program; the cells of a content. -/
import Derived.Test.YtcffhfcjfjfokaaProg
import Derived.Test.YtcffhfcjfjfokaaSpec
namespace Go.Proofs.Ytcffhfcjfjfokaa
open Go.RowKit
theorem run_eql_slot (w : World) (a b c d : Int) : (binOp .eql 66 (.agg #[.int .i64 a, .int .i64 b]) (.agg #[.int .i64 c, .int .i64 d])).run Try.prog w = .ok (.bool (slotEq a b c d)) w := by
  go_simp
  by_cases h1 : a = c <;> by_cases h2 : b = d <;> simp [slotEq, h1, h2]
theorem run_neq_slot (w : World) (a b c d : Int) : (binOp .neq 66 (.agg #[.int .i64 a, .int .i64 b]) (.agg #[.int .i64 c, .int .i64 d])).run Try.prog w = .ok (.bool (!slotEq a b c d)) w := by
  go_simp
  by_cases h1 : a = c <;> by_cases h2 : b = d <;> simp [slotEq, h1, h2]
theorem run_eql_vid (w : World) (a b c d a' b' c' d' : Int) : (binOp .eql 35 (.agg #[.int .i64 a, .int .i64 b, .int .i64 c, .int .i64 d]) (.agg #[.int .i64 a', .int .i64 b', .int .i64 c', .int .i64 d'])).run Try.prog w = .ok (.bool (vidEq a b c d a' b' c' d')) w := by
  go_simp
  by_cases h1 : a = a' <;> by_cases h2 : b = b' <;> by_cases h3 : c = c' <;> by_cases h4 : d = d' <;> simp [vidEq, h1, h2, h3, h4]
theorem run_neq_vid (w : World) (a b c d a' b' c' d' : Int) : (binOp .neq 35 (.agg #[.int .i64 a, .int .i64 b, .int .i64 c, .int .i64 d]) (.agg #[.int .i64 a', .int .i64 b', .int .i64 c', .int .i64 d'])).run Try.prog w = .ok (.bool (!vidEq a b c d a' b' c' d')) w := by
  go_simp
  by_cases h1 : a = a' <;> by_cases h2 : b = b' <;> by_cases h3 : c = c' <;> by_cases h4 : d = d' <;> simp [vidEq, h1, h2, h3, h4]

/-- The cells of a content of a view. -/
abbrev flc (e l i c b : Int) (A : Option Addr) (n cA : Nat) (B : Option Addr) (m cB : Nat) : Array Value := #[.int .i64 e, .int .i64 l, .int .i64 i, .int .i64 c, .int .i64 b, .slice A n cA, .slice B m cB]
end Go.Proofs.Ytcffhfcjfjfokaa
