/- two arrays of five texts are compared. -/
import Derived.Test.YtmelcnnpjooocaaIriJ
import Derived.Laws.StructEq
namespace Go.Proofs.Ytmelcnnpjooocaa
open Go.RowKit
set_option linter.unusedVariables false

theorem str_eq (d : Nat) (a b : ByteArray) (w : World) : (Op.equalIn (d + 1) 9 (.string a) (.string b)).run Try.prog w = .ok (a == b) w := by
  simp [Op.equalIn, run_underlying Try.underlying9]

theorem part_str (vs : Array Value) (k : Nat) (v : Value) (h : vs[k]? = some v) (w : World) : (part 9 vs k).run Try.prog w = .ok v w := by
  unfold part
  simp [Try.isAgg9, h]
theorem p0 (v0 v1 v2 v3 v4 : Value) (w : World) : (part 9 #[v0, v1, v2, v3, v4] 0).run Try.prog w = .ok v0 w := part_str _ 0 _ rfl w
theorem p1 (v0 v1 v2 v3 v4 : Value) (w : World) : (part 9 #[v0, v1, v2, v3, v4] 1).run Try.prog w = .ok v1 w := part_str _ 1 _ rfl w
theorem p2 (v0 v1 v2 v3 v4 : Value) (w : World) : (part 9 #[v0, v1, v2, v3, v4] 2).run Try.prog w = .ok v2 w := part_str _ 2 _ rfl w
theorem p3 (v0 v1 v2 v3 v4 : Value) (w : World) : (part 9 #[v0, v1, v2, v3, v4] 3).run Try.prog w = .ok v3 w := part_str _ 3 _ rfl w
theorem p4 (v0 v1 v2 v3 v4 : Value) (w : World) : (part 9 #[v0, v1, v2, v3, v4] 4).run Try.prog w = .ok v4 w := part_str _ 4 _ rfl w
theorem eq5 (d : Nat) (a0 a1 a2 a3 a4 b0 b1 b2 b3 b4 : ByteArray) (w : World) :
    (Op.equalIn (d + 2) 26 (.agg #[.string a0, .string a1, .string a2, .string a3, .string a4]) (.agg #[.string b0, .string b1, .string b2, .string b3, .string b4])).run Try.prog w
      = .ok (a0 == b0 && a1 == b1 && a2 == b2 && a3 == b3 && a4 == b4) w := by
  unfold Op.equalIn
  simp only [Sem.run_bind, run_underlying Try.underlying26, Result.andThen_ok, Try.sizeOf9, Std.Legacy.Range.forIn_eq_forIn_range', Std.Legacy.Range.size]
  cases h0 : (a0 == b0) <;> cases h1 : (a1 == b1) <;> cases h2 : (a2 == b2) <;> cases h3 : (a3 == b3) <;> cases h4 : (a4 == b4) <;>
    simp only [show List.range' 0 ((5 - 0 + 1 - 1) / 1) 1 = [0, 1, 2, 3, 4] from rfl, List.forIn_cons, List.forIn_nil, Nat.mul_one, Sem.run_bind, Sem.run_pure, p0, p1, p2, p3, p4, str_eq, Result.andThen_ok, h0, h1, h2, h3, h4,
      Bool.not_true, Bool.not_false, Bool.false_eq_true, if_false, if_true, Bool.true_and, Bool.false_and]
@[go_sem] theorem eq5' (d : Nat) (a0 a1 a2 a3 a4 b0 b1 b2 b3 b4 : ByteArray) (w : World) :
    (Op.equalIn (d + 2) 26 (.agg #[.string a0, .string a1, .string a2, .string a3, .string a4]) (.agg #[.string b0, .string b1, .string b2, .string b3, .string b4])).run Try.prog w
      = .ok (a0.toList == b0.toList && a1.toList == b1.toList && a2.toList == b2.toList && a3.toList == b3.toList && a4.toList == b4.toList) w := by
  rw [eq5, beq_toListBytes, beq_toListBytes, beq_toListBytes, beq_toListBytes, beq_toListBytes]
end Go.Proofs.Ytmelcnnpjooocaa
