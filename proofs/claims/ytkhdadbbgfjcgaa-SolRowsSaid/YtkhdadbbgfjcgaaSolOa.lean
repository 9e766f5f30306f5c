/- integers that came in. -/
import Derived.Test.YtkhdadbbgfjcgaaSolLb
namespace Go.Proofs.Ytkhdadbbgfjcgaa
open Go.RowKit
set_option linter.unusedVariables false

theorem rd_ints {w : World} {a : Option Addr} {len cap : Nat} {zs : List Int} (h : IsRow .i64 w a len cap zs) :
    ∃ xs : List Int, xs.length = len ∧ Rd w 1 (.slice a len cap) xs.length (xs.map (Value.int .i64)) ∧ I64 xs := by
  have hlen : (zs.take len).length = len := by
    rcases h with ⟨rfl, rfl, rfl, rfl⟩ | ⟨x, rfl, hl, hm, hz, hc, _⟩ <;> simp; omega
  have hr := h.rd
  refine ⟨zs.take len, hlen, by rw [hlen]; exact hr, fun x hx => ?_⟩
  rcases h with ⟨rfl, rfl, rfl, rfl⟩ | ⟨y, rfl, hl, hm, hz, hc, hw⟩
  · simp at hx
  · exact i64_of_wf (hw x (List.mem_of_mem_take hx))
end Go.Proofs.Ytkhdadbbgfjcgaa
