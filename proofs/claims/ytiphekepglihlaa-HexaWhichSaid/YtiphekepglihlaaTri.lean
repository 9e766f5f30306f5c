/- Arguments that came in: arrays of three numbers. -/
import Derived.Test.YtiphekepglihlaaArgs
import Derived.ChangeSame
namespace Go.Proofs.Ytiphekepglihlaa
open Go.RowKit Go.ChangeShapes Go.WideShapes
set_option linter.unusedVariables false

theorem okWide_tri {P : Program} {W : World} {t e : TypeId} (hu : P.underlying t = some (.array 3 e)) (hc : P.cellsOf t = 3) {r : Reach} {b0 : Nat} {v : Value} (h : Value.okWide P W r b0 t v) : ∃ xs : Array Value, v = .agg xs ∧ xs.size = 3 := by
  simp only [Value.okWide, hu] at h
  obtain ⟨cs, h1, h2, _⟩ := h
  exact ⟨cs, h1, by rw [h2, hc]⟩

theorem open_tri {H : Type} {enc : TypeId × Value → H} {P : Program} {W : World} {base : Nat} {sp : Nat → Bool} {held : Bool} {t e : TypeId} (hu : P.underlying t = some (.array 3 e)) (he : P.underlying e = some (.int .i64)) (hce : P.cellsOf e = 1) (hct : P.cellsOf t = 3) {fuel : Nat} {xs : Array Value} (hn : xs.size = 3)
    {x : DataW H × List MemPlace} (h : DataW.trod enc P W base sp held fuel t (Value.agg xs).cells.toList = some x) : ∃ a b c, xs = #[.int .i64 a, .int .i64 b, .int .i64 c] := by
  cases fuel with
  | zero => simp [DataW.trod] at h
  | succ m =>
    rw [DataW.trod_step] at h
    unfold DataW.trodStep at h
    simp only [hu, Value.cells] at h
    rw [if_pos (by rw [hct]; simpa using hn)] at h
    simp only [Option.map_eq_some_iff] at h
    obtain ⟨ys, hy, e1⟩ := h
    obtain ⟨l⟩ := xs
    rcases l with _ | ⟨x, _ | ⟨y, _ | ⟨z, _ | ⟨u, l⟩⟩⟩⟩ <;> try (simp at hn; done)
    rw [show List.range 3 = [0, 1, 2] from rfl] at hy
    simp only [List.mapM_cons, bind, Option.bind_eq_some_iff, pure, Option.some.injEq, hce] at hy
    obtain ⟨y0, h0, y1, ⟨z1, h1, z2, ⟨u1, h2, _⟩, _⟩, _⟩ := hy
    obtain ⟨a, ea, _, _⟩ := DataW.trod_int he h0
    obtain ⟨b, eb, _, _⟩ := DataW.trod_int he h1
    obtain ⟨c, ec, _, _⟩ := DataW.trod_int he h2
    simp at ea eb ec
    exact ⟨a, b, c, by rw [ea, eb, ec]⟩
end Go.Proofs.Ytiphekepglihlaa
