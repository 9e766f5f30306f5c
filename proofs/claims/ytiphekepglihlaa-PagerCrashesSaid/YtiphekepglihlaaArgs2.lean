/- Arguments that came in: slices of truth values. -/
import Derived.Test.YtiphekepglihlaaArgs
import Derived.Deep.Grids
namespace Go.Proofs.Ytiphekepglihlaa
open Go.RowKit
set_option linter.unusedVariables false

/-- a slice of truth values that came in -/
def IsBools (w : World) (a : Option Addr) (len cap : Nat) (ks : List Bool) : Prop := ks.length = len ∧ Rd w 1 (.slice a len cap) len (ks.map Value.bool)

theorem bools_of_trod {H : Type} {enc : TypeId × Value → H} {P : Program} {w : World} {base : Nat} {held : Bool} {t e : TypeId} {fuel : Nat} {a : Option Addr} {len cap : Nat} {x : DataW H × List MemPlace} (ht : P.underlying t = some (.slice e)) (he : P.underlying e = some .bool) (hc : P.cellsOf e = 1)
    (h : DataW.trod enc P w base (fun _ => true) held fuel t (Value.slice a len cap).cells.toList = some x) : ∃ ks, IsBools w a len cap ks := by
  rcases Go.Deep.open_bools ht he hc h with ⟨h0, _⟩ | ⟨b, l, c, B, h0, _, hl, hm, _, hcell⟩
  · simp [Value.cells] at h0
    obtain ⟨rfl, rfl, rfl⟩ := h0
    exact ⟨[], rfl, Rd.nil _ _⟩
  · simp [Value.cells] at h0
    obtain ⟨rfl, rfl, rfl⟩ := h0
    refine ⟨(List.range len).map B, by simp, by simp, _, _, rfl, hl, hm, (fun h => by cases h), fun q hq j u hu => ?_⟩
    cases hq
    have hj : j < len := by
      have := (List.getElem?_eq_some_iff.1 hu).1
      simpa using this
    have hs := spot_of_cell (hcell 0 (by omega))
    have h1 := hcell j (by omega)
    rw [Addr.add_off b hs] at h1
    rw [h1]
    refine ⟨hs, ?_⟩
    simp [hj] at hu
    rw [← hu]
end Go.Proofs.Ytiphekepglihlaa
