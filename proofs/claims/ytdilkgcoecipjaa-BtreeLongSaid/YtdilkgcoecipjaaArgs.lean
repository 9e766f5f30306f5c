/- Arguments that came in: slices of integers and bytes, as they are read. -/
import Derived.Test.YtdilkgcoecipjaaRows
import Derived.Test.YtdilkgcoecipjaaHeap
import Derived.ProofKit
namespace Go.Proofs.Ytdilkgcoecipjaa
open Go.RowKit
set_option linter.unusedVariables false

def IsRow (k : IntKind) (w : World) (a : Option Addr) (len cap : Nat) (zs : List Int) : Prop :=
  (a = none ∧ len = 0 ∧ cap = 0 ∧ zs = []) ∨
  ∃ x, a = some x ∧ len ≤ cap ∧ cap ≤ maxLen ∧ zs.length = cap ∧ (∀ i, i < zs.length → w.cell? (x.add i) = some (.int k (zs.getD i 0))) ∧ ∀ n ∈ zs, (Lit.int k n).wf = true

theorem spot_of_cell {w : World} {x : Addr} {v : Value} (h : w.cell? (x.add 0) = some v) : x.spot = none := by
  have : x.add 0 = x := by simp [Addr.add]
  rw [this] at h
  unfold World.cell? at h
  split at h
  · cases hs : x.spot with
    | none => rfl
    | some _ => simp [hs] at h
  · cases h

/-- a slice of integers, as cells -/
theorem IsRow.rd {k : IntKind} {w : World} {a : Option Addr} {len cap : Nat} {zs : List Int} (h : IsRow k w a len cap zs) :
    Rd w 1 (.slice a len cap) len ((zs.take len).map (Value.int k)) := by
  rcases h with ⟨rfl, rfl, rfl, rfl⟩ | ⟨x, rfl, hl, hm, hz, hc, _⟩
  · simpa using Rd.nil w 1
  · refine ⟨by simp; omega, _, _, rfl, hl, hm, (fun h => by cases h), fun b hb j u hu => ?_⟩
    cases hb
    have hj : j < len := by
      have := (List.getElem?_eq_some_iff.1 hu).1
      simp at this; omega
    have hs := spot_of_cell (hc 0 (by omega))
    have h1 := hc j (by omega)
    rw [Addr.add_off x hs] at h1
    rw [h1]
    refine ⟨hs, ?_⟩
    simp [hj] at hu
    obtain ⟨y, hy, rfl⟩ := hu
    simp [hy]

theorem u8_of_wf {z : Int} (h : (Lit.int .u8 z).wf = true) : 0 ≤ z ∧ z ≤ 255 := by
  simpa [Lit.wf, IntKind.min, IntKind.max, IntKind.signed, IntKind.bits] using h
theorem i64_of_wf {z : Int} (h : (Lit.int .i64 z).wf = true) : -9223372036854775808 ≤ z ∧ z ≤ 9223372036854775807 := by
  simpa [Lit.wf, IntKind.min, IntKind.max, IntKind.signed, IntKind.bits] using h

/-- bytes that came in -/
theorem IsRow.bytes {w : World} {a : Option Addr} {len cap : Nat} {zs : List Int} (h : IsRow .u8 w a len cap zs) :
    ∃ l : List UInt8, l.length = len ∧ Bs w (.slice a len cap) l := by
  have hlen : (zs.take len).length = len := by
    rcases h with ⟨rfl, rfl, rfl, rfl⟩ | ⟨x, rfl, hl, hm, hz, hc, _⟩ <;> simp; omega
  have hr := h.rd
  have hwf : ∀ n ∈ zs, 0 ≤ n ∧ n ≤ 255 := by
    rcases h with ⟨rfl, rfl, rfl, rfl⟩ | ⟨x, rfl, hl, hm, hz, hc, hw⟩
    · simp
    · exact fun n hn => u8_of_wf (hw n hn)
  have e1 : bv ((zs.take len).map fun z => UInt8.ofNat z.toNat) = (zs.take len).map (Value.int .u8) := by
    unfold bv
    rw [List.map_map]
    refine List.map_congr_left fun z hz => ?_
    have hb := hwf z (List.mem_of_mem_take hz)
    simp only [Function.comp]
    rw [u8_back z hb.1 (by omega)]
  have e2 : ((zs.take len).map fun z => UInt8.ofNat z.toNat).length = len := by rw [List.length_map]; exact hlen
  refine ⟨_, e2, ?_⟩
  unfold Bs
  rw [e1, e2]
  exact hr
end Go.Proofs.Ytdilkgcoecipjaa
