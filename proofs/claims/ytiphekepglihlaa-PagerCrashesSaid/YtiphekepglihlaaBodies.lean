/- Arguments that came in: slices of slices of bytes. -/
import Derived.Test.YtiphekepglihlaaArgs2
import Derived.Deep.Slices
import Derived.Test.YtiphekepglihlaaU8
namespace Go.Proofs.Ytiphekepglihlaa
open Go.RowKit Go.ChangeShapes
set_option linter.unusedVariables false

def IsBodies (w : World) (a : Option Addr) (len cap : Nat) (zs : List (List UInt8)) : Prop :=
  zs.length = len ∧ len ≤ maxLen ∧ ∀ i, i < len → ∃ ab ao l p c, a = some ⟨ab, ao, none⟩ ∧ zs[i]? = some l ∧ w.cell? ⟨ab, ao + i, none⟩ = some (.slice p l.length c) ∧ Bs w (.slice p l.length c) l

set_option maxRecDepth 100000 in
theorem bodies_of_trod {H : Type} {enc : TypeId × Value → H} {w : World} {base : Nat} {held : Bool} {fuel : Nat} {a : Option Addr} {len cap : Nat} {x : DataW H × List MemPlace}
    (h : DataW.trod enc Try.prog w base (fun _ => true) held fuel 59 (Value.slice a len cap).cells.toList = some x) : ∃ zs, IsBodies w a len cap zs := by
  have c1 : Try.prog.cellsOf 41 = 1 := by kernel_rfl
  rcases Go.Deep.open_slice Try.underlying59 h with ⟨h0, _⟩ | ⟨b, l, c, m, n, D, Pl, h0, _, hl, hm, hmm, _, hx⟩
  · simp [Value.cells] at h0
    obtain ⟨rfl, rfl, rfl⟩ := h0
    exact ⟨[], rfl, Nat.zero_le _, fun i hi => by omega⟩
  · simp [Value.cells] at h0
    obtain ⟨rfl, rfl, rfl⟩ := h0
    have hmc : m = cap := by simpa using hmm
    have each : ∀ i, i < len → ∃ d : List UInt8, b.spot = none ∧ ∃ p c, w.cell? ⟨b.block, b.off + i, none⟩ = some (.slice p d.length c) ∧ Bs w (.slice p d.length c) d := fun i hi => by
      obtain ⟨cs', h1, h2⟩ := hx i (by omega)
      obtain ⟨cs0, h10, h20⟩ := hx 0 (by omega)
      rw [c1] at h1 h10
      obtain ⟨_, hlen0, hcell0⟩ := World.cells?_some h10
      obtain ⟨_, hlen, hcell⟩ := World.cells?_some h1
      have hs : b.spot = none := by
        have h9 := hcell0 0 (by omega)
        match cs0, hlen0 with
        | [v], _ =>
          have e : (b.add (0 * 1)).add 0 = b.add 0 := by simp [Addr.add]
          rw [e] at h9
          exact spot_of_cell h9
      match cs', hlen with
      | [v], _ =>
        have k0 := hcell 0 (by omega)
        rw [Addr.add_off b hs, Nat.mul_one] at k0
        have k1 : w.cell? ⟨b.block, b.off + i, none⟩ = some v := by
          have e : (⟨b.block, b.off + i, none⟩ : Addr).add 0 = ⟨b.block, b.off + i, none⟩ := by simp [Addr.add]
          rw [e] at k0
          simpa using k0
        obtain ⟨pb, lb, cb', rfl⟩ : ∃ p l c, v = .slice p l c := by
          rcases open_ints Try.underlying41 Try.underlying5 (by kernel_rfl) h2 with ⟨hcs, _⟩ | ⟨x, l, c, zs, hcs, _⟩
          · exact ⟨none, 0, 0, by simpa using hcs⟩
          · exact ⟨_, _, _, by simpa using hcs⟩
        obtain ⟨zs, hrow⟩ : ∃ zs, IsRow .u8 w pb lb cb' zs := by
          rcases open_ints Try.underlying41 Try.underlying5 (by kernel_rfl) h2 with ⟨hcs, _⟩ | ⟨x, l, c, zs, hcs, _, hl, hm, hz, _, hcl, hwz⟩
          · simp at hcs
            obtain ⟨rfl, rfl, rfl⟩ := hcs
            exact ⟨[], .inl ⟨rfl, rfl, rfl, rfl⟩⟩
          · simp at hcs
            obtain ⟨rfl, rfl, rfl⟩ := hcs
            exact ⟨zs, .inr ⟨_, rfl, hl, hm, by simpa using hz, hcl, hwz⟩⟩
        obtain ⟨lbs, hlb, hbs⟩ := hrow.bytes
        subst hlb
        exact ⟨lbs, hs, pb, cb', k1, hbs⟩
    obtain ⟨f, hf⟩ := Go.Deep.choose_lt each
    refine ⟨(List.range len).map f, by simp, Nat.le_trans hl hm, fun i hi => ?_⟩
    obtain ⟨h1, p, c, h2, h3⟩ := hf i hi
    refine ⟨b.block, b.off, f i, p, c, ?_, by simp [hi], h2, h3⟩
    cases b
    simp_all
end Go.Proofs.Ytiphekepglihlaa
