/- Arguments that came in: slices of triadlaw4.Act. -/
import Derived.Test.YtiphekepglihlaaArgs2
import Derived.Deep.Slices
namespace Go.Proofs.Ytiphekepglihlaa
open Go.RowKit Go.ChangeShapes
set_option linter.unusedVariables false

structure Act4 where
  kind : Int
  num : Int
  b : List UInt8

instance : Inhabited Act4 := ⟨⟨0, 0, []⟩⟩

/-- an act at a place -/
def Act4At (w : World) (ab off : Nat) (d : Act4) : Prop :=
  ∃ pb cb, w.cell? ⟨ab, off, none⟩ = some (.int .i64 d.kind) ∧ w.cell? ⟨ab, off + 1, none⟩ = some (.int .i64 d.num) ∧
    w.cell? ⟨ab, off + 2, none⟩ = some (.slice pb d.b.length cb) ∧ Bs w (.slice pb d.b.length cb) d.b ∧ (Lit.int .i64 d.kind).wf = true ∧ (Lit.int .i64 d.num).wf = true

def IsActs4 (w : World) (a : Option Addr) (len cap : Nat) (zs : List Act4) : Prop :=
  zs.length = len ∧ len ≤ maxLen ∧ ∀ i, i < len → ∃ ab ao d, a = some ⟨ab, ao, none⟩ ∧ zs[i]? = some d ∧ Act4At w ab (ao + i * 3) d

set_option maxRecDepth 100000 in
theorem act4_of_trod {H : Type} {enc : TypeId × Value → H} {w : World} {base : Nat} {held : Bool} {fuel : Nat} {cs : List Value} {x : DataW H × List MemPlace} {a : Addr}
    (hl : cs.length = 3) (hc : ∀ i, i < 3 → w.cell? (a.add i) = cs[i]?) (h : DataW.trod enc Try.prog w base (fun _ => true) held fuel 53 cs = some x) : a.spot = none ∧ ∃ d, Act4At w a.block a.off d := by
  obtain ⟨xs, k, hk, hxy, _, hxl, hf⟩ := DataW.trod_struct Try.underlying53 h
  have hxl : xs.length = 3 := hxl
  have ci : Try.prog.cellsOf 3 = 1 := by kernel_rfl
  have cb : Try.prog.cellsOf 41 = 1 := by kernel_rfl
  match cs, hl, xs, hxl with
  | [v0, v1, v3], _, [y0, y1, y3], _ =>
    have g0 := hf 0 _ rfl
    have g1 := hf 1 _ rfl
    have g3 := hf 2 _ rfl
    simp [ci, cb] at g0 g1 g3
    obtain ⟨z0, e0, f0⟩ := DataW.trod_int Try.underlying3 g0
    obtain ⟨z1, e1, f1⟩ := DataW.trod_int Try.underlying3 g1
    obtain rfl : v0 = .int .i64 z0 := by simpa using e0
    obtain rfl : v1 = .int .i64 z1 := by simpa using e1
    have hs := spot_of_cell (hc 0 (by omega))
    have hcell : ∀ i, i < 3 → w.cell? ⟨a.block, a.off + i, none⟩ = [Value.int .i64 z0, .int .i64 z1, v3][i]? := fun i hi => by
      have h1 := hc i hi
      rw [Addr.add_off a hs] at h1
      exact h1
    obtain ⟨pb, lb, cb', rfl⟩ : ∃ p l c, v3 = .slice p l c := by
      rcases open_ints Try.underlying41 Try.underlying5 (by kernel_rfl) g3 with ⟨hcs, _⟩ | ⟨x, l, c, zs, hcs, _⟩
      · exact ⟨none, 0, 0, by simpa using hcs⟩
      · exact ⟨_, _, _, by simpa using hcs⟩
    obtain ⟨zs, hrow⟩ : ∃ zs, IsRow .u8 w pb lb cb' zs := by
      rcases open_ints Try.underlying41 Try.underlying5 (by kernel_rfl) g3 with ⟨hcs, _⟩ | ⟨x, l, c, zs, hcs, _, hl, hm, hz, _, hcl, hwz⟩
      · simp at hcs
        obtain ⟨rfl, rfl, rfl⟩ := hcs
        exact ⟨[], .inl ⟨rfl, rfl, rfl, rfl⟩⟩
      · simp at hcs
        obtain ⟨rfl, rfl, rfl⟩ := hcs
        exact ⟨zs, .inr ⟨_, rfl, hl, hm, by simpa using hz, hcl, hwz⟩⟩
    obtain ⟨lbs, hlb, hbs⟩ := hrow.bytes
    subst hlb
    exact ⟨hs, ⟨z0, z1, lbs⟩, pb, cb', hcell 0 (by omega), hcell 1 (by omega), hcell 2 (by omega), hbs, f0.2, f1.2⟩

set_option maxRecDepth 100000 in
theorem acts4_of_trod {H : Type} {enc : TypeId × Value → H} {w : World} {base : Nat} {held : Bool} {fuel : Nat} {a : Option Addr} {len cap : Nat} {x : DataW H × List MemPlace}
    (h : DataW.trod enc Try.prog w base (fun _ => true) held fuel 48 (Value.slice a len cap).cells.toList = some x) : ∃ zs, IsActs4 w a len cap zs := by
  have c3 : Try.prog.cellsOf 53 = 3 := by kernel_rfl
  rcases Go.Deep.open_slice Try.underlying48 h with ⟨h0, _⟩ | ⟨b, l, c, m, n, D, Pl, h0, _, hl, hm, hmm, _, hx⟩
  · simp [Value.cells] at h0
    obtain ⟨rfl, rfl, rfl⟩ := h0
    exact ⟨[], rfl, Nat.zero_le _, fun i hi => by omega⟩
  · simp [Value.cells] at h0
    obtain ⟨rfl, rfl, rfl⟩ := h0
    have hmc : m = cap := by simpa using hmm
    have hbs0 : 0 < len → b.spot = none := fun h0 => by
      obtain ⟨cs', h1, h2⟩ := hx 0 (by omega)
      rw [c3] at h1
      obtain ⟨_, hlen, hcell⟩ := World.cells?_some h1
      obtain ⟨hs, _⟩ := act4_of_trod hlen hcell h2
      have e : b.add (0 * 3) = b := by simp [Addr.add]
      rw [e] at hs
      exact hs
    have each : ∀ i, i < len → ∃ d, b.spot = none ∧ Act4At w b.block (b.off + i * 3) d := fun i hi => by
      obtain ⟨cs', h1, h2⟩ := hx i (by omega)
      rw [c3] at h1
      obtain ⟨_, hlen, hcell⟩ := World.cells?_some h1
      obtain ⟨hs, d, hd⟩ := act4_of_trod hlen hcell h2
      have hbs : b.spot = none := hbs0 (by omega)
      rw [Addr.add_off b hbs] at hd
      exact ⟨d, hbs, hd⟩
    obtain ⟨f, hf⟩ := Go.Deep.choose_lt each
    refine ⟨(List.range len).map f, by simp, Nat.le_trans hl hm, fun i hi => ⟨b.block, b.off, f i, ?_, by simp [hi], (hf i hi).2⟩⟩
    have := (hf i hi).1
    cases b
    simp_all
end Go.Proofs.Ytiphekepglihlaa
