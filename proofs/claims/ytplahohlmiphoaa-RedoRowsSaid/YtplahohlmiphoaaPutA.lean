/- Arguments that came in: slices of pages. -/
import Derived.Test.YtplahohlmiphoaaArgs2
import Derived.Deep.Slices
import Derived.Test.YtplahohlmiphoaaXrec
namespace Go.Proofs.Ytplahohlmiphoaa
open Go.RowKit Go.ChangeShapes
set_option linter.unusedVariables false

/-- a page at a place -/
def PutAt (w : World) (ab off : Nat) (q : Int × List UInt8) : Prop :=
  ∃ pb cb, w.cell? ⟨ab, off, none⟩ = some (.int .i64 q.1) ∧ w.cell? ⟨ab, off + 1, none⟩ = some (.slice pb q.2.length cb) ∧ Bs w (.slice pb q.2.length cb) q.2 ∧ (Lit.int .i64 q.1).wf = true

def IsPutsA (w : World) (a : Option Addr) (len cap : Nat) (zs : List (Int × List UInt8)) : Prop :=
  zs.length = len ∧ len ≤ maxLen ∧ ∀ i, i < len → ∃ ab ao q, a = some ⟨ab, ao, none⟩ ∧ zs[i]? = some q ∧ PutAt w ab (ao + i * 2) q

theorem put_of_trod {H : Type} {enc : TypeId × Value → H} {w : World} {base : Nat} {held : Bool} {fuel : Nat} {cs : List Value} {x : DataW H × List MemPlace} {a : Addr}
    (hl : cs.length = 2) (hc : ∀ i, i < 2 → w.cell? (a.add i) = cs[i]?) (h : DataW.trod enc Try.prog w base (fun _ => true) held fuel 28 cs = some x) : a.spot = none ∧ ∃ d, PutAt w a.block a.off d := by
  obtain ⟨xs, k, hk, hxy, _, hxl, hf⟩ := DataW.trod_struct Try.underlying28 h
  have hxl : xs.length = 2 := hxl
  have ci : Try.prog.cellsOf 3 = 1 := by kernel_rfl
  have cb : Try.prog.cellsOf 26 = 1 := by kernel_rfl
  match cs, hl, xs, hxl with
  | [v0, v3], _, [y0, y3], _ =>
    have g0 := hf 0 _ rfl
    have g3 := hf 1 _ rfl
    simp [ci, cb] at g0 g3
    obtain ⟨z0, e0, e0'⟩ := DataW.trod_int Try.underlying3 g0
    obtain rfl : v0 = .int .i64 z0 := by simpa using e0
    have hs := spot_of_cell (hc 0 (by omega))
    have hcell : ∀ i, i < 2 → w.cell? ⟨a.block, a.off + i, none⟩ = [Value.int .i64 z0, v3][i]? := fun i hi => by
      have h1 := hc i hi
      rw [Addr.add_off a hs] at h1
      exact h1
    obtain ⟨pb, lb, cb', rfl⟩ : ∃ p l c, v3 = .slice p l c := by
      rcases open_ints Try.underlying26 Try.underlying5 (by kernel_rfl) g3 with ⟨hcs, _⟩ | ⟨x, l, c, zs, hcs, _⟩
      · exact ⟨none, 0, 0, by simpa using hcs⟩
      · exact ⟨_, _, _, by simpa using hcs⟩
    obtain ⟨zs, hrow⟩ : ∃ zs, IsRow .u8 w pb lb cb' zs := by
      rcases open_ints Try.underlying26 Try.underlying5 (by kernel_rfl) g3 with ⟨hcs, _⟩ | ⟨x, l, c, zs, hcs, _, hl, hm, hz, _, hcl, hwz⟩
      · simp at hcs
        obtain ⟨rfl, rfl, rfl⟩ := hcs
        exact ⟨[], .inl ⟨rfl, rfl, rfl, rfl⟩⟩
      · simp at hcs
        obtain ⟨rfl, rfl, rfl⟩ := hcs
        exact ⟨zs, .inr ⟨_, rfl, hl, hm, by simpa using hz, hcl, hwz⟩⟩
    obtain ⟨lbs, hlb, hbs⟩ := hrow.bytes
    subst hlb
    exact ⟨hs, ⟨z0, lbs⟩, pb, cb', hcell 0 (by omega), hcell 1 (by omega), hbs, e0'.2⟩

set_option maxRecDepth 100000 in
theorem puts_of_trod {H : Type} {enc : TypeId × Value → H} {w : World} {base : Nat} {held : Bool} {fuel : Nat} {a : Option Addr} {len cap : Nat} {x : DataW H × List MemPlace}
    (h : DataW.trod enc Try.prog w base (fun _ => true) held fuel 29 (Value.slice a len cap).cells.toList = some x) : ∃ zs, IsPutsA w a len cap zs := by
  have c5 : Try.prog.cellsOf 28 = 2 := by kernel_rfl
  rcases Go.Deep.open_slice Try.underlying29 h with ⟨h0, _⟩ | ⟨b, l, c, m, n, D, Pl, h0, _, hl, hm, hmm, _, hx⟩
  · simp [Value.cells] at h0
    obtain ⟨rfl, rfl, rfl⟩ := h0
    exact ⟨[], rfl, Nat.zero_le _, fun i hi => by omega⟩
  · simp [Value.cells] at h0
    obtain ⟨rfl, rfl, rfl⟩ := h0
    have hmc : m = cap := by simpa using hmm
    have hbs0 : 0 < len → b.spot = none := fun h0 => by
      obtain ⟨cs', h1, h2⟩ := hx 0 (by omega)
      rw [c5] at h1
      obtain ⟨_, hlen, hcell⟩ := World.cells?_some h1
      obtain ⟨hs, _⟩ := put_of_trod hlen hcell h2
      have e : b.add (0 * 2) = b := by simp [Addr.add]
      rw [e] at hs
      exact hs
    have each : ∀ i, i < len → ∃ d, b.spot = none ∧ PutAt w b.block (b.off + i * 2) d := fun i hi => by
      obtain ⟨cs', h1, h2⟩ := hx i (by omega)
      rw [c5] at h1
      obtain ⟨_, hlen, hcell⟩ := World.cells?_some h1
      obtain ⟨hs, d, hd⟩ := put_of_trod hlen hcell h2
      have hbs : b.spot = none := hbs0 (by omega)
      rw [Addr.add_off b hbs] at hd
      exact ⟨d, hbs, hd⟩
    have hinh : Inhabited (Int × List UInt8) := ⟨(0, [])⟩
    obtain ⟨f, hf⟩ := Go.Deep.choose_lt each
    refine ⟨(List.range len).map f, by simp, Nat.le_trans hl hm, fun i hi => ⟨b.block, b.off, f i, ?_, by simp [hi], (hf i hi).2⟩⟩
    have := (hf i hi).1
    cases b
    simp_all

/-- .. as the disk's calls want them -/
theorem IsPutsA.puts {w w' : World} {a : Option Addr} {len cap : Nat} {zs : List (Int × List UInt8)} {fp : Nat → Prop} (h : IsPutsA w a len cap zs) (hb : Below w.heap.size w w') (hfp : ∀ k, fp k → w.heap.size ≤ k) : IsPuts w' fp a zs := fun i hi => by
  obtain ⟨ab, ao, q, h1, h2, pb, cb, k0, k1, h3, h4⟩ := h.2.2 i (by rw [← h.1]; exact hi)
  have hab : ab < w.heap.size := World.block_lt_of_cell? w ⟨ab, ao + i * 2, none⟩ k0
  refine ⟨ab, ao, q, pb, cb, h1, h2, (hb.cell (p := ⟨ab, ao + i * 2, none⟩) hab).trans k0, (hb.cell (p := ⟨ab, ao + i * 2 + 1, none⟩) hab).trans k1, h3.new hb, fun hz g hg hf => ?_⟩
  have := Rd.lt h3 hz (by decide) g hg
  have := hfp g hf
  omega
theorem IsPutsA.wf {w : World} {a : Option Addr} {len cap : Nat} {zs : List (Int × List UInt8)} (h : IsPutsA w a len cap zs) : ∀ q ∈ zs, (Lit.int .i64 q.1).wf = true := fun q hq => by
  obtain ⟨i, hi, rfl⟩ := List.mem_iff_getElem.1 hq
  obtain ⟨ab, ao, q', h1, h2, pb, cb, k0, k1, h3, h4⟩ := h.2.2 i (by rw [← h.1]; exact hi)
  rw [List.getElem?_eq_getElem hi] at h2
  injection h2 with h2
  rw [h2]; exact h4
theorem IsPutsA.out {w : World} {a : Option Addr} {len cap : Nat} {zs : List (Int × List UInt8)} {fp : Nat → Prop} (h : IsPutsA w a len cap zs) (hl : ¬ len = 0) (hfp : ∀ k, fp k → w.heap.size ≤ k) : PutsOut fp a := fun ad had hf => by
  obtain ⟨ab, ao, q, h1, h2, pb, cb, k0, _⟩ := h.2.2 0 (by omega)
  subst had
  injection h1 with h1
  subst h1
  have : ab < w.heap.size := World.block_lt_of_cell? w ⟨ab, ao + 0 * 2, none⟩ k0
  have := hfp _ hf
  simp at this
  omega
end Go.Proofs.Ytplahohlmiphoaa
