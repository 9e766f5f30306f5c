/- Arguments that came in: slices of triadlaw2.Act. -/
import Derived.Test.YtgikaocimconlaaArgs2
import Derived.Deep.Slices
namespace Go.Proofs.Ytgikaocimconlaa
open Go.RowKit Go.ChangeShapes
set_option linter.unusedVariables false

structure ActD where
  kind : Int
  at_ : Int
  num : Int
  b : List UInt8
  keep : List Bool

instance : Inhabited ActD := ⟨⟨0, 0, 0, [], []⟩⟩

/-- an act at a place -/
def ActAt (w : World) (ab off : Nat) (d : ActD) : Prop :=
  ∃ pb cb pk ck, w.cell? ⟨ab, off, none⟩ = some (.int .i64 d.kind) ∧ w.cell? ⟨ab, off + 1, none⟩ = some (.int .i64 d.at_) ∧ w.cell? ⟨ab, off + 2, none⟩ = some (.int .i64 d.num) ∧
    w.cell? ⟨ab, off + 3, none⟩ = some (.slice pb d.b.length cb) ∧ w.cell? ⟨ab, off + 4, none⟩ = some (.slice pk d.keep.length ck) ∧ Bs w (.slice pb d.b.length cb) d.b ∧ Rd w 1 (.slice pk d.keep.length ck) d.keep.length (d.keep.map Value.bool)

def IsActs (w : World) (a : Option Addr) (len cap : Nat) (zs : List ActD) : Prop :=
  zs.length = len ∧ len ≤ maxLen ∧ ∀ i, i < len → ∃ ab ao d, a = some ⟨ab, ao, none⟩ ∧ zs[i]? = some d ∧ ActAt w ab (ao + i * 5) d

theorem act_of_trod {H : Type} {enc : TypeId × Value → H} {w : World} {base : Nat} {held : Bool} {fuel : Nat} {cs : List Value} {x : DataW H × List MemPlace} {a : Addr}
    (hl : cs.length = 5) (hc : ∀ i, i < 5 → w.cell? (a.add i) = cs[i]?) (h : DataW.trod enc Try.prog w base (fun _ => true) held fuel 60 cs = some x) : a.spot = none ∧ ∃ d, ActAt w a.block a.off d := by
  obtain ⟨xs, k, hk, hxy, _, hxl, hf⟩ := DataW.trod_struct Try.underlying60 h
  have hxl : xs.length = 5 := hxl
  have ci : Try.prog.cellsOf 3 = 1 := by kernel_rfl
  have cb : Try.prog.cellsOf 24 = 1 := by kernel_rfl
  have ck : Try.prog.cellsOf 51 = 1 := by kernel_rfl
  match cs, hl, xs, hxl with
  | [v0, v1, v2, v3, v4], _, [y0, y1, y2, y3, y4], _ =>
    have g0 := hf 0 _ rfl
    have g1 := hf 1 _ rfl
    have g2 := hf 2 _ rfl
    have g3 := hf 3 _ rfl
    have g4 := hf 4 _ rfl
    simp [ci, cb, ck] at g0 g1 g2 g3 g4
    obtain ⟨z0, e0, _⟩ := DataW.trod_int Try.underlying3 g0
    obtain ⟨z1, e1, _⟩ := DataW.trod_int Try.underlying3 g1
    obtain ⟨z2, e2, _⟩ := DataW.trod_int Try.underlying3 g2
    obtain rfl : v0 = .int .i64 z0 := by simpa using e0
    obtain rfl : v1 = .int .i64 z1 := by simpa using e1
    obtain rfl : v2 = .int .i64 z2 := by simpa using e2
    have hs := spot_of_cell (hc 0 (by omega))
    have hcell : ∀ i, i < 5 → w.cell? ⟨a.block, a.off + i, none⟩ = [Value.int .i64 z0, .int .i64 z1, .int .i64 z2, v3, v4][i]? := fun i hi => by
      have h1 := hc i hi
      rw [Addr.add_off a hs] at h1
      exact h1
    obtain ⟨pb, lb, cb', rfl⟩ : ∃ p l c, v3 = .slice p l c := by
      rcases open_ints Try.underlying24 Try.underlying5 (by kernel_rfl) g3 with ⟨hcs, _⟩ | ⟨x, l, c, zs, hcs, _⟩
      · exact ⟨none, 0, 0, by simpa using hcs⟩
      · exact ⟨_, _, _, by simpa using hcs⟩
    obtain ⟨zs, hrow⟩ : ∃ zs, IsRow .u8 w pb lb cb' zs := by
      rcases open_ints Try.underlying24 Try.underlying5 (by kernel_rfl) g3 with ⟨hcs, _⟩ | ⟨x, l, c, zs, hcs, _, hl, hm, hz, _, hcl, hwz⟩
      · simp at hcs
        obtain ⟨rfl, rfl, rfl⟩ := hcs
        exact ⟨[], .inl ⟨rfl, rfl, rfl, rfl⟩⟩
      · simp at hcs
        obtain ⟨rfl, rfl, rfl⟩ := hcs
        exact ⟨zs, .inr ⟨_, rfl, hl, hm, by simpa using hz, hcl, hwz⟩⟩
    obtain ⟨lbs, hlb, hbs⟩ := hrow.bytes
    subst hlb
    obtain ⟨pk, lk, ck', rfl⟩ : ∃ p l c, v4 = .slice p l c := by
      rcases Go.Deep.open_bools Try.underlying51 Try.underlying4 (by kernel_rfl) g4 with ⟨hcs, _⟩ | ⟨x, l, c, B, hcs, _⟩
      · exact ⟨none, 0, 0, by simpa using hcs⟩
      · exact ⟨_, _, _, by simpa using hcs⟩
    obtain ⟨ks, hks, hrk⟩ := bools_of_trod (a := pk) (len := lk) (cap := ck') Try.underlying51 Try.underlying4 (by kernel_rfl) (show DataW.trod enc Try.prog w base (fun _ => true) held k 51 (Value.slice pk lk ck').cells.toList = some y4 from g4)
    subst hks
    exact ⟨hs, ⟨z0, z1, z2, lbs, ks⟩, pb, cb', pk, ck', hcell 0 (by omega), hcell 1 (by omega), hcell 2 (by omega), hcell 3 (by omega), hcell 4 (by omega), hbs, hrk⟩

theorem acts_of_trod {H : Type} {enc : TypeId × Value → H} {w : World} {base : Nat} {held : Bool} {fuel : Nat} {a : Option Addr} {len cap : Nat} {x : DataW H × List MemPlace}
    (h : DataW.trod enc Try.prog w base (fun _ => true) held fuel 55 (Value.slice a len cap).cells.toList = some x) : ∃ zs, IsActs w a len cap zs := by
  have c5 : Try.prog.cellsOf 60 = 5 := by kernel_rfl
  rcases Go.Deep.open_slice Try.underlying55 h with ⟨h0, _⟩ | ⟨b, l, c, m, n, D, Pl, h0, _, hl, hm, hmm, _, hx⟩
  · simp [Value.cells] at h0
    obtain ⟨rfl, rfl, rfl⟩ := h0
    exact ⟨[], rfl, Nat.zero_le _, fun i hi => by omega⟩
  · simp [Value.cells] at h0
    obtain ⟨rfl, rfl, rfl⟩ := h0
    have hmc : m = cap := by simpa using hmm
    have hbs0 : 0 < len → b.spot = none := fun h0 => by
      obtain ⟨cs', h1, h2⟩ := hx 0 (by omega)
      rw [c5] at h1
      obtain ⟨_, hlen, hcell⟩ := World.cells?_some h1
      obtain ⟨hs, _⟩ := act_of_trod hlen hcell h2
      have e : b.add (0 * 5) = b := by simp [Addr.add]
      rw [e] at hs
      exact hs
    have each : ∀ i, i < len → ∃ d, b.spot = none ∧ ActAt w b.block (b.off + i * 5) d := fun i hi => by
      obtain ⟨cs', h1, h2⟩ := hx i (by omega)
      rw [c5] at h1
      obtain ⟨_, hlen, hcell⟩ := World.cells?_some h1
      obtain ⟨hs, d, hd⟩ := act_of_trod hlen hcell h2
      have hbs : b.spot = none := hbs0 (by omega)
      rw [Addr.add_off b hbs] at hd
      exact ⟨d, hbs, hd⟩
    obtain ⟨f, hf⟩ := Go.Deep.choose_lt each
    refine ⟨(List.range len).map f, by simp, Nat.le_trans hl hm, fun i hi => ⟨b.block, b.off, f i, ?_, by simp [hi], (hf i hi).2⟩⟩
    have := (hf i hi).1
    cases b
    simp_all
end Go.Proofs.Ytgikaocimconlaa
