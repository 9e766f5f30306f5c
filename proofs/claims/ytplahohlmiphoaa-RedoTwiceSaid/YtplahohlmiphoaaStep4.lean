/- redo.write: a step is made. -/
import Derived.Test.YtplahohlmiphoaaStep3
namespace Go.Proofs.Ytplahohlmiphoaa
open Go.RowKit
set_option linter.unusedVariables false

theorem four_boxes (w : World) (v0 v1 v2 v3 : Value) (t0 t1 t2 t3 : TypeId) :
    Below w.heap.size w ((((w.alloc (Obj.cells #[v0] t0)).alloc (Obj.cells #[v1] t1)).alloc (Obj.cells #[v2] t2)).alloc (Obj.cells #[v3] t3)) ∧
    ((((w.alloc (Obj.cells #[v0] t0)).alloc (Obj.cells #[v1] t1)).alloc (Obj.cells #[v2] t2)).alloc (Obj.cells #[v3] t3)).cell? ⟨w.heap.size, 0, none⟩ = some v0 ∧
    ((((w.alloc (Obj.cells #[v0] t0)).alloc (Obj.cells #[v1] t1)).alloc (Obj.cells #[v2] t2)).alloc (Obj.cells #[v3] t3)).cell? ⟨w.heap.size + 1, 0, none⟩ = some v1 ∧
    ((((w.alloc (Obj.cells #[v0] t0)).alloc (Obj.cells #[v1] t1)).alloc (Obj.cells #[v2] t2)).alloc (Obj.cells #[v3] t3)).cell? ⟨w.heap.size + 1 + 1, 0, none⟩ = some v2 ∧
    ((((w.alloc (Obj.cells #[v0] t0)).alloc (Obj.cells #[v1] t1)).alloc (Obj.cells #[v2] t2)).alloc (Obj.cells #[v3] t3)).cell? ⟨w.heap.size + 1 + 1 + 1, 0, none⟩ = some v3 := by
  have b0 : Blk (w.alloc (Obj.cells #[v0] t0)) w.heap.size [v0] t0 := heap_alloc_new w _
  have s0 : (w.alloc (Obj.cells #[v0] t0)).heap.size = w.heap.size + 1 := by simp
  have e0 : Below w.heap.size w (w.alloc (Obj.cells #[v0] t0)) := (Below.refl _ _).alloc (Nat.le_refl _) _
  generalize w.alloc (Obj.cells #[v0] t0) = wa at *
  have b1 : Blk (wa.alloc (Obj.cells #[v1] t1)) wa.heap.size [v1] t1 := heap_alloc_new wa _
  have s1 : (wa.alloc (Obj.cells #[v1] t1)).heap.size = wa.heap.size + 1 := by simp
  have e1 : Below w.heap.size w (wa.alloc (Obj.cells #[v1] t1)) := e0.alloc (by omega) _
  have b01 := b0.chg (Chg.alloc NoFp wa (Obj.cells #[v1] t1)) (fun h => h)
  generalize wa.alloc (Obj.cells #[v1] t1) = wb at *
  have b2 : Blk (wb.alloc (Obj.cells #[v2] t2)) wb.heap.size [v2] t2 := heap_alloc_new wb _
  have s2 : (wb.alloc (Obj.cells #[v2] t2)).heap.size = wb.heap.size + 1 := by simp
  have e2 : Below w.heap.size w (wb.alloc (Obj.cells #[v2] t2)) := e1.alloc (by omega) _
  have b02 := b01.chg (Chg.alloc NoFp wb (Obj.cells #[v2] t2)) (fun h => h)
  have b12 := b1.chg (Chg.alloc NoFp wb (Obj.cells #[v2] t2)) (fun h => h)
  generalize wb.alloc (Obj.cells #[v2] t2) = wc at *
  have b3 : Blk (wc.alloc (Obj.cells #[v3] t3)) wc.heap.size [v3] t3 := heap_alloc_new wc _
  have e3 : Below w.heap.size w (wc.alloc (Obj.cells #[v3] t3)) := e2.alloc (by omega) _
  have b03 := b02.chg (Chg.alloc NoFp wc (Obj.cells #[v3] t3)) (fun h => h)
  have b13 := b12.chg (Chg.alloc NoFp wc (Obj.cells #[v3] t3)) (fun h => h)
  have b23 := b2.chg (Chg.alloc NoFp wc (Obj.cells #[v3] t3)) (fun h => h)
  rw [s2, s1, s0] at b3
  rw [s1, s0] at b23
  rw [s0] at b13
  exact ⟨e3, Blk.cell b03 0, Blk.cell b13 0, Blk.cell b23 0, Blk.cell b3 0⟩

set_option maxRecDepth 100000 in
theorem mkwr_any (w : World) (d : Nat) (fp : Nat → Prop) (at_ : Int) (va vb : Value) (la lb : List UInt8) (h1 : Far w fp va la) (h2 : Far w fp vb lb) (hl : (la ++ lb).length ≤ 1000) (hfp : ∀ k, fp k → k < w.heap.size) :
    Calls Try.prog 34 #[.pointer (some ⟨d, 0, none⟩), .int .i64 at_, va, vb] w fun e w' => ∃ v, e = .returned v ∧ v.oneCell' = true ∧ IsStp w' d fp v (.write at_ (la ++ lb)) ∧ Below w.heap.size w w' := by
  have hmf : ∀ (fn : Fn) (first cap : Array Value) (w : World), (Instr.makeFunc fn first cap).run Try.prog w = .ok (.func fn first cap) w := fun fn first cap w => by simp [Instr.makeFunc]
  obtain ⟨hla, pa, ca, rfl, ha1, ha2, ha3, ha4⟩ := h1.1
  obtain ⟨hlb, pb, cb, rfl, hb1, hb2, hb3, hb4⟩ := h2.1
  have H1 := hid h1
  have H2 := hid h2
  clear h1 h2 hla hlb ha1 ha2 ha3 ha4 hb1 hb2 hb3 hb4
  have HF := hid hfp
  clear hfp
  go_enter Try.func34, Try.ntmps34
  go_wp2_with fail
  go_ret
  obtain ⟨hB, k0, k1, k2, k3⟩ := four_boxes w (.pointer (some ⟨d, 0, none⟩)) (.int .i64 at_) (.slice pa la.length ca) (.slice pb lb.length cb) 24 3 26 26
  have hn : ∀ j, ¬ fp (w.heap.size + j) := fun j hj => by have := HF.out _ hj; omega
  refine ⟨_, rfl, rfl, ⟨w.heap.size, w.heap.size + 1, w.heap.size + 1 + 1, w.heap.size + 1 + 1 + 1, _, _, la, lb, rfl, k0, k1, k2, k3, H1.out.chg (Chg.new hB fp) (fun k h => .inl h), H2.out.chg (Chg.new hB fp) (fun k h => .inl h), rfl, hl, hn 0, hn 1, hn 2, hn 3⟩, hB⟩
end Go.Proofs.Ytplahohlmiphoaa
