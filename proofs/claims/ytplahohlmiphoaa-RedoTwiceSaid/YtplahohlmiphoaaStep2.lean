/- redo: a step, and all of them. -/
import Derived.Test.YtplahohlmiphoaaStep
namespace Go.Proofs.Ytplahohlmiphoaa
open Go.RowKit
set_option linter.unusedVariables false

inductive Stp where
  | sync
  | write (at_ : Int) (b : List UInt8)

def doStp (n : Nat) (s : DS) : Stp → DS × Int
  | .sync => dSync s
  | .write at_ b => dWrite n s at_ b
def runStps (n : Nat) (s : DS) : List Stp → DS × Int
  | [] => (s, 0)
  | st :: r => if (doStp n s st).2 = 0 then runStps n (doStp n s st).1 r else doStp n s st

/-- bytes that lie elsewhere than a disk's blocks -/
def Far (w : World) (fp : Nat → Prop) (v : Value) (l : List UInt8) : Prop := Bs w v l ∧ (0 < l.length → ∀ g, v.ownBlock = some g → ¬ fp g)
/-- the four boxes of a step that writes -/
def IsWr (w : World) (d : Nat) (fp : Nat → Prop) (v : Value) (at_ : Int) (l : List UInt8) : Prop :=
  ∃ g0 g1 g2 g3 va vb la lb, v = .func (.func 56) #[] #[.pointer (some ⟨g0, 0, none⟩), .pointer (some ⟨g1, 0, none⟩), .pointer (some ⟨g2, 0, none⟩), .pointer (some ⟨g3, 0, none⟩)] ∧
    w.cell? ⟨g0, 0, none⟩ = some (.pointer (some ⟨d, 0, none⟩)) ∧ w.cell? ⟨g1, 0, none⟩ = some (.int .i64 at_) ∧ w.cell? ⟨g2, 0, none⟩ = some va ∧ w.cell? ⟨g3, 0, none⟩ = some vb ∧
    Far w fp va la ∧ Far w fp vb lb ∧ l = la ++ lb ∧ l.length ≤ 1000 ∧ ¬ fp g0 ∧ ¬ fp g1 ∧ ¬ fp g2 ∧ ¬ fp g3
def IsStp (w : World) (d : Nat) (fp : Nat → Prop) (v : Value) : Stp → Prop
  | .sync => v = .func (.func 21) #[.pointer (some ⟨d, 0, none⟩)] #[]
  | .write at_ l => IsWr w d fp v at_ l

theorem Far.chg {w w' : World} {fp fp' : Nat → Prop} {v : Value} {l : List UInt8} (h : Far w fp v l) (hc : Chg fp w w') (hf : ∀ k, fp' k → fp k ∨ w.heap.size ≤ k) : Far w' fp' v l :=
  ⟨h.1.chg hc (fun hz g hg _ => h.2 hz g hg), fun hz g hg hfp => by
    rcases hf g hfp with h1 | h1
    · exact h.2 hz g hg h1
    · have := Rd.lt h.1 hz (by decide) g hg; omega⟩
theorem IsWr.chg {w w' : World} {d : Nat} {fp fp' : Nat → Prop} {v : Value} {at_ : Int} {l : List UInt8} (h : IsWr w d fp v at_ l) (hc : Chg fp w w') (hf : ∀ k, fp' k → fp k ∨ w.heap.size ≤ k) : IsWr w' d fp' v at_ l := by
  obtain ⟨g0, g1, g2, g3, va, vb, la, lb, h1, c0, c1, c2, c3, f1, f2, h2, h3, n0, n1, n2, n3⟩ := h
  have go : ∀ {g : Nat} {u : Value}, w.cell? ⟨g, 0, none⟩ = some u → ¬ fp g → w'.cell? ⟨g, 0, none⟩ = some u ∧ ¬ fp' g := fun {g u} hcell hn => by
    have hlt := World.block_lt_of_cell? w ⟨g, 0, none⟩ hcell
    refine ⟨(CellTo hc hn hlt).trans hcell, fun hfp => ?_⟩
    rcases hf g hfp with h4 | h4
    · exact hn h4
    · have h5 : g < w.heap.size := hlt; omega
  exact ⟨g0, g1, g2, g3, va, vb, la, lb, h1, (go c0 n0).1, (go c1 n1).1, (go c2 n2).1, (go c3 n3).1, f1.chg hc hf, f2.chg hc hf, h2, h3, (go c0 n0).2, (go c1 n1).2, (go c2 n2).2, (go c3 n3).2⟩
theorem IsStp.chg {w w' : World} {d : Nat} {fp fp' : Nat → Prop} {v : Value} {st : Stp} (h : IsStp w d fp v st) (hc : Chg fp w w') (hf : ∀ k, fp' k → fp k ∨ w.heap.size ≤ k) : IsStp w' d fp' v st := by
  cases st with
  | sync => exact h
  | write at_ l => exact IsWr.chg h hc hf

theorem cells_new {w w' : World} {g0 g1 g2 g3 : Nat} {v0 v1 v2 v3 : Value} (h : w.cell? ⟨g0, 0, none⟩ = some v0 ∧ w.cell? ⟨g1, 0, none⟩ = some v1 ∧ w.cell? ⟨g2, 0, none⟩ = some v2 ∧ w.cell? ⟨g3, 0, none⟩ = some v3) (hb : Below w.heap.size w w') :
    w'.cell? ⟨g0, 0, none⟩ = some v0 ∧ w'.cell? ⟨g1, 0, none⟩ = some v1 ∧ w'.cell? ⟨g2, 0, none⟩ = some v2 ∧ w'.cell? ⟨g3, 0, none⟩ = some v3 := by
  have go : ∀ {g : Nat} {u : Value}, w.cell? ⟨g, 0, none⟩ = some u → w'.cell? ⟨g, 0, none⟩ = some u := fun {g u} hc => (hb.cell (p := ⟨g, 0, none⟩) (World.block_lt_of_cell? w ⟨g, 0, none⟩ hc)).trans hc
  exact ⟨go h.1, go h.2.1, go h.2.2.1, go h.2.2.2⟩

set_option maxRecDepth 100000 in
theorem wr_any (w : World) (d : Nat) (fp : Nat → Prop) (n : Nat) (s : DS) (g0 g1 g2 g3 : Nat) (va vb : Value) (la lb : List UInt8) (at_ : Int) (h : Dsk w d fp n s)
    (c0 : w.cell? ⟨g0, 0, none⟩ = some (.pointer (some ⟨d, 0, none⟩))) (c1 : w.cell? ⟨g1, 0, none⟩ = some (.int .i64 at_)) (c2 : w.cell? ⟨g2, 0, none⟩ = some va) (c3 : w.cell? ⟨g3, 0, none⟩ = some vb)
    (h1 : Far w fp va la) (h2 : Far w fp vb lb) (hl : (la ++ lb).length ≤ 1000) (ho : s.ops ≤ 1000000) (n3 : ¬ fp g3) :
    Calls Try.prog 56 #[.pointer (some ⟨g0, 0, none⟩), .pointer (some ⟨g1, 0, none⟩), .pointer (some ⟨g2, 0, none⟩), .pointer (some ⟨g3, 0, none⟩)] w fun e w' => e = .returned (.int .i64 (dWrite n s at_ (la ++ lb)).2) ∧ DskTo w d fp n (dWrite n s at_ (la ++ lb)).1 w' := by
  have H := hid h
  have H1 := hid h1
  have H2 := hid h2
  rw [List.length_append] at hl
  have CC : Hid (w.cell? ⟨g0, 0, none⟩ = some (.pointer (some ⟨d, 0, none⟩)) ∧ w.cell? ⟨g1, 0, none⟩ = some (.int .i64 at_) ∧ w.cell? ⟨g2, 0, none⟩ = some va ∧ w.cell? ⟨g3, 0, none⟩ = some vb) := hid ⟨c0, c1, c2, c3⟩
  clear h h1 h2 c0 c1 c2 c3
  go_enter Try.func56, Try.ntmps56
  go_wp2_with fail
  refine wp_region_plan (fun w' => w'.cell? ⟨g0, 0, none⟩ = some (.pointer (some ⟨d, 0, none⟩)) ∧ w'.cell? ⟨g1, 0, none⟩ = some (.int .i64 at_) ∧ w'.cell? ⟨g2, 0, none⟩ = some va ∧ w'.cell? ⟨g3, 0, none⟩ = some vb) (fun j => !([3, 5, 6, 7].contains j)) (fun j => [6, 7].contains j)
    (.of [0, 1, 2, 4, 3, 5, 6, 7]) (by kernel_rfl) (by kernel_rfl) rfl (by kernel_rfl) (by kernel_rfl) CC.out ?_
  apply wpPlan_val
  case ho => rfl
  case hst => rfl
  case hw => rfl
  case hv => intro w' hS; obtain ⟨c0, c1, c2, c3⟩ := hS; go_simp; first | done | rfl
  intro K hK
  go_simp
  refine hK _ ?_
  clear hK K
  apply wpPlan_val
  case ho => rfl
  case hst => rfl
  case hw => rfl
  case hv => intro w' hS; obtain ⟨c0, c1, c2, c3⟩ := hS; go_simp; first | done | rfl
  intro K hK
  go_simp
  refine hK _ ?_
  clear hK K
  apply wpPlan_val
  case ho => rfl
  case hst => rfl
  case hw => rfl
  case hv => intro w' hS; obtain ⟨c0, c1, c2, c3⟩ := hS; go_simp; first | done | rfl
  intro K hK
  go_simp
  refine hK _ ?_
  clear hK K
  apply wpPlan_val
  case ho => rfl
  case hst => rfl
  case hw => rfl
  case hv => intro w' hS; obtain ⟨c0, c1, c2, c3⟩ := hS; go_simp; first | done | rfl
  intro K hK
  go_simp
  refine hK _ ?_
  clear hK K
  refine wpPlan_list rfl rfl rfl (fun K hK => ?_)
  refine wpList_step (fun K2 hK2 => ?_)
  go_simp
  refine (clone_any va la w.drew (H1.out.1.chg (Chg.drewN NoFp w 1) (fun _ _ _ _ h => h)) (by omega)).mono ?_; rintro e1 w4 ⟨p4, q4, rfl, ho4, hb4⟩
  have O4 : Hid (w4.ownsRow w.heap.size 5 1 (.slice p4 la.length q4) la.length (bv la)) := hid ho4
  have B4 : Hid (Below w.heap.size w w4) := hid ((below_drewN (Below.refl _ _) 1).trans hb4)
  clear ho4 hb4
  go_simp
  refine hK2 _ _ ?_
  clear hK2 K2
  simp only [wpList]
  refine hK _ _ (fun _ => cells_new CC.out B4.out) ?_
  clear hK K
  refine wpPlan_list rfl rfl rfl (fun K hK => ?_)
  refine wpList_append_rd rfl _ _ 26 rfl w.heap.size 5 _ 1 1 Try.underlying26 infoU8 rfl (by decide) _ la.length (bv la) rfl O4.out _ lb.length (bv lb) rfl (Rd.new H2.out.1 B4.out) (bv_one _) (by simp only [maxLen]; omega) (by omega) B4.out.size ?_
  intro pp cc w5 hown5 hg5 hb5
  have B5 : Hid (Below w.heap.size w w5) := hid (B4.out.grown hg5 B4.out.size (fun k hk => (O4.out.lt k hk).1))
  have V5 : Hid (Bs w5 (.slice pp (la.length + lb.length) cc) (la ++ lb)) := hid (by
    have h5 := Rd.of_own hown5
    rw [← bv_append] at h5
    unfold Bs
    rw [List.length_append]
    exact h5)
  clear hown5 hg5 hb5
  simp only [wpList]
  refine hK _ _ (fun _ => cells_new CC.out B5.out) ?_
  clear hK K
  refine wpPlan_list rfl rfl rfl (fun K hK => ?_)
  refine wpList_step (fun K2 hK2 => ?_)
  go_simp
  refine (dWrite_any w5 d fp n s at_ _ (la ++ lb) (H.out.chg (Chg.new B5.out NoFp) (fun _ _ h => h)) V5.out (by rw [List.length_append]; omega) ho).mono ?_; rintro e1 w6 ⟨rfl, hto⟩
  have T6 := hid (DskTo.trans (Chg.new B5.out fp) (fun k h => .inl h) hto)
  clear hto
  go_simp
  refine hK2 _ _ ?_
  clear hK2 K2
  simp only [wpList]
  refine hK _ _ (fun h => by cases h) ?_
  clear hK K
  refine wpPlan_list rfl rfl rfl (fun K hK => ?_)
  refine wpList_step (fun K2 hK2 => ?_)
  go_simp
  refine hK2 _ _ ?_
  clear hK2 K2
  simp only [wpList]
  refine hK _ _ (fun h => by cases h) ?_
  clear hK K
  refine wpPlan_nil ?_
  simp only [Qn]
  go_wp2_with fail
  go_ret
  exact ⟨rfl, T6.out⟩
end Go.Proofs.Ytplahohlmiphoaa
