/- bytes.Clone; a step of redo's: a func value. redo: a step, and all of them. redo.all: steps, one behind the other, till one answers an error. redo.write: a step is made. redo.finish: pages are written home, the log is forgotten. redo.home; triadref3.page. triadref1.Int: a number's eight bytes. redo.check: what is wrong with pages. redo.Commit: pages are written behind a log. bytes.Equal, bytes.HasPrefix; redo.count. rows of pages that a call itself makes. redo.Recover. Pad rows of pages, among blocks that are made earlier and later. Recs2 a log of pages, as pure data: what a crash may leave, what is done again. a commit, and a recovering, wherever the power goes: pure laws. a commit whole, and what is done again behind a crash. append of noughts, onto bytes of one's own. -/
import Derived.Test.YtdilkgcoecipjaaM2
import Derived.WalkSpells
import Derived.Test.YtdilkgcoecipjaaM1
import Derived.Maps.OwnOps
import Derived.Maps.Views
import Derived.Maps.OwnSet
import Derived.Lib.SlBytesConst
import Derived.Lib.AppendZerosOnto
namespace Go.Proofs.Ytdilkgcoecipjaa
open Go.RowKit
set_option linter.unusedVariables false

set_option maxRecDepth 100000 in
theorem clone_any (v : Value) (l : List UInt8) (w : World) (hv : Bs w v l) (hl : l.length ≤ 1000000) :
    Calls Try.prog 73 #[v] w fun e w' => ∃ p c, e = .returned (.slice p l.length c) ∧ w'.ownsRow w.heap.size 5 1 (.slice p l.length c) l.length (bv l) ∧ Below w.heap.size w w' := by
  have hv0 := hv
  have HV := hid hv
  obtain ⟨hlen, p, cap, rfl, h1, h2, h3, h4⟩ := hv
  cases p with
  | none =>
    have hc := h3 rfl
    have hn : l.length = 0 := by omega
    obtain rfl : l = [] := List.eq_nil_of_length_eq_zero hn
    subst hc
    have he := fun w a n c n2 c2 => Go.Lib.run_eql_slice_nil (P := Try.prog) w 30 5 a n c n2 c2 Try.underlying30
    go_enter Try.func73, Try.ntmps73
    go_wp2_with fail
    go_ret
    exact ⟨none, 0, rfl, World.ownsRow_nil _ _ _ _, Below.refl _ _⟩
  | some a =>
    have he := fun w a n c n2 c2 => Go.Lib.run_eql_slice_nil (P := Try.prog) w 30 5 a n c n2 c2 Try.underlying30
    clear hv0 h4
    go_enter Try.func73, Try.ntmps73
    go_wp2_with (at_builtin; refine wpList_append_rd rfl _ _ 30 rfl w.heap.size 5 _ 1 1 Try.underlying30 infoU8 rfl (by decide) _ 0 [] rfl (own_fresh _ _ _ 0 rfl (by simp [maxLen]) _ (Nat.le_refl _)) _ l.length (bv l) rfl (HV.out |> fun hq => Rd.new hq ((Below.refl _ _).alloc (Nat.le_refl _) _)) (bv_one _) (by simp only [maxLen]; omega) (by omega) (by simp) ?_; intro pp cc w4 hown4 hg4 hb4; have OW4 := hid hown4; have G4 : Hid (Below w.heap.size w w4) := hid (((Below.refl w.heap.size w).alloc (Nat.le_refl _) _).grown hg4 (by simp) (by intro k hk; cases hk; exact Nat.le_refl _)); clear hown4 hg4 hb4)
    go_ret
    have h := OW4.out
    rw [Nat.zero_add, List.nil_append] at h
    exact ⟨_, _, rfl, h, G4.out⟩
end Go.Proofs.Ytdilkgcoecipjaa

namespace Go.Proofs.Ytdilkgcoecipjaa
open Go.RowKit
set_option linter.unusedVariables false

inductive Stp where
  | sync
  | write (at_ : Int) (b : List UInt8)

def doStp (n : Nat) (s : DS) : Stp → DS × Int
  | .sync => dSync s
  | .write at_ b => dWrite n s at_ b
def runStps (n : Nat) (s : DS) : List Stp → DS × Int
  | [] => (s, 0)
  | st :: r => if (doStp n s st).2 = 0 then runStps n (doStp n s st).1 r else doStp n s st

/-- bytes that lie elsewhere than a disk's blocks -/
def Far (w : World) (fp : Nat → Prop) (v : Value) (l : List UInt8) : Prop := Bs w v l ∧ (0 < l.length → ∀ g, v.ownBlock = some g → ¬ fp g)
/-- the four boxes of a step that writes -/
def IsWr (w : World) (d : Nat) (fp : Nat → Prop) (v : Value) (at_ : Int) (l : List UInt8) : Prop :=
  ∃ g0 g1 g2 g3 va vb la lb, v = .func (.func 82) #[] #[.pointer (some ⟨g0, 0, none⟩), .pointer (some ⟨g1, 0, none⟩), .pointer (some ⟨g2, 0, none⟩), .pointer (some ⟨g3, 0, none⟩)] ∧
    w.cell? ⟨g0, 0, none⟩ = some (.pointer (some ⟨d, 0, none⟩)) ∧ w.cell? ⟨g1, 0, none⟩ = some (.int .i64 at_) ∧ w.cell? ⟨g2, 0, none⟩ = some va ∧ w.cell? ⟨g3, 0, none⟩ = some vb ∧
    Far w fp va la ∧ Far w fp vb lb ∧ l = la ++ lb ∧ l.length ≤ 1000 ∧ ¬ fp g0 ∧ ¬ fp g1 ∧ ¬ fp g2 ∧ ¬ fp g3
def IsStp (w : World) (d : Nat) (fp : Nat → Prop) (v : Value) : Stp → Prop
  | .sync => v = .func (.func 72) #[.pointer (some ⟨d, 0, none⟩)] #[]
  | .write at_ l => IsWr w d fp v at_ l

theorem Far.chg {w w' : World} {fp fp' : Nat → Prop} {v : Value} {l : List UInt8} (h : Far w fp v l) (hc : Chg fp w w') (hf : ∀ k, fp' k → fp k ∨ w.heap.size ≤ k) : Far w' fp' v l :=
  ⟨h.1.chg hc (fun hz g hg _ => h.2 hz g hg), fun hz g hg hfp => by
    rcases hf g hfp with h1 | h1
    · exact h.2 hz g hg h1
    · have := Rd.lt h.1 hz (by decide) g hg; omega⟩
theorem IsWr.chg {w w' : World} {d : Nat} {fp fp' : Nat → Prop} {v : Value} {at_ : Int} {l : List UInt8} (h : IsWr w d fp v at_ l) (hc : Chg fp w w') (hf : ∀ k, fp' k → fp k ∨ w.heap.size ≤ k) : IsWr w' d fp' v at_ l := by
  obtain ⟨g0, g1, g2, g3, va, vb, la, lb, h1, c0, c1, c2, c3, f1, f2, h2, h3, n0, n1, n2, n3⟩ := h
  have go : ∀ {g : Nat} {u : Value}, w.cell? ⟨g, 0, none⟩ = some u → ¬ fp g → w'.cell? ⟨g, 0, none⟩ = some u ∧ ¬ fp' g := fun {g u} hcell hn => by
    have hlt := World.block_lt_of_cell? w ⟨g, 0, none⟩ hcell
    refine ⟨(CellTo hc hn hlt).trans hcell, fun hfp => ?_⟩
    rcases hf g hfp with h4 | h4
    · exact hn h4
    · have h5 : g < w.heap.size := hlt; omega
  exact ⟨g0, g1, g2, g3, va, vb, la, lb, h1, (go c0 n0).1, (go c1 n1).1, (go c2 n2).1, (go c3 n3).1, f1.chg hc hf, f2.chg hc hf, h2, h3, (go c0 n0).2, (go c1 n1).2, (go c2 n2).2, (go c3 n3).2⟩
theorem IsStp.chg {w w' : World} {d : Nat} {fp fp' : Nat → Prop} {v : Value} {st : Stp} (h : IsStp w d fp v st) (hc : Chg fp w w') (hf : ∀ k, fp' k → fp k ∨ w.heap.size ≤ k) : IsStp w' d fp' v st := by
  cases st with
  | sync => exact h
  | write at_ l => exact IsWr.chg h hc hf

theorem cells_new {w w' : World} {g0 g1 g2 g3 : Nat} {v0 v1 v2 v3 : Value} (h : w.cell? ⟨g0, 0, none⟩ = some v0 ∧ w.cell? ⟨g1, 0, none⟩ = some v1 ∧ w.cell? ⟨g2, 0, none⟩ = some v2 ∧ w.cell? ⟨g3, 0, none⟩ = some v3) (hb : Below w.heap.size w w') :
    w'.cell? ⟨g0, 0, none⟩ = some v0 ∧ w'.cell? ⟨g1, 0, none⟩ = some v1 ∧ w'.cell? ⟨g2, 0, none⟩ = some v2 ∧ w'.cell? ⟨g3, 0, none⟩ = some v3 := by
  have go : ∀ {g : Nat} {u : Value}, w.cell? ⟨g, 0, none⟩ = some u → w'.cell? ⟨g, 0, none⟩ = some u := fun {g u} hc => (hb.cell (p := ⟨g, 0, none⟩) (World.block_lt_of_cell? w ⟨g, 0, none⟩ hc)).trans hc
  exact ⟨go h.1, go h.2.1, go h.2.2.1, go h.2.2.2⟩

set_option maxRecDepth 100000 in
theorem wr_any (w : World) (d : Nat) (fp : Nat → Prop) (n : Nat) (s : DS) (g0 g1 g2 g3 : Nat) (va vb : Value) (la lb : List UInt8) (at_ : Int) (h : Dsk w d fp n s)
    (c0 : w.cell? ⟨g0, 0, none⟩ = some (.pointer (some ⟨d, 0, none⟩))) (c1 : w.cell? ⟨g1, 0, none⟩ = some (.int .i64 at_)) (c2 : w.cell? ⟨g2, 0, none⟩ = some va) (c3 : w.cell? ⟨g3, 0, none⟩ = some vb)
    (h1 : Far w fp va la) (h2 : Far w fp vb lb) (hl : (la ++ lb).length ≤ 1000) (ho : s.ops ≤ 1000000) (n3 : ¬ fp g3) :
    Calls Try.prog 82 #[.pointer (some ⟨g0, 0, none⟩), .pointer (some ⟨g1, 0, none⟩), .pointer (some ⟨g2, 0, none⟩), .pointer (some ⟨g3, 0, none⟩)] w fun e w' => e = .returned (.int .i64 (dWrite n s at_ (la ++ lb)).2) ∧ DskTo w d fp n (dWrite n s at_ (la ++ lb)).1 w' := by
  have H := hid h
  have H1 := hid h1
  have H2 := hid h2
  rw [List.length_append] at hl
  have CC : Hid (w.cell? ⟨g0, 0, none⟩ = some (.pointer (some ⟨d, 0, none⟩)) ∧ w.cell? ⟨g1, 0, none⟩ = some (.int .i64 at_) ∧ w.cell? ⟨g2, 0, none⟩ = some va ∧ w.cell? ⟨g3, 0, none⟩ = some vb) := hid ⟨c0, c1, c2, c3⟩
  clear h h1 h2 c0 c1 c2 c3
  go_enter Try.func82, Try.ntmps82
  go_wp2_with fail
  refine wp_region_plan (fun w' => w'.cell? ⟨g0, 0, none⟩ = some (.pointer (some ⟨d, 0, none⟩)) ∧ w'.cell? ⟨g1, 0, none⟩ = some (.int .i64 at_) ∧ w'.cell? ⟨g2, 0, none⟩ = some va ∧ w'.cell? ⟨g3, 0, none⟩ = some vb) (fun j => !([3, 5, 6, 7].contains j)) (fun j => [6, 7].contains j)
    (.of [0, 1, 2, 4, 3, 5, 6, 7]) (by kernel_rfl) (by kernel_rfl) rfl (by kernel_rfl) (by kernel_rfl) CC.out ?_
  apply wpPlan_val
  case ho => rfl
  case hst => rfl
  case hw => rfl
  case hv => intro w' hS; obtain ⟨c0, c1, c2, c3⟩ := hS; go_simp; first | done | rfl
  intro K hK
  go_simp
  refine hK _ ?_
  clear hK K
  apply wpPlan_val
  case ho => rfl
  case hst => rfl
  case hw => rfl
  case hv => intro w' hS; obtain ⟨c0, c1, c2, c3⟩ := hS; go_simp; first | done | rfl
  intro K hK
  go_simp
  refine hK _ ?_
  clear hK K
  apply wpPlan_val
  case ho => rfl
  case hst => rfl
  case hw => rfl
  case hv => intro w' hS; obtain ⟨c0, c1, c2, c3⟩ := hS; go_simp; first | done | rfl
  intro K hK
  go_simp
  refine hK _ ?_
  clear hK K
  apply wpPlan_val
  case ho => rfl
  case hst => rfl
  case hw => rfl
  case hv => intro w' hS; obtain ⟨c0, c1, c2, c3⟩ := hS; go_simp; first | done | rfl
  intro K hK
  go_simp
  refine hK _ ?_
  clear hK K
  refine wpPlan_list rfl rfl rfl (fun K hK => ?_)
  refine wpList_step (fun K2 hK2 => ?_)
  go_simp
  refine (clone_any va la w.drew (H1.out.1.chg (Chg.drewN NoFp w 1) (fun _ _ _ _ h => h)) (by omega)).mono ?_; rintro e1 w4 ⟨p4, q4, rfl, ho4, hb4⟩
  have O4 : Hid (w4.ownsRow w.heap.size 5 1 (.slice p4 la.length q4) la.length (bv la)) := hid ho4
  have B4 : Hid (Below w.heap.size w w4) := hid ((below_drewN (Below.refl _ _) 1).trans hb4)
  clear ho4 hb4
  go_simp
  refine hK2 _ _ ?_
  clear hK2 K2
  simp only [wpList]
  refine hK _ _ (fun _ => cells_new CC.out B4.out) ?_
  clear hK K
  refine wpPlan_list rfl rfl rfl (fun K hK => ?_)
  refine wpList_append_rd rfl _ _ 30 rfl w.heap.size 5 _ 1 1 Try.underlying30 infoU8 rfl (by decide) _ la.length (bv la) rfl O4.out _ lb.length (bv lb) rfl (Rd.new H2.out.1 B4.out) (bv_one _) (by simp only [maxLen]; omega) (by omega) B4.out.size ?_
  intro pp cc w5 hown5 hg5 hb5
  have B5 : Hid (Below w.heap.size w w5) := hid (B4.out.grown hg5 B4.out.size (fun k hk => (O4.out.lt k hk).1))
  have V5 : Hid (Bs w5 (.slice pp (la.length + lb.length) cc) (la ++ lb)) := hid (by
    have h5 := Rd.of_own hown5
    rw [← bv_append] at h5
    unfold Bs
    rw [List.length_append]
    exact h5)
  clear hown5 hg5 hb5
  simp only [wpList]
  refine hK _ _ (fun _ => cells_new CC.out B5.out) ?_
  clear hK K
  refine wpPlan_list rfl rfl rfl (fun K hK => ?_)
  refine wpList_step (fun K2 hK2 => ?_)
  go_simp
  refine (dWrite_any w5 d fp n s at_ _ (la ++ lb) (H.out.chg (Chg.new B5.out NoFp) (fun _ _ h => h)) V5.out (by rw [List.length_append]; omega) ho).mono ?_; rintro e1 w6 ⟨rfl, hto⟩
  have T6 := hid (DskTo.trans (Chg.new B5.out fp) (fun k h => .inl h) hto)
  clear hto
  go_simp
  refine hK2 _ _ ?_
  clear hK2 K2
  simp only [wpList]
  refine hK _ _ (fun h => by cases h) ?_
  clear hK K
  refine wpPlan_list rfl rfl rfl (fun K hK => ?_)
  refine wpList_step (fun K2 hK2 => ?_)
  go_simp
  refine hK2 _ _ ?_
  clear hK2 K2
  simp only [wpList]
  refine hK _ _ (fun h => by cases h) ?_
  clear hK K
  refine wpPlan_nil ?_
  simp only [Qn]
  go_wp2_with fail
  go_ret
  exact ⟨rfl, T6.out⟩
end Go.Proofs.Ytdilkgcoecipjaa

namespace Go.Proofs.Ytdilkgcoecipjaa
open Go.RowKit
set_option linter.unusedVariables false

/-- a row of steps -/
def IsAll (w : World) (d : Nat) (fp : Nat → Prop) (a : Option Addr) (sts : List Stp) : Prop :=
  ∀ i, i < sts.length → ∃ ab ao v st, a = some ⟨ab, ao, none⟩ ∧ sts[i]? = some st ∧ w.cell? ⟨ab, ao + i, none⟩ = some v ∧ ¬ fp ab ∧ IsStp w d fp v st

def AllAt (w : World) (d : Nat) (fp : Nat → Prop) (n : Nat) (s : DS) (sts : List Stp) (i : Nat) (wr : World) (s1 : DS) (fp1 : Nat → Prop) : Prop :=
  i ≤ sts.length ∧ Dsk wr d fp1 n s1 ∧ Chg fp w wr ∧ (∀ k, fp1 k → fp k ∨ w.heap.size ≤ k) ∧ runStps n s sts = runStps n s1 (sts.drop i) ∧ s1.ops ≤ s.ops + i

theorem sync_to {w w' : World} {d : Nat} {fp : Nat → Prop} {n : Nat} {s : DS} (h : Dsk w' d fp n s) (hc : Chg fp w w') : DskTo w d fp n s w' := ⟨fp, h, hc, fun _ h => .inl h⟩

theorem doStp_ops (n : Nat) (s : DS) (st : Stp) : (doStp n s st).1.ops ≤ s.ops + 1 := by
  cases st with
  | sync =>
    show (dSync s).1.ops ≤ _
    unfold dSync
    split
    · simp only; omega
    · split
      · rw [dStep_ops]; exact Int.le_refl _
      · show (dStep s).ops ≤ _
        rw [dStep_ops]; exact Int.le_refl _
  | write at_ l =>
    show (dWrite n s at_ l).1.ops ≤ _
    unfold dWrite
    split
    · simp only; omega
    · split
      · simp only; omega
      · rw [dStep_ops]; exact Int.le_refl _

theorem AllAt.step {w wr w' : World} {d n : Nat} {fp fp1 : Nat → Prop} {s s1 : DS} {sts : List Stp} {i : Nat} {st : Stp} (h : AllAt w d fp n s sts i wr s1 fp1) (hst : sts[i]? = some st) (h0 : (doStp n s1 st).2 = 0)
    (ht : DskTo wr d fp1 n (doStp n s1 st).1 w') : ∃ fp2, AllAt w d fp n s sts (i + 1) w' (doStp n s1 st).1 fp2 := by
  obtain ⟨h1, h2, h3, h4, h5, h6⟩ := h
  obtain ⟨fp2, g1, g2, g3⟩ := ht
  have hlt := (List.getElem?_eq_some_iff.1 hst).1
  refine ⟨fp2, by omega, g1, h3.trans g2 (fun k hk hf => ?_), fun k hk => ?_, ?_, ?_⟩
  · rcases h4 k hf with h7 | h7
    · exact h7
    · omega
  · rcases g3 k hk with h7 | h7
    · exact h4 k h7
    · exact .inr (Nat.le_trans h3.size h7)
  · rw [h5, List.drop_eq_getElem_cons hlt]
    have he : sts[i] = st := (List.getElem?_eq_some_iff.1 hst).2
    rw [he, runStps, if_pos h0]
  · have := doStp_ops n s1 st
    push_cast; omega
theorem AllAt.stop {w wr w' : World} {d n : Nat} {fp fp1 : Nat → Prop} {s s1 : DS} {sts : List Stp} {i : Nat} {st : Stp} (h : AllAt w d fp n s sts i wr s1 fp1) (hst : sts[i]? = some st) (h0 : ¬ (doStp n s1 st).2 = 0)
    (ht : DskTo wr d fp1 n (doStp n s1 st).1 w') : runStps n s sts = doStp n s1 st ∧ DskTo w d fp n (doStp n s1 st).1 w' := by
  obtain ⟨h1, h2, h3, h4, h5, h6⟩ := h
  have hlt := (List.getElem?_eq_some_iff.1 hst).1
  refine ⟨?_, DskTo.trans h3 h4 ht⟩
  rw [h5, List.drop_eq_getElem_cons hlt]
  have he : sts[i] = st := (List.getElem?_eq_some_iff.1 hst).2
  rw [he, runStps, if_neg h0]

/-- a step is done -/
theorem stp_any (w : World) (d : Nat) (fp : Nat → Prop) (n : Nat) (s : DS) (at_ : Int) (l : List UInt8) (g0 g1 g2 g3 : Nat) (h : Dsk w d fp n s)
    (hw : IsWr w d fp (.func (.func 82) #[] #[.pointer (some ⟨g0, 0, none⟩), .pointer (some ⟨g1, 0, none⟩), .pointer (some ⟨g2, 0, none⟩), .pointer (some ⟨g3, 0, none⟩)]) at_ l) (ho : s.ops ≤ 1000000) :
    Calls Try.prog 82 #[.pointer (some ⟨g0, 0, none⟩), .pointer (some ⟨g1, 0, none⟩), .pointer (some ⟨g2, 0, none⟩), .pointer (some ⟨g3, 0, none⟩)] w fun e w' => e = .returned (.int .i64 (dWrite n s at_ l).2) ∧ DskTo w d fp n (dWrite n s at_ l).1 w' := by
  obtain ⟨h0, h1, h2, h3, va, vb, la, lb, he, c0, c1, c2, c3, f1, f2, rfl, hl, n0, n1, n2, n3⟩ := hw
  simp at he
  obtain ⟨rfl, rfl, rfl, rfl⟩ := he
  exact wr_any w d fp n s _ _ _ _ va vb la lb at_ h c0 c1 c2 c3 f1 f2 hl ho n3

set_option maxRecDepth 100000 in
set_option maxHeartbeats 4000000 in
theorem all_any (w : World) (d : Nat) (fp : Nat → Prop) (n : Nat) (s : DS) (a : Option Addr) (m c : Nat) (sts : List Stp) (h : Dsk w d fp n s) (hm : m = sts.length) (hm2 : m ≤ 1000) (hs : IsAll w d fp a sts) (ho : s.ops + 1000 ≤ 1000000) :
    Calls Try.prog 71 #[.slice a m c] w fun e w' => e = .returned (.int .i64 (runStps n s sts).2) ∧ DskTo w d fp n (runStps n s sts).1 w' := by
  subst hm
  have HS := hid hs
  have H0 : Hid (AllAt w d fp n s sts 0 w s fp) := hid ⟨Nat.zero_le _, h, Chg.refl _ _, fun k hk => .inl hk, rfl, by simp⟩
  clear h hs
  go_enter Try.func71, Try.ntmps71
  go_wp2_with fail
  refine wp_scope_goto 0 (fun dd aa wr => ∃ (i : Nat) (s1 : DS) (fp1 : Nat → Prop) (u4 u5 u6 u7 u8 u9 u10 u11 u12 u13 u14 u15 u16 u17 u18 : Value), dd = sts.length - i ∧ AllAt w d fp n s sts i wr s1 fp1 ∧
     aa = ⟨#[.slice a sts.length c, undef, .int .i64 0, .int .i64 i, u4, u5, u6, u7, u8, u9, u10, u11, u12, u13, u14, u15, u16, u17, u18], []⟩) rfl ?pass ?first
  case first =>
    intro K hK
    go_wp2_with fail
    refine wp_label ?_
    simp only [Exit.then]
    rename_i hK'
    exact hK' _ _ (hK _ _ _ ⟨0, s, fp, _, _, _, _, _, _, _, _, _, _, _, _, _, _, _, rfl, H0.out, rfl⟩)
  case pass =>
    rintro dd aa wr ⟨i, s1, fp1, u4, u5, u6, u7, u8, u9, u10, u11, u12, u13, u14, u15, u16, u17, u18, rfl, hat, rfl⟩ K hK
    have HK := hid hK
    have HA := hid hat
    obtain ⟨hi, hd1, hc1, hf1, hr1, hops⟩ := hat
    have HD := hid hd1
    have HC := hid hc1
    have HF := hid hf1
    have HR := hid hr1
    clear hK hd1 hc1 hf1 hr1 H0
    by_cases hlt : i < sts.length
    · obtain ⟨ab, ao, v, st, rfl, hst, hcell, hnab, hstp⟩ := HS.out i hlt
      have hcw : wr.cell? ⟨ab, ao + i, none⟩ = some v := (CellTo HC.out hnab (World.block_lt_of_cell? w ⟨ab, ao + i, none⟩ hcell)).trans hcell
      have HP := hid (hstp.chg HC.out HF.out)
      have HST := hid hst
      have him : ¬ i = sts.length := by omega
      clear hcell hstp hst
      cases st with
      | sync =>
        have hv : v = .func (.func 72) #[.pointer (some ⟨d, 0, none⟩)] #[] := HP.out
        subst hv
        go_wp2_with fail
        refine (dSync_any wr d fp1 n s1 HD.out (by omega)).mono ?_; rintro e1 w5 ⟨rfl, hd5, hc5, hsz5⟩
        have T5 : Hid (DskTo wr d fp1 n (doStp n s1 .sync).1 w5) := hid (sync_to hd5 hc5)
        clear hd5 hc5 hsz5
        by_cases h0 : (dSync s1).2 = 0
        · have H0 := hid h0
          rw [h0]
          clear h0
          obtain ⟨fp2, hn⟩ := HA.out.step HST.out H0.out T5.out
          have HN := hid hn
          clear hn
          go_wp2_with fail
          refine wp_goto ?_
          simp only [Exit.jump, true_and]
          exact HK.out (sts.length - (i + 1)) _ _ (by omega) ⟨i + 1, _, fp2, _, _, _, _, _, _, _, _, _, _, _, _, _, _, _, rfl, HN.out, by go_num⟩
        · have hz := HA.out.stop HST.out h0 T5.out
          have HZ := hid hz
          have h01 : ((dSync s1).2 == 0) = false := by simpa using h0
          clear hz h0
          go_wp2_with fail
          rw [Exit.jump_ret]
          go_ret
          rw [HZ.out.1]
          exact ⟨rfl, HZ.out.2⟩
      | write at_ l =>
        obtain ⟨g0, g1, g2, g3, hv⟩ : ∃ g0 g1 g2 g3, v = .func (.func 82) #[] #[.pointer (some ⟨g0, 0, none⟩), .pointer (some ⟨g1, 0, none⟩), .pointer (some ⟨g2, 0, none⟩), .pointer (some ⟨g3, 0, none⟩)] := by
          obtain ⟨g0, g1, g2, g3, _, _, _, _, h, _⟩ := HP.out
          exact ⟨g0, g1, g2, g3, h⟩
        subst hv
        go_wp2_with fail
        refine (stp_any wr d fp1 n s1 at_ l g0 g1 g2 g3 HD.out HP.out (by omega)).mono ?_; rintro e1 w5 ⟨rfl, hto⟩
        have T5 : Hid (DskTo wr d fp1 n (doStp n s1 (.write at_ l)).1 w5) := hid hto
        clear hto
        by_cases h0 : (dWrite n s1 at_ l).2 = 0
        · have H0 := hid h0
          rw [h0]
          clear h0
          obtain ⟨fp2, hn⟩ := HA.out.step HST.out H0.out T5.out
          have HN := hid hn
          clear hn
          go_wp2_with fail
          refine wp_goto ?_
          simp only [Exit.jump, true_and]
          exact HK.out (sts.length - (i + 1)) _ _ (by omega) ⟨i + 1, _, fp2, _, _, _, _, _, _, _, _, _, _, _, _, _, _, _, rfl, HN.out, by go_num⟩
        · have hz := HA.out.stop HST.out h0 T5.out
          have HZ := hid hz
          have h01 : ((dWrite n s1 at_ l).2 == 0) = false := by simpa using h0
          clear hz h0
          go_wp2_with fail
          rw [Exit.jump_ret]
          go_ret
          rw [HZ.out.1]
          exact ⟨rfl, HZ.out.2⟩
    · have him : i = sts.length := by omega
      have HE : Hid (runStps n s sts = (s1, 0)) := hid (by rw [HR.out, List.drop_of_length_le (by omega)]; rfl)
      go_wp2_with fail
      rw [Exit.jump_ret]
      go_ret
      rw [HE.out]
      exact ⟨rfl, fp1, HD.out, HC.out, HF.out⟩
end Go.Proofs.Ytdilkgcoecipjaa

namespace Go.Proofs.Ytdilkgcoecipjaa
open Go.RowKit
set_option linter.unusedVariables false

theorem four_boxes (w : World) (v0 v1 v2 v3 : Value) (t0 t1 t2 t3 : TypeId) :
    Below w.heap.size w ((((w.alloc (Obj.cells #[v0] t0)).alloc (Obj.cells #[v1] t1)).alloc (Obj.cells #[v2] t2)).alloc (Obj.cells #[v3] t3)) ∧
    ((((w.alloc (Obj.cells #[v0] t0)).alloc (Obj.cells #[v1] t1)).alloc (Obj.cells #[v2] t2)).alloc (Obj.cells #[v3] t3)).cell? ⟨w.heap.size, 0, none⟩ = some v0 ∧
    ((((w.alloc (Obj.cells #[v0] t0)).alloc (Obj.cells #[v1] t1)).alloc (Obj.cells #[v2] t2)).alloc (Obj.cells #[v3] t3)).cell? ⟨w.heap.size + 1, 0, none⟩ = some v1 ∧
    ((((w.alloc (Obj.cells #[v0] t0)).alloc (Obj.cells #[v1] t1)).alloc (Obj.cells #[v2] t2)).alloc (Obj.cells #[v3] t3)).cell? ⟨w.heap.size + 1 + 1, 0, none⟩ = some v2 ∧
    ((((w.alloc (Obj.cells #[v0] t0)).alloc (Obj.cells #[v1] t1)).alloc (Obj.cells #[v2] t2)).alloc (Obj.cells #[v3] t3)).cell? ⟨w.heap.size + 1 + 1 + 1, 0, none⟩ = some v3 := by
  have b0 : Blk (w.alloc (Obj.cells #[v0] t0)) w.heap.size [v0] t0 := heap_alloc_new w _
  have s0 : (w.alloc (Obj.cells #[v0] t0)).heap.size = w.heap.size + 1 := by simp
  have e0 : Below w.heap.size w (w.alloc (Obj.cells #[v0] t0)) := (Below.refl _ _).alloc (Nat.le_refl _) _
  generalize w.alloc (Obj.cells #[v0] t0) = wa at *
  have b1 : Blk (wa.alloc (Obj.cells #[v1] t1)) wa.heap.size [v1] t1 := heap_alloc_new wa _
  have s1 : (wa.alloc (Obj.cells #[v1] t1)).heap.size = wa.heap.size + 1 := by simp
  have e1 : Below w.heap.size w (wa.alloc (Obj.cells #[v1] t1)) := e0.alloc (by omega) _
  have b01 := b0.chg (Chg.alloc NoFp wa (Obj.cells #[v1] t1)) (fun h => h)
  generalize wa.alloc (Obj.cells #[v1] t1) = wb at *
  have b2 : Blk (wb.alloc (Obj.cells #[v2] t2)) wb.heap.size [v2] t2 := heap_alloc_new wb _
  have s2 : (wb.alloc (Obj.cells #[v2] t2)).heap.size = wb.heap.size + 1 := by simp
  have e2 : Below w.heap.size w (wb.alloc (Obj.cells #[v2] t2)) := e1.alloc (by omega) _
  have b02 := b01.chg (Chg.alloc NoFp wb (Obj.cells #[v2] t2)) (fun h => h)
  have b12 := b1.chg (Chg.alloc NoFp wb (Obj.cells #[v2] t2)) (fun h => h)
  generalize wb.alloc (Obj.cells #[v2] t2) = wc at *
  have b3 : Blk (wc.alloc (Obj.cells #[v3] t3)) wc.heap.size [v3] t3 := heap_alloc_new wc _
  have e3 : Below w.heap.size w (wc.alloc (Obj.cells #[v3] t3)) := e2.alloc (by omega) _
  have b03 := b02.chg (Chg.alloc NoFp wc (Obj.cells #[v3] t3)) (fun h => h)
  have b13 := b12.chg (Chg.alloc NoFp wc (Obj.cells #[v3] t3)) (fun h => h)
  have b23 := b2.chg (Chg.alloc NoFp wc (Obj.cells #[v3] t3)) (fun h => h)
  rw [s2, s1, s0] at b3
  rw [s1, s0] at b23
  rw [s0] at b13
  exact ⟨e3, Blk.cell b03 0, Blk.cell b13 0, Blk.cell b23 0, Blk.cell b3 0⟩

set_option maxRecDepth 100000 in
theorem mkwr_any (w : World) (d : Nat) (fp : Nat → Prop) (at_ : Int) (va vb : Value) (la lb : List UInt8) (h1 : Far w fp va la) (h2 : Far w fp vb lb) (hl : (la ++ lb).length ≤ 1000) (hfp : ∀ k, fp k → k < w.heap.size) :
    Calls Try.prog 70 #[.pointer (some ⟨d, 0, none⟩), .int .i64 at_, va, vb] w fun e w' => ∃ v, e = .returned v ∧ v.oneCell' = true ∧ IsStp w' d fp v (.write at_ (la ++ lb)) ∧ Below w.heap.size w w' := by
  have hmf : ∀ (fn : Fn) (first cap : Array Value) (w : World), (Instr.makeFunc fn first cap).run Try.prog w = .ok (.func fn first cap) w := fun fn first cap w => by simp [Instr.makeFunc]
  obtain ⟨hla, pa, ca, rfl, ha1, ha2, ha3, ha4⟩ := h1.1
  obtain ⟨hlb, pb, cb, rfl, hb1, hb2, hb3, hb4⟩ := h2.1
  have H1 := hid h1
  have H2 := hid h2
  clear h1 h2 hla hlb ha1 ha2 ha3 ha4 hb1 hb2 hb3 hb4
  have HF := hid hfp
  clear hfp
  go_enter Try.func70, Try.ntmps70
  go_wp2_with fail
  go_ret
  obtain ⟨hB, k0, k1, k2, k3⟩ := four_boxes w (.pointer (some ⟨d, 0, none⟩)) (.int .i64 at_) (.slice pa la.length ca) (.slice pb lb.length cb) 53 3 30 30
  have hn : ∀ j, ¬ fp (w.heap.size + j) := fun j hj => by have := HF.out _ hj; omega
  refine ⟨_, rfl, rfl, ⟨w.heap.size, w.heap.size + 1, w.heap.size + 1 + 1, w.heap.size + 1 + 1 + 1, _, _, la, lb, rfl, k0, k1, k2, k3, H1.out.chg (Chg.new hB fp) (fun k h => .inl h), H2.out.chg (Chg.new hB fp) (fun k h => .inl h), rfl, hl, hn 0, hn 1, hn 2, hn 3⟩, hB⟩
end Go.Proofs.Ytdilkgcoecipjaa

namespace Go.Proofs.Ytdilkgcoecipjaa
open Go.RowKit
set_option linter.unusedVariables false

/-- pages that came in: places and bytes, far from a disk's blocks -/
def IsPuts (w : World) (fp : Nat → Prop) (a : Option Addr) (ls : List (Int × List UInt8)) : Prop :=
  ∀ i, i < ls.length → ∃ ab ao q p c, a = some ⟨ab, ao, none⟩ ∧ ls[i]? = some q ∧ w.cell? ⟨ab, ao + i * 2, none⟩ = some (.int .i64 q.1) ∧ w.cell? ⟨ab, ao + i * 2 + 1, none⟩ = some (.slice p q.2.length c) ∧ Far w fp (.slice p q.2.length c) q.2

def homeSteps (ls : List (Int × List UInt8)) : List Stp := ls.map fun q => .write q.1 q.2
def finSteps (ls : List (Int × List UInt8)) : List Stp := homeSteps ls ++ [.sync, .write 0 [], .sync]

theorem infoFn : (Try.prog.info? 55).map (fun i => (i.zero, i.size, i.bytes)) = some (some .nilFunc, 1, 8) := by kernel_rfl

theorem wp_keep {p : Prop} (h : Hid p) : p := h.out

def Own (fp : Nat → Prop) (v : Value) : Nat → Prop := fun k => fp k ∨ v.ownBlock = some k

/-- the steps that were made so far -/
def FinAt (W : Nat) (d : Nat) (fp : Nat → Prop) (sts : List Stp) (w wr : World) (v : Value) : Prop :=
  ∃ xs : List Value, xs.length = sts.length ∧ wr.ownsRow W 55 1 v sts.length xs ∧ (∀ u ∈ xs, u.oneCell' = true) ∧ (∀ (i : Nat) (u : Value) (st : Stp), xs[i]? = some u → sts[i]? = some st → IsStp wr d (Own fp v) u st) ∧ Below W w wr ∧ W ≤ wr.heap.size

theorem IsStp.weak {w : World} {d : Nat} {fp fp' : Nat → Prop} {v : Value} {st : Stp} (h : IsStp w d fp' v st) (hf : ∀ k, fp k → fp' k) : IsStp w d fp v st := by
  cases st with
  | sync => exact h
  | write at_ l =>
    obtain ⟨g0, g1, g2, g3, va, vb, la, lb, h1, c0, c1, c2, c3, f1, f2, h2, h3, n0, n1, n2, n3⟩ := h
    exact ⟨g0, g1, g2, g3, va, vb, la, lb, h1, c0, c1, c2, c3, ⟨f1.1, fun hz g hg hh => f1.2 hz g hg (hf g hh)⟩, ⟨f2.1, fun hz g hg hh => f2.2 hz g hg (hf g hh)⟩, h2, h3, fun h => n0 (hf _ h), fun h => n1 (hf _ h), fun h => n2 (hf _ h), fun h => n3 (hf _ h)⟩

set_option maxRecDepth 100000 in
set_option maxHeartbeats 4000000 in
theorem finish_any (w : World) (d : Nat) (fp : Nat → Prop) (n : Nat) (s : DS) (a : Option Addr) (c : Nat) (ls : List (Int × List UInt8)) (h : Dsk w d fp n s) (hp : IsPuts w fp a ls) (hl : ls.length ≤ 400) (hb : ∀ q ∈ ls, q.2.length ≤ 600) (ho : s.ops + 1000 ≤ 1000000) :
    Calls Try.prog 56 #[.pointer (some ⟨d, 0, none⟩), .slice a ls.length c] w fun e w' => e = .returned (.int .i64 (runStps n s (finSteps ls)).2) ∧ DskTo w d fp n (runStps n s (finSteps ls)).1 w' := by
  have H := hid h
  have HP := hid hp
  have HB := hid hb
  have hmf : ∀ (fn : Fn) (first cap : Array Value) (w : World), (Instr.makeFunc fn first cap).run Try.prog w = .ok (.func fn first cap) w := fun fn first cap w => by simp [Instr.makeFunc]
  clear h hp hb
  go_enter Try.func56, Try.ntmps56
  go_wp2_with fail
  have F0 : Hid (FinAt w.heap.size d fp (homeSteps (ls.take 0)) w w (.slice none 0 0)) := hid ⟨[], rfl, World.ownsRow_nil _ _ _ _, by simp, by simp, Below.refl _ _, Nat.le_refl _⟩
  go_loopw [5, 10] (fun v i wr => ∃ j : Nat, j ≤ ls.length ∧ i = .int .i64 j ∧ FinAt w.heap.size d fp (homeSteps (ls.take j)) w wr v) (fun _ i _ => ls.length + 1 - (intOf i).toNat)
  case atStart => exact ⟨0, Nat.zero_le _, rfl, F0.out⟩
  case round =>
    obtain ⟨j, hj, rfl, hfin⟩ := hrel
    have F1 := hid hfin
    clear hfin F0
    by_cases hlt : j < ls.length
    · obtain ⟨ab, ao, q, p, pc, rfl, hq, k0, k1, hfar⟩ := HP.out j hlt
      obtain ⟨xs, hxl, hown, hone, hst, hbel, hsz⟩ := F1.out
      have hab : ab < w.heap.size := World.block_lt_of_cell? w ⟨ab, ao + j * 2, none⟩ k0
      have k0' : wr.cell? ⟨ab, ao + j * 2, none⟩ = some (.int .i64 q.1) := (hbel.cell (p := ⟨ab, ao + j * 2, none⟩) hab).trans k0
      have k1' : wr.cell? ⟨ab, ao + j * 2 + 1, none⟩ = some (.slice p q.2.length pc) := (hbel.cell (p := ⟨ab, ao + j * 2 + 1, none⟩) hab).trans k1
      have hlen : (homeSteps (ls.take j)).length = j := by simp [homeSteps]; omega
      rw [hlen] at hown hxl
      obtain ⟨sp, sc, rfl⟩ : ∃ p c, u5 = Value.slice p j c := by
        rcases hown.2 with ⟨h5, h6⟩ | ⟨g, cap, cur, h5, _⟩
        · exact ⟨none, 0, by rw [h5, h6]⟩
        · exact ⟨_, _, h5⟩
      have HLEN := hid hlen
      have HXL := hid hxl
      clear hlen hxl
      have HOWN := hid hown
      have HONE := hid hone
      have HST := hid hst
      have HBEL := hid hbel
      have hfar2 : Far wr (Own fp (.slice sp j sc)) (.slice p q.2.length pc) q.2 := ⟨(hfar.chg (Chg.new hbel fp) (fun k h => .inl h)).1, fun hz g hg ho => by
        have hgl := Rd.lt hfar.1 hz (by decide) g hg
        rcases ho with ho | ho
        · exact hfar.2 hz g hg ho
        · have := (hown.lt g ho).1; omega⟩
      have HFAR := hid hfar2
      have HOL := hid hown.lt
      have HQ := hid hq
      have hql : q.2.length ≤ 600 := HB.out q (List.mem_of_getElem? hq)
      have HFP := hid H.out.lt
      clear hown hone hst hbel hfar hq k0 k1 hab F1
      go_wp2_with fail
      have hba : Below wr.heap.size wr (wr.alloc (Obj.cells #[.int .i64 q.1, .slice p q.2.length pc] 108)) := (Below.refl _ _).alloc (Nat.le_refl _) _
      generalize wr.alloc (Obj.cells #[.int .i64 q.1, .slice p q.2.length pc] 108) = wa at hba ⊢
      have BA := hid hba
      clear hba
      have hfpa : ∀ k, Own fp (.slice sp j sc) k → k < wa.heap.size := fun k hk => by
        rcases hk with hk | hk
        · exact Nat.lt_of_lt_of_le (HFP.out k hk) (Nat.le_trans HBEL.out.size BA.out.size)
        · exact Nat.lt_of_lt_of_le (HOL.out k hk).2 BA.out.size
      refine (mkwr_any wa d (Own fp (.slice sp j sc)) q.1 (.slice none 0 0) (.slice p q.2.length pc) [] q.2 ⟨Rd.nil _ _, fun h => by simp at h⟩ (HFAR.out.chg (Chg.new BA.out _) (fun k h => .inl h)) (by simp; omega) hfpa).mono ?_
      rintro e1 w5 ⟨vf, rfl, hvf1, hvf, hb5⟩
      have B5 := hid (BA.out.trans (hb5.mono BA.out.size))
      obtain ⟨g0, g1, g2, g3, hvv⟩ : ∃ g0 g1 g2 g3, vf = .func (.func 82) #[] #[.pointer (some ⟨g0, 0, none⟩), .pointer (some ⟨g1, 0, none⟩), .pointer (some ⟨g2, 0, none⟩), .pointer (some ⟨g3, 0, none⟩)] := by
        obtain ⟨g0, g1, g2, g3, _, _, _, _, h, _⟩ := hvf
        exact ⟨g0, g1, g2, g3, h⟩
      have VF := hid hvf
      clear hvf hb5 hfpa
      subst hvv
      have O5 := hid (own_chg HOWN.out (Chg.new B5.out NoFp) (fun _ _ h => h))
      have BW5 := hid (HBEL.out.trans (B5.out.mono HBEL.out.size))
      have S5 : Hid (w.heap.size ≤ w5.heap.size) := hid BW5.out.size
      have HN : Hid (homeSteps (ls.take (j + 1)) = homeSteps (ls.take j) ++ [.write q.1 q.2]) := hid (by unfold homeSteps; rw [List.take_add_one, HQ.out]; simp)
      have hone1 : ∀ u ∈ [Value.func (.func 82) #[] #[.pointer (some ⟨g0, 0, none⟩), .pointer (some ⟨g1, 0, none⟩), .pointer (some ⟨g2, 0, none⟩), .pointer (some ⟨g3, 0, none⟩)]], u.oneCell' = true := fun u hu => by
        rw [List.mem_singleton] at hu
        rw [hu]; exact hvf1
      have HONE1 := hid hone1
      have hbase : w.heap.size ≤ (w5.alloc (Obj.cells #[.func (.func 82) #[] #[.pointer (some ⟨g0, 0, none⟩), .pointer (some ⟨g1, 0, none⟩), .pointer (some ⟨g2, 0, none⟩), .pointer (some ⟨g3, 0, none⟩)]] 55)).heap.size := by
        have := S5.out
        simp
        omega
      have HBASE := hid hbase
      clear hone1 hbase
      have hm1 : j + 1 ≤ maxLen := by simp only [maxLen]; omega
      have HM1 := hid hm1
      have hm8 : (j + 1) * 8 ≤ 140737488355328 := by omega
      have HM8 := hid hm8
      clear hm1 hm8
      have O6 := hid (O5.out.alloc (Obj.cells #[.func (.func 82) #[] #[.pointer (some ⟨g0, 0, none⟩), .pointer (some ⟨g1, 0, none⟩), .pointer (some ⟨g2, 0, none⟩), .pointer (some ⟨g3, 0, none⟩)]] 55))
      go_wp2_with (at_builtin; refine wp_keep ?_)
      refine hid ?_
      refine wpList_append_rd rfl _ _ 130 rfl w.heap.size 55 _ 1 8 Try.underlying130 infoFn rfl (by decide) (.slice sp j sc) j xs rfl O6.out (.slice (some ⟨w5.heap.size, 0, none⟩) 1 1) 1 [.func (.func 82) #[] #[.pointer (some ⟨g0, 0, none⟩), .pointer (some ⟨g1, 0, none⟩), .pointer (some ⟨g2, 0, none⟩), .pointer (some ⟨g3, 0, none⟩)]] rfl (Rd.fresh1 w5 (.func (.func 82) #[] #[.pointer (some ⟨g0, 0, none⟩), .pointer (some ⟨g1, 0, none⟩), .pointer (some ⟨g2, 0, none⟩), .pointer (some ⟨g3, 0, none⟩)]) 55) HONE1.out HM1.out HM8.out HBASE.out ?_
      intro pp cc w7 hown7 hg7 hb7
      have HO7 := hid hown7
      have HG7 := hid hg7
      have HB7 := hid hb7
      clear hown7 hg7 hb7
      go_wp2_with fail
      go_roundw
      case rel =>
        refine ⟨j + 1, by omega, by go_num, ?_⟩
        rw [HN.out]
        have hsub : ∀ k, Own fp (.slice pp (j + 1) cc) k → Own fp (.slice sp j sc) k ∨ (w5.alloc (Obj.cells #[.func (.func 82) #[] #[.pointer (some ⟨g0, 0, none⟩), .pointer (some ⟨g1, 0, none⟩), .pointer (some ⟨g2, 0, none⟩), .pointer (some ⟨g3, 0, none⟩)]] 55)).heap.size ≤ k := fun k hk => by
          rcases hk with hk | hk
          · exact .inl (.inl hk)
          · rcases HB7.out with h8 | h8
            · exact .inl (.inr (by rw [← h8]; exact hk))
            · rw [h8] at hk
              injection hk with hk
              exact .inr (by omega)
        have hchg : Chg (Own fp (.slice sp j sc)) (w5.alloc (Obj.cells #[.func (.func 82) #[] #[.pointer (some ⟨g0, 0, none⟩), .pointer (some ⟨g1, 0, none⟩), .pointer (some ⟨g2, 0, none⟩), .pointer (some ⟨g3, 0, none⟩)]] 55)) w7 := (Chg.grown HG7.out).mono (fun k _ h => .inr h)
        have mv : ∀ {u : Value} {st : Stp}, IsStp w5 d (Own fp (.slice sp j sc)) u st → IsStp w7 d (Own fp (.slice pp (j + 1) cc)) u st := fun {u st} h =>
          (h.chg (Chg.alloc _ _ _) (fun k h => .inl h)).chg hchg hsub
        refine ⟨xs ++ [.func (.func 82) #[] #[.pointer (some ⟨g0, 0, none⟩), .pointer (some ⟨g1, 0, none⟩), .pointer (some ⟨g2, 0, none⟩), .pointer (some ⟨g3, 0, none⟩)]], ?_, ?_, ?_, ?_, ?_, ?_⟩
        · rw [List.length_append, List.length_append, HXL.out, HLEN.out]; rfl
        · rw [List.length_append, HLEN.out]; exact HO7.out
        · intro u hu
          rcases List.mem_append.1 hu with h8 | h8
          · exact HONE.out u h8
          · exact HONE1.out u h8
        · intro i u st h8 h9
          rcases Nat.lt_or_ge i j with hij | hij
          · rw [List.getElem?_append_left (by rw [HXL.out]; exact hij)] at h8
            rw [List.getElem?_append_left (by rw [HLEN.out]; exact hij)] at h9
            exact mv ((HST.out i u st h8 h9).chg (Chg.new B5.out _) (fun k h => .inl h))
          · rw [List.getElem?_append_right (by rw [HXL.out]; exact hij), HXL.out] at h8
            rw [List.getElem?_append_right (by rw [HLEN.out]; exact hij), HLEN.out] at h9
            have hi0 : i - j = 0 := by
              rcases Nat.eq_zero_or_pos (i - j) with h | h
              · exact h
              · rw [List.getElem?_eq_none (by simp; omega)] at h8; cases h8
            rw [hi0] at h8 h9
            simp at h8 h9
            subst h8 h9
            exact mv VF.out
        · exact (BW5.out.alloc S5.out _).grown HG7.out HBASE.out (fun k hk => (HOL.out k hk).1)
        · exact Nat.le_trans HBASE.out HG7.out.size
      case measure => simp [intOf]; omega
    · obtain rfl : j = ls.length := by omega
      rw [List.take_length] at F1
      obtain ⟨xs, hxl, hown, hone, hst, hbel, hsz⟩ := F1.out
      have hlen : (homeSteps ls).length = ls.length := by simp [homeSteps]
      rw [hlen] at hown hxl
      obtain ⟨sp, sc, rfl⟩ : ∃ p c, u5 = Value.slice p ls.length c := by
        rcases hown.2 with ⟨h5, h6⟩ | ⟨g, cap, cur, h5, _⟩
        · exact ⟨none, 0, by rw [h5, h6]⟩
        · exact ⟨_, _, h5⟩
      have HLEN := hid hlen
      have HXL := hid hxl
      have HOWN := hid hown
      have HONE := hid hone
      have HST := hid hst
      have HBEL := hid hbel
      have HFP := hid H.out.lt
      clear hown hone hst hbel hlen hxl F1
      have hfpa : ∀ k, Own fp (.slice sp ls.length sc) k → k < wr.heap.size := fun k hk => by
        rcases hk with hk | hk
        · exact Nat.lt_of_lt_of_le (HFP.out k hk) HBEL.out.size
        · exact (HOWN.out.lt k hk).2
      have HFA := hid hfpa
      clear hfpa
      go_wp2_with fail
      refine (mkwr_any wr d (Own fp (.slice sp ls.length sc)) 0 (.slice none 0 0) (.slice none 0 0) [] [] ⟨Rd.nil _ _, fun h => by simp at h⟩ ⟨Rd.nil _ _, fun h => by simp at h⟩ (by simp) HFA.out).mono ?_
      rintro e1 w5 ⟨vf, rfl, hvf1, hvf, hb5⟩
      obtain ⟨g0, g1, g2, g3, hvv⟩ : ∃ g0 g1 g2 g3, vf = .func (.func 82) #[] #[.pointer (some ⟨g0, 0, none⟩), .pointer (some ⟨g1, 0, none⟩), .pointer (some ⟨g2, 0, none⟩), .pointer (some ⟨g3, 0, none⟩)] := by
        obtain ⟨g0, g1, g2, g3, _, _, _, _, h, _⟩ := hvf
        exact ⟨g0, g1, g2, g3, h⟩
      have VF := hid hvf
      have B5 := hid hb5
      clear hvf hb5
      subst hvv
      have O5 := hid (own_chg HOWN.out (Chg.new B5.out NoFp) (fun _ _ h => h))
      have BW5 := hid (HBEL.out.trans (B5.out.mono HBEL.out.size))
      have S5 : Hid (w.heap.size ≤ w5.heap.size) := hid BW5.out.size
      have HONE1 : Hid (∀ u ∈ [Value.func (.func 72) #[.pointer (some ⟨d, 0, none⟩)] #[], .func (.func 82) #[] #[.pointer (some ⟨g0, 0, none⟩), .pointer (some ⟨g1, 0, none⟩), .pointer (some ⟨g2, 0, none⟩), .pointer (some ⟨g3, 0, none⟩)], .func (.func 72) #[.pointer (some ⟨d, 0, none⟩)] #[]], u.oneCell' = true) := hid (fun u hu => by
        simp only [List.mem_cons, List.not_mem_nil, or_false] at hu
        rcases hu with h | h | h <;> subst h <;> rfl)
      have HBASE : Hid (w.heap.size ≤ (w5.alloc (Obj.cells #[.func (.func 72) #[.pointer (some ⟨d, 0, none⟩)] #[], .func (.func 82) #[] #[.pointer (some ⟨g0, 0, none⟩), .pointer (some ⟨g1, 0, none⟩), .pointer (some ⟨g2, 0, none⟩), .pointer (some ⟨g3, 0, none⟩)], .func (.func 72) #[.pointer (some ⟨d, 0, none⟩)] #[]] 55)).heap.size) := hid (by have := S5.out; simp; omega)
      have HM1 : Hid (ls.length + 3 ≤ maxLen) := hid (by simp only [maxLen]; omega)
      have HM8 : Hid ((ls.length + 3) * 8 ≤ 140737488355328) := hid (by omega)
      have O6 := hid (O5.out.alloc (Obj.cells #[.func (.func 72) #[.pointer (some ⟨d, 0, none⟩)] #[], .func (.func 82) #[] #[.pointer (some ⟨g0, 0, none⟩), .pointer (some ⟨g1, 0, none⟩), .pointer (some ⟨g2, 0, none⟩), .pointer (some ⟨g3, 0, none⟩)], .func (.func 72) #[.pointer (some ⟨d, 0, none⟩)] #[]] 55))
      go_wp2_with (at_builtin; refine wp_keep ?_)
      refine hid ?_
      refine wpList_append_rd rfl _ _ 130 rfl w.heap.size 55 _ 1 8 Try.underlying130 infoFn rfl (by decide) (.slice sp ls.length sc) ls.length xs rfl O6.out (.slice (some ⟨w5.heap.size, 0, none⟩) 3 3) 3 [Value.func (.func 72) #[.pointer (some ⟨d, 0, none⟩)] #[], .func (.func 82) #[] #[.pointer (some ⟨g0, 0, none⟩), .pointer (some ⟨g1, 0, none⟩), .pointer (some ⟨g2, 0, none⟩), .pointer (some ⟨g3, 0, none⟩)], .func (.func 72) #[.pointer (some ⟨d, 0, none⟩)] #[]] rfl (Rd.fresh w5 [Value.func (.func 72) #[.pointer (some ⟨d, 0, none⟩)] #[], .func (.func 82) #[] #[.pointer (some ⟨g0, 0, none⟩), .pointer (some ⟨g1, 0, none⟩), .pointer (some ⟨g2, 0, none⟩), .pointer (some ⟨g3, 0, none⟩)], .func (.func 72) #[.pointer (some ⟨d, 0, none⟩)] #[]] 55 (by simp [maxLen])) HONE1.out HM1.out HM8.out HBASE.out ?_
      intro pp cc w7 hown7 hg7 hb7
      have HO7 := hid hown7
      have HG7 := hid hg7
      have HB7 := hid hb7
      clear hown7 hg7 hb7
      have hsub : ∀ k, Own fp (.slice pp (ls.length + 3) cc) k → Own fp (.slice sp ls.length sc) k ∨ (w5.alloc (Obj.cells #[.func (.func 72) #[.pointer (some ⟨d, 0, none⟩)] #[], .func (.func 82) #[] #[.pointer (some ⟨g0, 0, none⟩), .pointer (some ⟨g1, 0, none⟩), .pointer (some ⟨g2, 0, none⟩), .pointer (some ⟨g3, 0, none⟩)], .func (.func 72) #[.pointer (some ⟨d, 0, none⟩)] #[]] 55)).heap.size ≤ k := fun k hk => by
        rcases hk with hk | hk
        · exact .inl (.inl hk)
        · rcases HB7.out with h8 | h8
          · exact .inl (.inr (by rw [← h8]; exact hk))
          · rw [h8] at hk
            injection hk with hk
            exact .inr (by omega)
      have hchg : Chg (Own fp (.slice sp ls.length sc)) (w5.alloc (Obj.cells #[.func (.func 72) #[.pointer (some ⟨d, 0, none⟩)] #[], .func (.func 82) #[] #[.pointer (some ⟨g0, 0, none⟩), .pointer (some ⟨g1, 0, none⟩), .pointer (some ⟨g2, 0, none⟩), .pointer (some ⟨g3, 0, none⟩)], .func (.func 72) #[.pointer (some ⟨d, 0, none⟩)] #[]] 55)) w7 := (Chg.grown HG7.out).mono (fun k _ h => .inr h)
      have mv : ∀ {u : Value} {st : Stp}, IsStp w5 d (Own fp (.slice sp ls.length sc)) u st → IsStp w7 d fp u st := fun {u st} h =>
        ((h.chg (Chg.alloc _ _ _) (fun k h => .inl h)).chg hchg hsub).weak (fun k h => .inl h)
      have hfl : (finSteps ls).length = ls.length + 3 := by unfold finSteps; rw [List.length_append, HLEN.out]; rfl
      have hall : IsAll w7 d fp pp (finSteps ls) := fun i hi => by
        rw [hfl] at hi
        obtain ⟨g, rfl⟩ : ∃ g, pp = some ⟨g, 0, none⟩ := by
          rcases HO7.out.2 with ⟨_, h6⟩ | ⟨g, cap, cur, h5, _⟩
          · omega
          · injection h5 with h5 _ _
            exact ⟨g, h5⟩
        have hcells := HO7.out.cells (g := g) rfl
        have hgb := HO7.out.lt g rfl
        have hng : ¬ fp g := fun hh => by have := HFP.out g hh; omega
        have hat : ∀ u, (xs ++ [Value.func (.func 72) #[.pointer (some ⟨d, 0, none⟩)] #[], .func (.func 82) #[] #[.pointer (some ⟨g0, 0, none⟩), .pointer (some ⟨g1, 0, none⟩), .pointer (some ⟨g2, 0, none⟩), .pointer (some ⟨g3, 0, none⟩)], .func (.func 72) #[.pointer (some ⟨d, 0, none⟩)] #[]])[i]? = some u → w7.cell? ⟨g, 0 + i, none⟩ = some u := fun u hu => by
          have h9 := hcells i u hu
          rw [Addr.add_off _ rfl] at h9
          exact h9
        rcases Nat.lt_or_ge i ls.length with hij | hij
        · have hx : xs[i]? = some (xs[i]'(by rw [HXL.out]; exact hij)) := List.getElem?_eq_getElem _
          have hs : (homeSteps ls)[i]? = some ((homeSteps ls)[i]'(by rw [HLEN.out]; exact hij)) := List.getElem?_eq_getElem _
          refine ⟨g, 0, _, _, rfl, ?_, hat _ (by rw [List.getElem?_append_left (by rw [HXL.out]; exact hij)]; exact hx), hng, mv ((HST.out i _ _ hx hs).chg (Chg.new B5.out _) (fun k h => .inl h))⟩
          unfold finSteps
          rw [List.getElem?_append_left (by rw [HLEN.out]; exact hij)]
          exact hs
        · have hx : ∀ u, [Value.func (.func 72) #[.pointer (some ⟨d, 0, none⟩)] #[], .func (.func 82) #[] #[.pointer (some ⟨g0, 0, none⟩), .pointer (some ⟨g1, 0, none⟩), .pointer (some ⟨g2, 0, none⟩), .pointer (some ⟨g3, 0, none⟩)], .func (.func 72) #[.pointer (some ⟨d, 0, none⟩)] #[]][i - ls.length]? = some u → (xs ++ [Value.func (.func 72) #[.pointer (some ⟨d, 0, none⟩)] #[], .func (.func 82) #[] #[.pointer (some ⟨g0, 0, none⟩), .pointer (some ⟨g1, 0, none⟩), .pointer (some ⟨g2, 0, none⟩), .pointer (some ⟨g3, 0, none⟩)], .func (.func 72) #[.pointer (some ⟨d, 0, none⟩)] #[]])[i]? = some u := fun u hu => by
            rw [List.getElem?_append_right (by rw [HXL.out]; exact hij), HXL.out]; exact hu
          have hs : ∀ st, [Stp.sync, .write 0 [], .sync][i - ls.length]? = some st → (finSteps ls)[i]? = some st := fun st hu => by
            unfold finSteps
            rw [List.getElem?_append_right (by rw [HLEN.out]; exact hij), HLEN.out]; exact hu
          rcases (show i - ls.length = 0 ∨ i - ls.length = 1 ∨ i - ls.length = 2 by omega) with h | h | h
          · exact ⟨g, 0, _, .sync, rfl, hs _ (by rw [h]; rfl), hat _ (hx _ (by rw [h]; rfl)), hng, rfl⟩
          · exact ⟨g, 0, _, .write 0 [], rfl, hs _ (by rw [h]; rfl), hat _ (hx _ (by rw [h]; rfl)), hng, mv VF.out⟩
          · exact ⟨g, 0, _, .sync, rfl, hs _ (by rw [h]; rfl), hat _ (hx _ (by rw [h]; rfl)), hng, rfl⟩
      have hb7 : Below w.heap.size w w7 := (BW5.out.alloc S5.out _).grown HG7.out HBASE.out (fun k hk => (HOWN.out.lt k hk).1)
      have HALL := hid hall
      have BB7 := hid hb7
      have HFL := hid hfl
      clear hsub hchg mv hall hb7 hfl
      go_wp2_with fail
      refine (all_any w7 d fp n s pp (ls.length + 3) cc (finSteps ls) (H.out.chg (Chg.new BB7.out NoFp) (fun _ _ h => h)) HFL.out.symm (by omega) HALL.out ho).mono ?_
      rintro e1 w8 ⟨rfl, hto⟩
      have T8 := hid (DskTo.trans (Chg.new BB7.out fp) (fun k h => .inl h) hto)
      clear hto
      go_wp2_with fail
      go_ret
      exact ⟨rfl, T8.out⟩
end Go.Proofs.Ytdilkgcoecipjaa

namespace Go.Proofs.Ytdilkgcoecipjaa
open Go.RowKit
set_option linter.unusedVariables false

theorem home_any (w : World) (d : Nat) (fp : Nat → Prop) (n : Nat) (s : DS) (at_ : Int) (h : Dsk w d fp n s) :
    Calls Try.prog 55 #[.pointer (some ⟨d, 0, none⟩), .int .i64 at_] w fun e w' => e = .returned (.bool (decide (401 ≤ at_ ∧ at_ < n))) ∧ w = w' := by
  have H := hid h
  clear h
  by_cases h1 : 401 ≤ at_
  · by_cases h2 : at_ < (n : Int)
    · have hd : decide (401 ≤ at_ ∧ at_ < (n : Int)) = true := by simp; omega
      have HD := hid hd
      clear hd
      go_enter Try.func55, Try.ntmps55
      go_wp2_with fail
      refine (dSize_any w d fp n s H.out).mono ?_; rintro e1 wx ⟨rfl, hw⟩
      subst hw
      go_wp2_with fail
      go_ret
      refine ⟨?_, rfl⟩
      have hd := HD.out
      simp at hd ⊢
      first | done | omega
    · have hd : decide (401 ≤ at_ ∧ at_ < (n : Int)) = false := by simp; omega
      have HD := hid hd
      clear hd
      go_enter Try.func55, Try.ntmps55
      go_wp2_with fail
      refine (dSize_any w d fp n s H.out).mono ?_; rintro e1 wx ⟨rfl, hw⟩
      subst hw
      go_wp2_with fail
      go_ret
      refine ⟨?_, rfl⟩
      have hd := HD.out
      simp at hd ⊢
      first | done | omega
  · have hd : decide (401 ≤ at_ ∧ at_ < (n : Int)) = false := by simp; omega
    have HD := hid hd
    clear hd
    go_enter Try.func55, Try.ntmps55
    go_wp2_with fail
    go_ret
    refine ⟨?_, rfl⟩
    have hd := HD.out
    simp at hd ⊢
    first | done | omega

def pad504 (l : List UInt8) : List UInt8 := l ++ List.replicate (504 - l.length) 0
end Go.Proofs.Ytdilkgcoecipjaa

namespace Go.Proofs.Ytdilkgcoecipjaa
open Go.RowKit Go.Maps
set_option linter.unusedVariables false

/-- may this page be written, behind those? -/
def okAt (n : Nat) (before : List (Int × List UInt8)) (q : Int × List UInt8) : Bool :=
  decide (401 ≤ q.1 ∧ q.1 < (n : Int)) && !(before.any fun p => p.1 == q.1) && decide (q.2.length ≤ 504)
def scanPuts (n : Nat) : List (Int × List UInt8) → List (Int × List UInt8) → Int
  | _, [] => 0
  | before, q :: r => if okAt n before q then scanPuts n (before ++ [q]) r else 1
def chk (n : Nat) (ls : List (Int × List UInt8)) : Int :=
  if ls.length = 0 then 1 else if 400 < ls.length then 4 else scanPuts n [] ls

theorem scanPuts_step {n j : Nat} {ls : List (Int × List UInt8)} {q : Int × List UInt8} (hq : ls[j]? = some q) :
    scanPuts n (ls.take j) (ls.drop j) = if okAt n (ls.take j) q then scanPuts n (ls.take (j + 1)) (ls.drop (j + 1)) else 1 := by
  obtain ⟨hlt, he⟩ := List.getElem?_eq_some_iff.1 hq
  rw [List.drop_eq_getElem_cons hlt, he, scanPuts, List.take_add_one, hq]
  rfl

/-- a map that counts the places of pages, each there once -/
def Seen (D : DataW Unit) (before : List (Int × List UInt8)) : Prop :=
  ∀ a : Int, (Lit.int .i64 a).wf = true → D.atKey (.int .i64 a) (.lit (.int .i64 0)) = .lit (.int .i64 (if before.any (fun p => p.1 == a) then 1 else 0))

theorem mapKeyed : Keyed Try.prog 3 := int_keyed Try.underlying3
theorem mapZero (w : World) : (zeroValue 3).run Try.prog w = .ok (.int .i64 0) w := by kernel_rfl

theorem Seen.nil : Seen (.map []) [] := fun a _ => rfl
theorem Seen.count {D : DataW Unit} {before : List (Int × List UInt8)} (h : Seen D before) {a c : Int} (hw : (Lit.int .i64 a).wf = true) (hat : D.atKey (.int .i64 a) (.lit (.int .i64 0)) = .lit (.int .i64 c)) :
    c = if before.any (fun p => p.1 == a) then 1 else 0 := by
  have h1 := h a hw
  rw [hat] at h1
  injection h1 with h1
  injection h1
theorem put_count {D : DataW Unit} (hD : IsMap D) {a c m : Int} (hat : (D.put (.int .i64 a) (.lit (.int .i64 m))).atKey (.int .i64 a) (.lit (.int .i64 0)) = .lit (.int .i64 c)) : c = m := by
  rw [atKey_put_same hD (by simp [WideAt.IsKeyLit])] at hat
  injection hat with h1
  injection h1 with _ h2
  exact h2.symm
theorem Seen.put {D : DataW Unit} {before : List (Int × List UInt8)} (h : Seen D before) (hD : IsMap D) {q : Int × List UInt8} (hq : before.any (fun p => p.1 == q.1) = false) : Seen (D.put (.int .i64 q.1) (.lit (.int .i64 1))) (before ++ [q]) := fun a ha => by
  by_cases hc : a = q.1
  · subst hc
    rw [atKey_put_same hD (by simp [WideAt.IsKeyLit])]
    simp
  · rw [atKey_put_other (by intro h2; injection h2 with _ h3; exact hc h3), h a ha, List.any_append]
    have h2 : ([q].any fun p => p.1 == a) = false := by simp; exact fun h2 => hc h2.symm
    rw [h2, Bool.or_false]

end Go.Proofs.Ytdilkgcoecipjaa

namespace Go.Proofs.Ytdilkgcoecipjaa
open Go.RowKit
set_option linter.unusedVariables false

/-- the steps that were made so far, and the values that are them -/
def FinXs (W : Nat) (d : Nat) (fp : Nat → Prop) (sts : List Stp) (xs : List Value) (w wr : World) (v : Value) : Prop :=
  xs.length = sts.length ∧ wr.ownsRow W 55 1 v sts.length xs ∧ (∀ u ∈ xs, u.oneCell' = true) ∧ (∀ (i : Nat) (u : Value) (st : Stp), xs[i]? = some u → sts[i]? = some st → IsStp wr d (Own fp v) u st) ∧ Below W w wr ∧ W ≤ wr.heap.size

theorem FinXs.start {W d : Nat} {fp : Nat → Prop} {w : World} (h : W = w.heap.size) : FinXs W d fp [] [] w w (.slice none 0 0) :=
  ⟨rfl, World.ownsRow_nil _ _ _ _, by simp, by simp, Below.refl _ _, by rw [h]; exact Nat.le_refl _⟩

theorem FinXs.shape {W d : Nat} {fp : Nat → Prop} {sts : List Stp} {xs : List Value} {w wr : World} {v : Value} (h : FinXs W d fp sts xs w wr v) : ∃ p c, v = .slice p sts.length c := by
  rcases h.2.1.2 with ⟨h5, h6⟩ | ⟨g, cap, cur, h5, _⟩
  · exact ⟨none, 0, by rw [h5, h6]⟩
  · exact ⟨_, _, h5⟩

theorem FinXs.app {W d : Nat} {fp : Nat → Prop} {sts sts' : List Stp} {xs vs : List Value} {w wr w5 w7 : World} {v v' : Value} {T : TypeId} (h : FinXs W d fp sts xs w wr v) (hb : Below wr.heap.size wr w5)
    (hl : vs.length = sts'.length) (h1 : ∀ u ∈ vs, u.oneCell' = true) (hv : ∀ (i : Nat) (u : Value) (st : Stp), vs[i]? = some u → sts'[i]? = some st → IsStp w5 d (Own fp v) u st)
    (ho : w7.ownsRow W 55 1 v' (sts.length + sts'.length) (xs ++ vs)) (hg : (w5.alloc (Obj.cells vs.toArray T)).grownBy w7 v.ownBlock)
    (hw : v'.ownBlock = v.ownBlock ∨ v'.ownBlock = some (w5.alloc (Obj.cells vs.toArray T)).heap.size) : FinXs W d fp (sts ++ sts') (xs ++ vs) w w7 v' := by
  obtain ⟨hxl, hown, hone, hst, hbel, hsz⟩ := h
  have hbase : W ≤ w5.heap.size := Nat.le_trans hsz hb.size
  have hbw5 : Below W w w5 := hbel.trans (hb.mono hsz)
  have hba : W ≤ (w5.alloc (Obj.cells vs.toArray T)).heap.size := Nat.le_trans hbase (by simp)
  have hsub : ∀ k, Own fp v' k → Own fp v k ∨ (w5.alloc (Obj.cells vs.toArray T)).heap.size ≤ k := fun k hk => by
    rcases hk with hk | hk
    · exact .inl (.inl hk)
    · rcases hw with h8 | h8
      · exact .inl (.inr (by rw [← h8]; exact hk))
      · rw [h8] at hk
        injection hk with hk
        exact .inr (by omega)
  have hchg : Chg (Own fp v) (w5.alloc (Obj.cells vs.toArray T)) w7 := (Chg.grown hg).mono (fun k _ h => .inr h)
  have mv : ∀ {u : Value} {st : Stp}, IsStp w5 d (Own fp v) u st → IsStp w7 d (Own fp v') u st := fun {u st} h =>
    (h.chg (Chg.alloc _ _ _) (fun k h => .inl h)).chg hchg hsub
  refine ⟨by simp [hxl, hl], by rw [List.length_append]; exact ho, ?_, ?_, (hbw5.alloc hbase _).grown hg hba (fun k hk => (hown.lt k hk).1), Nat.le_trans hba hg.size⟩
  · intro u hu
    rcases List.mem_append.1 hu with h8 | h8
    · exact hone u h8
    · exact h1 u h8
  · intro i u st h8 h9
    rcases Nat.lt_or_ge i sts.length with hij | hij
    · rw [List.getElem?_append_left (by rw [hxl]; exact hij)] at h8
      rw [List.getElem?_append_left hij] at h9
      exact mv ((hst i u st h8 h9).chg (Chg.new hb _) (fun k h => .inl h))
    · rw [List.getElem?_append_right (by rw [hxl]; exact hij), hxl] at h8
      rw [List.getElem?_append_right hij] at h9
      exact mv (hv _ u st h8 h9)

theorem FinXs.all {W d : Nat} {fp : Nat → Prop} {sts : List Stp} {xs : List Value} {w wr : World} {p : Option Addr} {m c : Nat} (h : FinXs W d fp sts xs w wr (.slice p m c)) (hfp : ∀ k, fp k → k < W) : IsAll wr d fp p sts := fun i hi => by
  obtain ⟨hxl, hown, hone, hst, hbel, hsz⟩ := h
  obtain ⟨g, rfl⟩ : ∃ g, p = some ⟨g, 0, none⟩ := by
    rcases hown.2 with ⟨_, h6⟩ | ⟨g, cap, cur, h5, _⟩
    · omega
    · injection h5 with h5 _ _
      exact ⟨g, h5⟩
  have hcells := hown.cells (g := g) rfl
  have hgb := hown.lt g rfl
  have hng : ¬ fp g := fun hh => by have := hfp g hh; omega
  have hx : xs[i]? = some (xs[i]'(by rw [hxl]; exact hi)) := List.getElem?_eq_getElem _
  have h9 := hcells i _ hx
  rw [Addr.add_off _ rfl] at h9
  exact ⟨g, 0, _, _, rfl, List.getElem?_eq_getElem hi, h9, hng, (hst i _ _ hx (List.getElem?_eq_getElem hi)).weak (fun k h => .inl h)⟩

def markB : List UInt8 := [84, 82, 73, 65, 68, 76, 79, 71]
def le8 (u : Int) : List UInt8 := le (IntKind.u64.wrap u) 8
theorem le8_length (u : Int) : (le8 u).length = 8 := le_length _ _
def logSteps (ls : List (Int × List UInt8)) : List Stp := ls.mapIdx fun i q => .write (1 + (i : Int)) (le8 q.1 ++ q.2)
def comSteps (ls : List (Int × List UInt8)) : List Stp := logSteps ls ++ [.sync, .write 0 (markB ++ le8 ls.length), .sync]
theorem logSteps_length (ls : List (Int × List UInt8)) : (logSteps ls).length = ls.length := by simp [logSteps]
theorem comSteps_length (ls : List (Int × List UInt8)) : (comSteps ls).length = ls.length + 3 := by simp [comSteps, logSteps]
theorem logSteps_snoc (ls : List (Int × List UInt8)) (q : Int × List UInt8) : logSteps (ls ++ [q]) = logSteps ls ++ [.write (1 + (ls.length : Int)) (le8 q.1 ++ q.2)] := by
  simp [logSteps, List.mapIdx_append]

def cmt (n : Nat) (s : DS) (ls : List (Int × List UInt8)) : DS × Int :=
  if chk n ls = 0 then
    if (runStps n s (comSteps ls)).2 = 0 then runStps n (runStps n s (comSteps ls)).1 (finSteps ls) else runStps n s (comSteps ls)
  else (s, chk n ls)

theorem runStps_ops (n : Nat) (sts : List Stp) : ∀ s : DS, (runStps n s sts).1.ops ≤ s.ops + sts.length := by
  induction sts with
  | nil => intro s; simp [runStps]
  | cons st r ih =>
    intro s
    have h1 := doStp_ops n s st
    rw [runStps]
    split
    · have h2 := ih (doStp n s st).1
      rw [List.length_cons]; push_cast; omega
    · rw [List.length_cons]; push_cast; omega

theorem IsWr.shape {w : World} {d : Nat} {fp : Nat → Prop} {v : Value} {at_ : Int} {l : List UInt8} (h : IsStp w d fp v (.write at_ l)) :
    ∃ g0 g1 g2 g3, v = .func (.func 82) #[] #[.pointer (some ⟨g0, 0, none⟩), .pointer (some ⟨g1, 0, none⟩), .pointer (some ⟨g2, 0, none⟩), .pointer (some ⟨g3, 0, none⟩)] := by
  obtain ⟨g0, g1, g2, g3, _, _, _, _, h, _⟩ := h
  exact ⟨g0, g1, g2, g3, h⟩

theorem Far.bytes {w' : World} {fp : Nat → Prop} {B : Nat} {p : Option Addr} {n c : Nat} {l : List UInt8} (ho : w'.ownsRow B 5 1 (.slice p n c) n (bv l)) (hn : n = l.length) (hfp : ∀ k, fp k → k < B) : Far w' fp (.slice p n c) l :=
  ⟨by unfold Bs; rw [← hn]; exact Rd.of_own ho, fun _ g hg hh => by have := hfp g hh; have := (ho.lt g hg).1; omega⟩

theorem mark_lit (w : World) : (convert 30 30 (.slice (some ⟨w.heap.size, 0, none⟩) 8 8)).run Try.prog (w.alloc (.cells #[Value.int .u8 84, .int .u8 82, .int .u8 73, .int .u8 65, .int .u8 68, .int .u8 76, .int .u8 79, .int .u8 71] 5)) =
    .ok (.slice (some ⟨w.heap.size, 0, none⟩) 8 8) (w.alloc (.cells (bv markB).toArray 5 (8, 9))) :=
  Go.Lib.run_convert_bytes_const (P := Try.prog) w 30 5 #[Value.int .u8 84, .int .u8 82, .int .u8 73, .int .u8 65, .int .u8 68, .int .u8 76, .int .u8 79, .int .u8 71] 8 8 Try.underlying30 Try.underlying5
theorem mark_read (w : World) : Bs (w.alloc (.cells (bv markB).toArray 5 (8, 9))) (.slice (some ⟨w.heap.size, 0, none⟩) 8 8) markB := by
  refine ⟨rfl, _, _, rfl, Nat.le_refl _, by simp [maxLen], (fun h => by cases h), fun a ha j u hu => ?_⟩
  cases ha
  refine ⟨rfl, ?_⟩
  have h : (w.alloc (.cells (bv markB).toArray 5 (8, 9))).heap[w.heap.size]? = some (.cells (bv markB).toArray 5 (8, 9)) := heap_alloc_new w _
  simp only [World.cell?, h]
  simpa using hu
def PutsOut (fp : Nat → Prop) (a : Option Addr) : Prop := ∀ ad, a = some ad → ¬ fp ad.block
theorem IsPuts.chg {w w' : World} {fp fp' : Nat → Prop} {a : Option Addr} {ls : List (Int × List UInt8)} (h : IsPuts w fp a ls) (ha : PutsOut fp a) (hc : Chg fp w w') (hf : ∀ k, fp' k → fp k ∨ w.heap.size ≤ k) : IsPuts w' fp' a ls := fun i hi => by
  obtain ⟨ab, ao, q, p, c, rfl, hq, k0, k1, hfar⟩ := h i hi
  have hn : ¬ fp ab := ha _ rfl
  exact ⟨ab, ao, q, p, c, rfl, hq, (CellTo hc hn (World.block_lt_of_cell? w ⟨ab, ao + i * 2, none⟩ k0)).trans k0, (CellTo hc hn (World.block_lt_of_cell? w ⟨ab, ao + i * 2 + 1, none⟩ k1)).trans k1, hfar.chg hc hf⟩

theorem scanPuts_zero {n : Nat} : ∀ (ls before : List (Int × List UInt8)), scanPuts n before ls = 0 → ∀ q ∈ ls, 401 ≤ q.1 ∧ q.1 < (n : Int) ∧ q.2.length ≤ 504
  | [], _, _, q, hq => by cases hq
  | p :: r, before, h, q, hq => by
    rw [scanPuts] at h
    split at h
    · rename_i hok
      rcases List.mem_cons.1 hq with rfl | hq
      · simp [okAt] at hok; omega
      · exact scanPuts_zero r _ h q hq
    · omega
theorem chk_zero {n : Nat} {ls : List (Int × List UInt8)} (h : chk n ls = 0) : ls.length ≤ 400 ∧ ¬ ls.length = 0 ∧ ∀ q ∈ ls, 401 ≤ q.1 ∧ q.1 < (n : Int) ∧ q.2.length ≤ 504 := by
  unfold chk at h
  split at h
  · omega
  · split at h
    · omega
    · exact ⟨by omega, by assumption, scanPuts_zero ls [] h⟩

end Go.Proofs.Ytdilkgcoecipjaa

namespace Go.Proofs.Ytdilkgcoecipjaa
open Go.RowKit
set_option linter.unusedVariables false

theorem eq_any (w : World) (v v' : Value) (l l' : List UInt8) (h : Bs w v l) (h' : Bs w v' l') :
    Calls Try.prog 80 #[v, v'] w fun e w' => e = .returned (.bool (l == l')) ∧ w' = w := by
  have H := hid h
  have H' := hid h'
  clear h h'
  go_enter Try.func80, Try.ntmps80
  go_wp2_with (first
    | (refine wpList_bytes_str rfl 30 9 _ rfl 5 Try.underlying30 Try.underlying5 Try.underlying9 _ l rfl H.out ?_)
    | (refine wpList_bytes_str rfl 30 9 _ rfl 5 Try.underlying30 Try.underlying5 Try.underlying9 _ l' rfl H'.out ?_))
  go_ret
  exact ⟨rfl, rfl⟩

theorem slice_hi (w : World) (p : Option Addr) (n cap hi : Nat) (l : List UInt8) (h : Bs w (.slice p n cap) l) (hh : hi ≤ l.length) :
    ∃ p' c', (Instr.sliceAt 30 (.slice p n cap) none (some (.int .i64 (hi : Int))) none).run Try.prog w = .ok (.slice p' hi c') w ∧ Bs w (.slice p' hi c') (l.take hi) := by
  obtain ⟨hl, p0, c0, he, h3, h4, h5, h6⟩ := h
  cases he
  have hr := run_slice_rd (P := Try.prog) w 30 5 1 Try.underlying30 infoU8' p l.length cap 0 hi h5 (by omega) (by omega) none (some (.int .i64 (hi : Int))) (.inl ⟨rfl, rfl⟩) (.inr ⟨_, rfl⟩)
  have hs := (slice_rd_of w 1 p l.length cap (bv l) ⟨hl, _, _, rfl, h3, h4, h5, h6⟩ 0 hi (by omega) hh).1
  refine ⟨_, _, hr, ?_⟩
  unfold Bs
  rw [List.length_take, Nat.min_eq_left hh, ← bv_take]
  simpa using hs

theorem pre_any (w : World) (v v' : Value) (l l' : List UInt8) (h : Bs w v l) (h' : Bs w v' l') (hl : l'.length ≤ l.length) :
    Calls Try.prog 68 #[v, v'] w fun e w' => e = .returned (.bool (l.take l'.length == l')) ∧ w' = w := by
  obtain ⟨hlen, p, cap, rfl, h1, h2, h3, h4⟩ := id h
  obtain ⟨hlen', p', cap', rfl, h1', h2', h3', h4'⟩ := id h'
  obtain ⟨p2, c2, hsl, hb2⟩ := slice_hi w p l.length cap l'.length l h hl
  have HE := hid (eq_any w _ _ _ _ hb2 h')
  have hd : decide ((l'.length : Int) ≤ (l.length : Int)) = true := by simp; omega
  clear h h' hlen hlen' h3 h4 h3' h4' hb2
  go_enter Try.func68, Try.ntmps68
  go_wp2_with fail
  refine HE.out.mono ?_
  rintro e1 wx ⟨rfl, hw⟩
  subst hw
  go_wp2_with fail
  go_ret
  exact ⟨rfl, rfl⟩

/-- the number that stands at a log's head -/
def headN (b : List UInt8) : Int := wrap64 (num ((b.drop 8).take 8))
def cntOf (n : Nat) (b : List UInt8) : Int := if (b.take 8 == markB) = true ∧ 1 ≤ headN b ∧ headN b ≤ 400 ∧ headN b < (n : Int) then headN b else 0

set_option maxRecDepth 100000 in
theorem count_any (w : World) (d : Nat) (fp : Nat → Prop) (n : Nat) (s : DS) (h : Dsk w d fp n s) :
    Calls Try.prog 52 #[.pointer (some ⟨d, 0, none⟩)] w fun e w' => e = .returned (.tuple #[.int .i64 (if s.dead then 0 else cntOf n (row s.now 0)), .int .i64 (if s.dead then 13 else 0)]) ∧ Below w.heap.size w w' := by
  have H := hid h
  clear h
  rcases Bool.eq_false_or_eq_true s.dead with hdead | hdead
  · have HR := hid (dRead_err w d fp n s 0 H.out (.inl hdead))
    rw [if_pos hdead, if_pos hdead]
    have HD := hid hdead
    clear hdead
    go_enter Try.func52, Try.ntmps52
    go_wp2_with fail
    have h1 := HR.out
    rw [if_pos HD.out] at h1
    refine h1.mono ?_
    rintro e1 wx ⟨rfl, hw⟩
    subst hw
    go_wp2_with fail
    go_ret2
    exact ⟨rfl, Below.refl _ _⟩
  · have hn : 0 < n := H.out.ok.n1
    have HR := hid (dRead_ok w d fp n s 0 H.out hdead hn)
    have HL := hid (row_length H.out.ok.now hn)
    rw [if_neg (by rw [hdead]; decide), if_neg (by rw [hdead]; decide)]
    clear hdead
    generalize row s.now 0 = R at *
    go_enter Try.func52, Try.ntmps52
    go_wp2_with fail
    refine HR.out.mono ?_
    rintro e1 w1 ⟨g, rfl, hg, hblk, hb1⟩
    have BS := hid (Bs.blk hblk HL.out.symm (by simp [maxLen]))
    have B1 := hid hb1
    have G1 := hid hg
    clear hblk hb1 hg HR
    have hcv := mark_lit w1
    go_wp2_with fail
    have hba : Below w1.heap.size w1 (w1.alloc (Obj.cells (bv markB).toArray 5 (8, 9))) := (Below.refl _ _).alloc (Nat.le_refl _) _
    have hbk := mark_read w1
    generalize w1.alloc (Obj.cells (bv markB).toArray 5 (8, 9)) = wa at *
    have BA := hid hba
    have BSA := hid (BS.out.new hba)
    have BWA := hid (B1.out.trans (hba.mono B1.out.size))
    clear hba hcv
    have hp := pre_any wa _ _ R markB BSA.out hbk (by rw [HL.out]; decide)
    have HPRE := hid hp
    clear hp hbk
    refine HPRE.out.mono ?_
    rintro e1 wx ⟨rfl, hw⟩
    subst hw
    clear HPRE
    rw [show markB.length = 8 from rfl]
    generalize hm : (R.take 8 == markB) = m
    have HM := hid hm
    clear hm
    cases m with
    | false =>
      have HC : Hid (cntOf n R = 0) := hid (by unfold cntOf; rw [HM.out]; simp)
      go_wp2_with fail
      go_ret2
      rw [HC.out]
      exact ⟨rfl, BWA.out⟩
    | true =>
      go_wp2_with (refine wpList_slice_rd rfl 30 _ _ _ rfl 5 1 Try.underlying30 infoU8' _ 512 (bv R) rfl ?hrd 8 16 ⟨_, _, rfl, by decide, rfl⟩ ⟨_, _, rfl, by decide, rfl⟩ (by omega) (by omega) ?_; (case hrd => have h := BSA.out; unfold Bs at h; rw [HL.out] at h; exact h); intro p2 c2 hrd2 hob2; have R2 := hid hrd2; clear hrd2 hob2)
      have hb2 : Bs wx (.slice p2 8 c2) ((R.drop 8).take 8) := by
        have h : Rd wx 1 (.slice p2 8 c2) 8 (((bv R).drop 8).take 8) := R2.out
        rw [bv_drop, bv_take] at h
        have hl : ((R.drop 8).take 8).length = 8 := by simp [HL.out]
        unfold Bs
        rw [hl]; exact h
      have HB2 := hid hb2
      clear hb2
      have hl8 : ((R.drop 8).take 8).length = 8 := by simp [HL.out]
      refine (New_any _ _ wx HB2.out (by rw [hl8]; omega)).mono ?_
      rintro e1 w3 ⟨r, rfl, hb3, hr3, ob, hob, hrdr⟩
      have B3 := hid (BWA.out.trans (hb3.mono BWA.out.size))
      have RD := hid hrdr
      have R3 : Hid (w.heap.size ≤ r) := hid (Nat.le_trans BWA.out.size hr3)
      clear hob hr3 hb3 hrdr
      go_wp2_with fail
      refine (rInt_any r ob _ 0 w3 RD.out (by rw [hl8]; omega) (by omega) (by omega)).mono ?_
      rintro e1 w4 ⟨rfl, hch, _⟩
      have B4 := hid (B3.out.trans (hch.below (B := w.heap.size) (fun k hk => by rw [hk]; exact R3.out) B3.out.size))
      have hhn : wrap64 (num (tkGot ((R.drop 8).take 8) 0 8) : Int) = headN R := by
        unfold headN tkGot
        rw [if_neg (by decide), if_neg (by rw [hl8]; decide), List.take_of_length_le (by rw [hl8]; omega)]
      rw [hhn]
      have D4 := hid (H.out.chg (Chg.new B4.out NoFp) (fun _ _ h => h))
      clear hch hhn hl8
      have HC : Hid (cntOf n R = if 1 ≤ headN R ∧ headN R ≤ 400 ∧ headN R < (n : Int) then headN R else 0) := hid (by unfold cntOf; rw [HM.out]; simp)
      generalize headN R = N at *
      by_cases h1 : N < 1
      · have hd1 : decide (N < 1) = true := by simpa using h1
        have HC2 : Hid (cntOf n R = 0) := hid (by rw [HC.out, if_neg (by omega)])
        clear h1
        go_wp2_with fail
        go_ret2
        rw [HC2.out]
        exact ⟨rfl, B4.out⟩
      · have hd1 : decide (N < 1) = false := by simpa using h1
        by_cases h2 : 400 < N
        · have hd2 : decide (400 < N) = true := by simpa using h2
          have HC2 : Hid (cntOf n R = 0) := hid (by rw [HC.out, if_neg (by omega)])
          clear h1 h2
          go_wp2_with fail
          go_ret2
          rw [HC2.out]
          exact ⟨rfl, B4.out⟩
        · have hd2 : decide (400 < N) = false := by simpa using h2
          go_wp2_with fail
          refine (dSize_any w4 d fp n s D4.out).mono ?_
          rintro e1 wz ⟨rfl, hw⟩
          subst hw
          by_cases h3 : (n : Int) ≤ N
          · have hd3 : decide ((n : Int) ≤ N) = true := by simpa using h3
            have HC2 : Hid (cntOf n R = 0) := hid (by rw [HC.out, if_neg (by omega)])
            clear h1 h2 h3
            go_wp2_with fail
            go_ret2
            rw [HC2.out]
            exact ⟨rfl, B4.out⟩
          · have hd3 : decide ((n : Int) ≤ N) = false := by simpa using h3
            have HC2 : Hid (cntOf n R = N) := hid (by rw [HC.out, if_pos (by omega)])
            clear h1 h2 h3
            go_wp2_with fail
            go_ret2
            rw [HC2.out]
            exact ⟨rfl, B4.out⟩
end Go.Proofs.Ytdilkgcoecipjaa

namespace Go.Proofs.Ytdilkgcoecipjaa
open Go.RowKit
set_option linter.unusedVariables false

def putCells : List (Int × List UInt8) → List Value → List Value
  | q :: ls, b :: bs => .int .i64 q.1 :: b :: putCells ls bs
  | _, _ => []
theorem putCells_length : ∀ (ls : List (Int × List UInt8)) (bs : List Value), bs.length = ls.length → (putCells ls bs).length = ls.length * 2
  | [], [], _ => rfl
  | q :: ls, b :: bs, h => by
    rw [putCells, List.length_cons, List.length_cons, putCells_length ls bs (by simpa using h), List.length_cons]; omega
theorem putCells_snoc : ∀ (ls : List (Int × List UInt8)) (bs : List Value) (q : Int × List UInt8) (b : Value), bs.length = ls.length → putCells (ls ++ [q]) (bs ++ [b]) = putCells ls bs ++ [.int .i64 q.1, b]
  | [], [], q, b, _ => rfl
  | p :: ls, x :: bs, q, b, h => by
    simp only [List.cons_append, putCells]
    rw [putCells_snoc ls bs q b (by simpa using h)]
theorem putCells_get : ∀ (ls : List (Int × List UInt8)) (bs : List Value) (i : Nat) (q : Int × List UInt8) (b : Value), ls[i]? = some q → bs[i]? = some b → (putCells ls bs)[i * 2]? = some (.int .i64 q.1) ∧ (putCells ls bs)[i * 2 + 1]? = some b
  | [], _, i, q, b, h, _ => by simp at h
  | p :: ls, [], i, q, b, _, h => by simp at h
  | p :: ls, x :: bs, 0, q, b, h, h' => by
    simp at h h'
    subst h h'
    exact ⟨rfl, rfl⟩
  | p :: ls, x :: bs, i + 1, q, b, h, h' => by
    have h1 := putCells_get ls bs i q b (by simpa using h) (by simpa using h')
    rw [show (i + 1) * 2 = i * 2 + 1 + 1 by omega]
    exact h1

/-- pages in memory of one's own, their bytes in blocks of G -/
def PutsAt (W : Nat) (G : Nat → Prop) (ls : List (Int × List UInt8)) (bs : List Value) (w wr : World) (v : Value) : Prop :=
  wr.ownsRow W 108 2 v ls.length (putCells ls bs) ∧ bs.length = ls.length ∧
  (∀ (i : Nat) (q : Int × List UInt8) (b : Value), ls[i]? = some q → bs[i]? = some b → Bs wr b q.2 ∧ (0 < q.2.length → ∀ g, b.ownBlock = some g → G g ∧ v.ownBlock ≠ some g)) ∧ Below W w wr ∧ W ≤ wr.heap.size

theorem PutsAt.start {W : Nat} {G : Nat → Prop} {w wr : World} (hb : Below W w wr) (hs : W ≤ wr.heap.size) : PutsAt W G [] [] w wr (.slice none 0 0) :=
  ⟨World.ownsRow_nil _ _ _ _, rfl, fun i q b h => by simp at h, hb, hs⟩

theorem PutsAt.shape {W : Nat} {G : Nat → Prop} {ls : List (Int × List UInt8)} {bs : List Value} {w wr : World} {v : Value} (h : PutsAt W G ls bs w wr v) : ∃ p c, v = .slice p ls.length c := by
  rcases h.1.2 with ⟨h5, h6⟩ | ⟨g, cap, cur, h5, _⟩
  · exact ⟨none, 0, by rw [h5, h6]⟩
  · exact ⟨_, _, h5⟩

theorem putInfo : (Try.prog.info? 108).map (fun i => (i.zero, i.size, i.bytes)) = some (some (.agg #[.int .i64 0, .slice none 0 0]), 2, 32) := by kernel_rfl

/-- nothing of it is turned -/
theorem PutsAt.new {W : Nat} {G : Nat → Prop} {ls : List (Int × List UInt8)} {bs : List Value} {w wr w' : World} {v : Value} (h : PutsAt W G ls bs w wr v) (hb : Below wr.heap.size wr w') : PutsAt W G ls bs w w' v := by
  obtain ⟨h1, h2, h3, h4, h5⟩ := h
  exact ⟨own_chg h1 (Chg.new hb NoFp) (fun _ _ h => h), h2, fun i q b hq hb' => ⟨(h3 i q b hq hb').1.new hb, (h3 i q b hq hb').2⟩, h4.trans (hb.mono h5), Nat.le_trans h5 hb.size⟩

theorem PutsAt.app {W : Nat} {G : Nat → Prop} {ls : List (Int × List UInt8)} {bs : List Value} {w wr w5 w7 : World} {v v' b : Value} {q : Int × List UInt8} {T : TypeId} (h : PutsAt W G ls bs w wr v) (hb : Below wr.heap.size wr w5)
    (hv : Bs w5 b q.2) (hg' : 0 < q.2.length → ∀ g, b.ownBlock = some g → G g ∧ v.ownBlock ≠ some g)
    (ho : w7.ownsRow W 108 2 v' (ls.length + 1) (putCells ls bs ++ [.int .i64 q.1, b])) (hg : (w5.alloc (Obj.cells #[.int .i64 q.1, b] T)).grownBy w7 v.ownBlock)
    (hw : v'.ownBlock = v.ownBlock ∨ v'.ownBlock = some (w5.alloc (Obj.cells #[.int .i64 q.1, b] T)).heap.size) : PutsAt W G (ls ++ [q]) (bs ++ [b]) w w7 v' := by
  obtain ⟨h1, h2, h3, h4, h5⟩ := h
  have hbase : W ≤ w5.heap.size := Nat.le_trans h5 hb.size
  have hbw5 : Below W w w5 := h4.trans (hb.mono h5)
  have hba : W ≤ (w5.alloc (Obj.cells #[.int .i64 q.1, b] T)).heap.size := Nat.le_trans hbase (by simp)
  have mv : ∀ {q' : Int × List UInt8} {b' : Value}, Bs w5 b' q'.2 → (0 < q'.2.length → ∀ g, b'.ownBlock = some g → G g ∧ v.ownBlock ≠ some g) → Bs w7 b' q'.2 ∧ (0 < q'.2.length → ∀ g, b'.ownBlock = some g → G g ∧ v'.ownBlock ≠ some g) := fun {q' b'} hB hG => by
    have e1 : Bs (w5.alloc (Obj.cells #[.int .i64 q.1, b] T)) b' q'.2 := hB.new ((Below.refl _ _).alloc (Nat.le_refl _) _)
    refine ⟨e1.chg (Chg.grown hg) (fun hz g hgb _ hh => (hG hz g hgb).2 hh), fun hz g hgb => ⟨(hG hz g hgb).1, fun hh => ?_⟩⟩
    rcases hw with h8 | h8
    · exact (hG hz g hgb).2 (h8 ▸ hh)
    · rw [h8] at hh
      injection hh with hh
      have := Rd.lt e1 hz (by decide) g hgb
      omega
  refine ⟨by rw [putCells_snoc _ _ _ _ h2, List.length_append]; exact ho, by simp [h2], ?_, (hbw5.alloc hbase _).grown hg hba (fun k hk => (h1.lt k hk).1), Nat.le_trans hba hg.size⟩
  intro i q' b' hq hb'
  rcases Nat.lt_or_ge i ls.length with hij | hij
  · rw [List.getElem?_append_left hij] at hq
    rw [List.getElem?_append_left (by rw [h2]; exact hij)] at hb'
    have h9 := h3 i q' b' hq hb'
    exact mv (h9.1.new hb) h9.2
  · rw [List.getElem?_append_right hij] at hq
    rw [List.getElem?_append_right (by rw [h2]; exact hij), h2] at hb'
    have hi0 : i - ls.length = 0 := by
      rcases Nat.eq_zero_or_pos (i - ls.length) with h | h
      · exact h
      · rw [List.getElem?_eq_none (by simp; omega)] at hq; cases hq
    rw [hi0] at hq hb'
    simp at hq hb'
    subst hq hb'
    exact mv hv hg'

/-- one page more is appended -/
theorem wpList_append_put {W : Nat} {G : Nat → Prop} {ls : List (Int × List UInt8)} {bs : List Value} {w wr w5 : World} {v b : Value} {q : Int × List UInt8} {ops : Array Oper} {rest : List Oper} {o : Oper} {a : Act} {Q : Exit → Act → World → Prop}
    (h : PutsAt W G ls bs w wr v) (hb : Below wr.heap.size wr w5) (hv : Bs w5 b q.2) (hG : 0 < q.2.length → ∀ g, b.ownBlock = some g → G g ∧ v.ownBlock ≠ some g) (hgd : o.guard = none) (s x : Operand)
    (ho : o.op = .call { callee := .builtin .append, args := #[s, x], argTypes := #[104, 104] }) (hs : a.eval s = v) (hx : a.eval x = .slice (some ⟨w5.heap.size, 0, none⟩) 1 1) (h1 : b.oneCell' = true) (hl : ls.length ≤ 1000)
    (hK : ∀ (p' : Option Addr) (c' : Nat) w7, PutsAt W G (ls ++ [q]) (bs ++ [b]) w w7 (.slice p' (ls.length + 1) c') → wpList Try.prog ops Q rest (a.put o.dst (.slice p' (ls.length + 1) c')) w7) :
    wpList Try.prog ops Q (o :: rest) a (w5.alloc (Obj.cells #[.int .i64 q.1, b] 108)) := by
  have O5 := own_chg h.1 (Chg.new hb NoFp) (fun _ _ h => h)
  have SZ : W ≤ (w5.alloc (Obj.cells #[.int .i64 q.1, b] 108)).heap.size := Nat.le_trans (Nat.le_trans h.2.2.2.2 hb.size) (by simp)
  have hrd : Rd (w5.alloc (Obj.cells #[.int .i64 q.1, b] 108)) 2 (.slice (some ⟨w5.heap.size, 0, none⟩) 1 1) 1 [.int .i64 q.1, b] := by
    have hblk : Blk (w5.alloc (Obj.cells #[.int .i64 q.1, b] 108)) w5.heap.size [.int .i64 q.1, b] 108 := heap_alloc_new w5 _
    exact Rd.blk (off := 0) (n := 1) (c := 1) (size := 2) hblk (Nat.le_refl _) (by simp only [maxLen]; omega) (by simp)
  refine wpList_append_rd hgd s x 104 ho W 108 _ 2 32 Try.underlying104 putInfo rfl (by decide) v ls.length (putCells ls bs) hs (O5.alloc _) _ 1 [.int .i64 q.1, b] hx hrd
    (fun u hu => by
      simp only [List.mem_cons, List.not_mem_nil, or_false] at hu
      rcases hu with rfl | rfl
      · rfl
      · exact h1) (by simp only [maxLen]; omega) (by omega) SZ ?_
  intro p' c' w7 hown7 hg7 hb7
  exact hK p' c' w7 (h.app hb hv hG hown7 hg7 hb7)

theorem PutsAt.puts {W : Nat} {G fp : Nat → Prop} {ls : List (Int × List UInt8)} {bs : List Value} {w wr : World} {p : Option Addr} {m c : Nat} (h : PutsAt W G ls bs w wr (.slice p m c)) (hG : ∀ g, G g → ¬ fp g) (hfp : ∀ k, fp k → k < W) :
    IsPuts wr fp p ls ∧ PutsOut fp p := by
  obtain ⟨h1, h2, h3, h4, h5⟩ := h
  have hout : PutsOut fp p := fun ad had hf => by
    subst had
    have := (h1.lt ad.block rfl).1
    have := hfp _ hf
    omega
  refine ⟨fun i hi => ?_, hout⟩
  obtain ⟨g, rfl⟩ : ∃ g, p = some ⟨g, 0, none⟩ := by
    rcases h1.2 with ⟨_, h6⟩ | ⟨g, cap, cur, h5, _⟩
    · omega
    · injection h5 with h5 _ _
      exact ⟨g, h5⟩
  have hq : ls[i]? = some (ls[i]'hi) := List.getElem?_eq_getElem _
  have hb : bs[i]? = some (bs[i]'(by rw [h2]; exact hi)) := List.getElem?_eq_getElem _
  have hc := putCells_get ls bs i _ _ hq hb
  have hcells := h1.cells (g := g) rfl
  have k0 := hcells _ _ hc.1
  have k1 := hcells _ _ hc.2
  rw [Addr.add_off _ rfl] at k0 k1
  have h9 := h3 i _ _ hq hb
  obtain ⟨_, p9, c9, he9, _⟩ := id h9.1
  refine ⟨g, 0, _, p9, c9, rfl, hq, k0, ?_, ?_⟩
  · rw [← he9, Nat.add_assoc]; exact k1
  · rw [← he9]; exact ⟨h9.1, fun hz g hg => hG g (h9.2 hz g hg).1⟩
end Go.Proofs.Ytdilkgcoecipjaa

namespace Go.Proofs.Ytdilkgcoecipjaa
open Go.RowKit
set_option linter.unusedVariables false

def logRow (F : List UInt8) (i : Nat) : Int × List UInt8 := (wrap64 (num ((row F (1 + i)).take 8) : Int), (row F (1 + i)).drop 8)
def logOf (F : List UInt8) (m : Nat) : List (Int × List UInt8) := (List.range m).map (logRow F)
theorem logOf_length (F : List UInt8) (m : Nat) : (logOf F m).length = m := by simp [logOf]
theorem logOf_succ (F : List UInt8) (m : Nat) : logOf F (m + 1) = logOf F m ++ [logRow F m] := by simp [logOf, List.range_succ]
theorem logOf_get {F : List UInt8} {m i : Nat} (h : i < m) : (logOf F m)[i]? = some (logRow F i) := by simp [logOf, h]
def homesOk (n : Nat) (ls : List (Int × List UInt8)) : Bool := ls.all fun q => decide (401 ≤ q.1 ∧ q.1 < (n : Int))

def recov (n : Nat) (s : DS) : DS × Int × Int :=
  if s.dead = true then (s, 0, 13) else
    if cntOf n (row s.now 0) = 0 then (s, 0, 0) else
      if homesOk n (logOf s.now (cntOf n (row s.now 0)).toNat) = true then
        if (runStps n s (finSteps (logOf s.now (cntOf n (row s.now 0)).toNat))).2 = 0 then
          ((runStps n s (finSteps (logOf s.now (cntOf n (row s.now 0)).toNat))).1, cntOf n (row s.now 0), 0)
        else ((runStps n s (finSteps (logOf s.now (cntOf n (row s.now 0)).toNat))).1, 0, (runStps n s (finSteps (logOf s.now (cntOf n (row s.now 0)).toNat))).2)
      else (s, 0, 9)

theorem cntOf_bd (n : Nat) (b : List UInt8) : cntOf n b = 0 ∨ (1 ≤ cntOf n b ∧ cntOf n b ≤ 400 ∧ cntOf n b < (n : Int)) := by
  unfold cntOf
  split
  · exact .inr ⟨by omega, by omega, by omega⟩
  · exact .inl rfl

theorem bs_part {w : World} {g lo hi c : Nat} {R : List UInt8} (h : Blk w g (bv R) 5) (hR : R.length = 512) (h1 : lo + hi ≤ 512) (h2 : hi ≤ c) (h3 : c ≤ 512) :
    Bs w (.slice (some ⟨g, lo, none⟩) hi c) ((R.drop lo).take hi) := by
  have h9 := Rd.blk (off := lo) (n := hi) (c := c) (size := 1) h h2 (by simp only [maxLen]; omega) (by simp [hR]; omega)
  rw [Nat.mul_one, bv_drop, bv_take] at h9
  unfold Bs
  rw [show ((R.drop lo).take hi).length = hi by simp [hR]; omega]
  exact h9

set_option maxRecDepth 100000 in
set_option maxHeartbeats 4000000 in
theorem recov_any (w : World) (d : Nat) (fp : Nat → Prop) (n : Nat) (s : DS) (h : Dsk w d fp n s) (ho : s.ops + 3000 ≤ 1000000) :
    Calls Try.prog 36 #[.pointer (some ⟨d, 0, none⟩)] w fun e w' => e = .returned (.tuple #[.int .i64 (recov n s).2.1, .int .i64 (recov n s).2.2]) ∧ DskTo w d fp n (recov n s).1 w' := by
  have H := hid h
  have HC := hid (count_any w d fp n s h)
  clear h
  rcases Bool.eq_false_or_eq_true s.dead with hdead | hdead
  · have HE : Hid (recov n s = (s, 0, 13)) := hid (by unfold recov; rw [if_pos hdead])
    have h9 := HC.out
    rw [if_pos hdead, if_pos hdead] at h9
    have HC9 := hid h9
    clear h9 HC hdead
    go_enter Try.func36, Try.ntmps36
    go_wp2_with fail
    refine HC9.out.mono ?_
    rintro e1 w1 ⟨rfl, hb1⟩
    have B1 := hid hb1
    clear hb1
    go_wp2_with fail
    go_ret2
    rw [HE.out]
    exact ⟨rfl, fp, H.out.chg (Chg.new B1.out NoFp) (fun _ _ h => h), Chg.new B1.out fp, fun k h => .inl h⟩
  · have hnd : ¬ s.dead = true := by rw [hdead]; decide
    have HDD := hid hdead
    have h9 := HC.out
    rw [if_neg hnd, if_neg hnd] at h9
    have HC9 := hid h9
    have hcb := cntOf_bd n (row s.now 0)
    have HE0 : Hid (∀ N, cntOf n (row s.now 0) = N → recov n s = if N = 0 then (s, 0, 0) else
      if homesOk n (logOf s.now N.toNat) = true then
        if (runStps n s (finSteps (logOf s.now N.toNat))).2 = 0 then ((runStps n s (finSteps (logOf s.now N.toNat))).1, N, 0)
        else ((runStps n s (finSteps (logOf s.now N.toNat))).1, 0, (runStps n s (finSteps (logOf s.now N.toNat))).2)
      else (s, 0, 9)) := hid (fun N hN => by subst hN; unfold recov; rw [if_neg hnd])
    clear h9 HC hdead hnd
    generalize hN : cntOf n (row s.now 0) = N at *
    have HE := hid (HE0.out N rfl)
    clear hN HE0
    by_cases h0 : N = 0
    · have HE1 : Hid (recov n s = (s, 0, 0)) := hid (by rw [HE.out, if_pos h0])
      subst h0
      clear hcb
      go_enter Try.func36, Try.ntmps36
      go_wp2_with fail
      refine HC9.out.mono ?_
      rintro e1 w1 ⟨rfl, hb1⟩
      have B1 := hid hb1
      clear hb1
      go_wp2_with fail
      go_ret2
      rw [HE1.out]
      exact ⟨rfl, fp, H.out.chg (Chg.new B1.out NoFp) (fun _ _ h => h), Chg.new B1.out fp, fun k h => .inl h⟩
    · obtain ⟨m, rfl⟩ : ∃ m : Nat, N = (m : Int) := ⟨N.toNat, by omega⟩
      have hm0 : ((m : Int) == 0) = false := by simpa using h0
      have hmn : m < n ∧ m ≤ 400 ∧ 1 ≤ m := by omega
      have HE1 := hid HE.out
      rw [if_neg h0, Int.toNat_natCast] at HE1
      clear HE h0 hcb
      obtain ⟨hmn1, hmn2, hmn3⟩ := hmn
      go_enter Try.func36, Try.ntmps36
      go_wp2_with fail
      refine HC9.out.mono ?_
      rintro e1 w1 ⟨rfl, hb1⟩
      have B1 := hid hb1
      have D1 := hid (H.out.chg (Chg.new hb1 NoFp) (fun _ _ h => h))
      clear hb1 HC9
      go_wp2_with fail
      have P0 : Hid (PutsAt w.heap.size (fun g => w.heap.size ≤ g) (logOf s.now 0) [] w w1 (.slice none 0 0)) := hid (PutsAt.start B1.out B1.out.size)
      go_loopw [6, 26] (fun v i wr => ∃ (j : Nat) (bs : List Value), j ≤ m ∧ i = .int .i64 j ∧ PutsAt w.heap.size (fun g => w.heap.size ≤ g) (logOf s.now j) bs w wr v) (fun _ i _ => m + 1 - (intOf i).toNat)
      case atStart => exact ⟨0, [], Nat.zero_le _, rfl, P0.out⟩
      case round =>
        obtain ⟨j, bs, hj, rfl, hat⟩ := hrel
        have PA := hid hat
        obtain ⟨sp, sc, hsh⟩ := hat.shape
        rw [logOf_length] at hsh
        subst hsh
        clear hat P0
        by_cases hlt : j < m
        · have hwj : IntKind.i64.wrap (1 + (j : Int)) = 1 + (j : Int) := by simp [IntKind.wrap, IntKind.bits, IntKind.signed]; omega
          go_wp2_with fail
          have hrd := dRead_ok wr d fp n s (1 + j) (H.out.chg (Chg.new PA.out.2.2.2.1 NoFp) (fun _ _ h => h)) HDD.out (by omega)
          rw [show (((1 + j : Nat) : Int)) = 1 + (j : Int) by omega] at hrd
          refine hrd.mono ?_
          rintro e1 w2 ⟨g, rfl, hg, hblk, hb2⟩
          have HL := hid (row_length H.out.ok.now (show 1 + j < n by omega))
          have P2 := hid (PA.out.new hb2)
          have BK := hid hblk
          have G2 := hid hg
          have B2 := hid hb2
          clear hrd hg hblk hb2
          go_wp2_with fail
          refine wp_region_plan (fun w' => True) (fun j => !([3, 4, 8, 9, 10].contains j)) (fun j => [9, 10].contains j)
            (.of [0, 1, 2, 5, 6, 3, 4, 7, 8, 9, 10]) (by kernel_rfl) (by kernel_rfl) rfl (by kernel_rfl) (by kernel_rfl) trivial ?_
          iterate 5 (apply wpPlan_val; (case ho => rfl); (case hst => rfl); (case hw => rfl); (case hv => intro w' hS; go_simp; first | done | rfl); intro K hK; go_simp; refine hK _ ?_; clear hK K)
          have hbd : Below w2.heap.size w2 w2.drew := below_drewN (Below.refl _ _) 1
          have BD := hid hbd
          have P3 := hid (P2.out.new hbd)
          have K3 := hid (BK.out.chg (Chg.new hbd NoFp) (fun h => h))
          clear hbd
          refine wpPlan_list rfl rfl rfl (fun K hK => ?_)
          refine wpList_step (fun K2 hK2 => ?_)
          go_simp
          refine (New_any _ _ w2.drew (bs_part (lo := 0) (hi := 8) (c := 512) K3.out HL.out (by omega) (by omega) (by omega)) (by simp; omega)).mono ?_
          rintro e1 w3 ⟨r, rfl, hb3, hr3, ob, hob, hrdr⟩
          have P4 := hid (P3.out.new hb3)
          have K4 := hid (K3.out.chg (Chg.new hb3 NoFp) (fun h => h))
          have B3 := hid (BD.out.trans (hb3.mono BD.out.size))
          have RD := hid hrdr
          have R3 : Hid (w2.heap.size ≤ r) := hid hr3
          clear hb3 hr3 hob hrdr
          go_simp
          refine hK2 _ _ ?_
          clear hK2 K2
          simp only [wpList]
          refine hK _ _ (fun _ => trivial) ?_
          clear hK K
          refine wpPlan_list rfl rfl rfl (fun K hK => ?_)
          refine wpList_step (fun K2 hK2 => ?_)
          go_simp
          refine (rInt_any r ob _ 0 w3 RD.out (by simp; omega) (by omega) (by omega)).mono ?_
          rintro e1 w4 ⟨rfl, hch, _⟩
          have hq1 : wrap64 (num (tkGot (((row s.now (1 + j)).drop 0).take 8) 0 8) : Int) = (logRow s.now j).1 := by
            unfold logRow tkGot
            rw [if_neg (by decide), if_neg (by simp [HL.out]), List.drop_zero, List.take_take]
            rfl
          rw [hq1]
          have hq2 : (logRow s.now j).2 = (row s.now (1 + j)).drop 8 := rfl
          have B4 : Hid (Below w2.heap.size w2 w4) := hid (B3.out.trans (hch.below (B := w2.heap.size) (fun k hk => by rw [hk]; exact R3.out) B3.out.size))
          have P5 := hid (P2.out.new B4.out)
          have K5 := hid (BK.out.chg (Chg.new B4.out NoFp) (fun h => h))
          clear hch hq1
          go_simp
          refine hK2 _ _ ?_
          clear hK2 K2
          simp only [wpList]
          refine hK _ _ (fun _ => trivial) ?_
          clear hK K
          have V5 : Hid (Bs w4 (.slice (some ⟨g, 8, none⟩) 504 504) (logRow s.now j).2) := hid (by
            rw [hq2]
            have h9 := bs_part (lo := 8) (hi := 504) (c := 504) K5.out HL.out (by omega) (by omega) (by omega)
            rw [List.take_of_length_le (by simp [HL.out])] at h9
            exact h9)
          generalize hqq : logRow s.now j = q at *
          have HQ := hid hqq
          clear hqq
          apply wpPlan_val; (case ho => rfl); (case hst => rfl); (case hw => rfl); (case hv => intro w' hS; go_simp; first | done | rfl); intro K hK; go_simp; refine hK _ ?_; clear hK K
          refine wpPlan_list rfl rfl rfl (fun K hK => ?_)
          refine wpList_step (fun K2 hK2 => ?_)
          go_simp
          refine hK2 _ _ ?_
          clear hK2 K2
          simp only [wpList]
          refine hK _ _ (fun _ => trivial) ?_
          clear hK K
          have HG : Hid (0 < q.2.length → ∀ g', Value.ownBlock (.slice (some ⟨g, 8, none⟩) 504 504) = some g' → w.heap.size ≤ g' ∧ Value.ownBlock (.slice sp j sc) ≠ some g') := hid (fun _ g' hg' => by
            have e : g = g' := by simpa [Value.ownBlock] using hg'
            have h1 := PA.out.2.2.2.2
            have h2 := G2.out
            refine ⟨by omega, fun h3 => ?_⟩
            have := (PA.out.1.lt g' h3).2
            omega)
          refine wpPlan_list rfl rfl rfl (fun K hK => ?_)
          refine wpList_append_put (q := q) P2.out B4.out V5.out HG.out rfl _ _ rfl rfl rfl rfl (by rw [logOf_length]; omega) ?_
          intro p' c' w7 hp7
          have P7 : Hid (PutsAt w.heap.size (fun g => w.heap.size ≤ g) (logOf s.now (j + 1)) (bs ++ [.slice (some ⟨g, 8, none⟩) 504 504]) w w7 (.slice p' (j + 1) c')) := hid (by
            rw [logOf_length] at hp7
            rw [logOf_succ, HQ.out]
            exact hp7)
          clear hp7
          rw [logOf_length]
          simp only [wpList]
          refine hK _ _ (fun h => by cases h) ?_
          clear hK K
          refine wpPlan_list rfl rfl rfl (fun K hK => ?_)
          refine wpList_step (fun K2 hK2 => ?_)
          go_simp
          refine hK2 _ _ ?_
          clear hK2 K2
          simp only [wpList]
          refine hK _ _ (fun h => by cases h) ?_
          clear hK K
          refine wpPlan_nil ?_
          simp only [Qn]
          go_wp2_with fail
          go_roundw
          case rel => exact ⟨j + 1, _, by omega, by go_num, P7.out⟩
          case measure => simp [intOf]; omega
        · obtain rfl : j = m := by omega
          have hfin := PA.out.puts (fp := fp) (fun g hg hf => by have := H.out.lt g hf; omega) H.out.lt
          have FIN := hid hfin
          have BW := hid PA.out.2.2.2.1
          clear hfin
          have hll : (logOf s.now j).length = j := logOf_length _ _
          have HLL := hid hll
          have HB : Hid (∀ q ∈ logOf s.now j, q.2.length ≤ 600) := hid (fun q hq => by
            obtain ⟨i, hi, rfl⟩ := List.mem_map.1 hq
            have := List.mem_range.1 hi
            have h9 := row_length H.out.ok.now (show 1 + i < n by omega)
            show ((row s.now (1 + i)).drop 8).length ≤ 600
            simp [h9])
          generalize hls : logOf s.now j = ls at *
          subst hll
          clear hls PA
          obtain ⟨wq, hwq⟩ : ∃ wq, wq = wr := ⟨_, rfl⟩
          subst hwq
          go_wp2_with fail
          go_loopw [52] (fun i wr => ∃ (k : Nat), k ≤ ls.length ∧ i = .int .i64 k ∧ Below wq.heap.size wq wr ∧ ∀ (m : Nat) (p : Int × List UInt8), m < k → ls[m]? = some p → 401 ≤ p.1 ∧ p.1 < (n : Int)) (fun i _ => ls.length + 1 - (intOf i).toNat)
          case atStart => exact ⟨0, Nat.zero_le _, rfl, Below.refl _ _, fun m p hm => by omega⟩
          case round =>
            obtain ⟨k, hk, rfl, hbel, hno⟩ := hrel
            have BE := hid hbel
            have NO := hid hno
            clear hbel hno
            have BX := hid (BW.out.trans (BE.out.mono BW.out.size))
            by_cases hlt : k < ls.length
            · obtain ⟨ab, ao, q, p, pc, rfl, hq, k0, k1, hfar⟩ := FIN.out.1 k hlt
              have hab : ab < wq.heap.size := World.block_lt_of_cell? wq ⟨ab, ao + k * 2, none⟩ k0
              have k0' : wr.cell? ⟨ab, ao + k * 2, none⟩ = some (.int .i64 q.1) := (BE.out.cell (p := ⟨ab, ao + k * 2, none⟩) hab).trans k0
              have k1' : wr.cell? ⟨ab, ao + k * 2 + 1, none⟩ = some (.slice p q.2.length pc) := (BE.out.cell (p := ⟨ab, ao + k * 2 + 1, none⟩) hab).trans k1
              have HQ := hid hq
              clear hq k0 k1 hfar
              go_wp2_with fail
              have hba : Below wr.heap.size wr (wr.alloc (Obj.cells #[.int .i64 q.1, .slice p q.2.length pc] 108)) := (Below.refl _ _).alloc (Nat.le_refl _) _
              generalize wr.alloc (Obj.cells #[.int .i64 q.1, .slice p q.2.length pc] 108) = wa at *
              have BA := hid (BX.out.trans (hba.mono BX.out.size))
              have BAR := hid (BE.out.trans (hba.mono BE.out.size))
              clear hba
              refine (home_any wa d fp n s q.1 (H.out.chg (Chg.new BA.out NoFp) (fun _ _ h => h))).mono ?_
              rintro e1 wz ⟨rfl, hw⟩
              subst hw
              generalize hd : decide (401 ≤ q.1 ∧ q.1 < (n : Int)) = hm
              have HD := hid hd
              clear hd
              cases hm with
              | false =>
                have HE2 : Hid (recov n s = (s, 0, 9)) := hid (by
                  rw [HE1.out, if_neg]
                  unfold homesOk
                  intro h
                  rw [List.all_eq_true] at h
                  have := h q (List.mem_of_getElem? HQ.out)
                  rw [HD.out] at this
                  cases this)
                go_wp2_with fail
                go_ret2
                rw [HE2.out]
                exact ⟨rfl, fp, H.out.chg (Chg.new BA.out NoFp) (fun _ _ h => h), Chg.new BA.out fp, fun k h => .inl h⟩
              | true =>
                go_wp2_with fail
                go_roundw
                case rel =>
                  refine ⟨k + 1, by omega, by go_num, BAR.out, fun m p hm hp => ?_⟩
                  rcases Nat.lt_or_ge m k with h | h
                  · exact NO.out m p h hp
                  · obtain rfl : m = k := by omega
                    have e : p = q := Option.some.inj (hp.symm.trans HQ.out)
                    subst e
                    simpa using HD.out
                case measure => simp [intOf]; omega
            · obtain rfl : k = ls.length := by omega
              have HOK : Hid (homesOk n ls = true) := hid (by
                unfold homesOk
                rw [List.all_eq_true]
                intro q hq
                obtain ⟨i, hi, rfl⟩ := List.mem_iff_getElem.1 hq
                have := NO.out i _ hi (List.getElem?_eq_getElem hi)
                simpa using this)
              have HE2 := hid HE1.out
              rw [if_pos HOK.out] at HE2
              have P9 := hid (FIN.out.1.chg FIN.out.2 (Chg.new BE.out fp) (fun k h => .inl h))
              go_wp2_with fail
              refine (finish_any wr d fp n s sp sc ls (H.out.chg (Chg.new BX.out NoFp) (fun _ _ h => h)) P9.out hmn2 HB.out (by omega)).mono ?_
              rintro e1 w9 ⟨rfl, hto⟩
              have T9 := hid (DskTo.trans (Chg.new BX.out fp) (fun k h => .inl h) hto)
              clear hto
              generalize hr : runStps n s (finSteps ls) = R at *
              have HR := hid hr
              clear hr
              by_cases h0 : R.2 = 0
              · have HE3 := hid HE2.out
                rw [if_pos h0] at HE3
                go_wp2_with fail
                go_ret2
                rw [HE3.out]
                exact ⟨rfl, T9.out⟩
              · have HE3 := hid HE2.out
                rw [if_neg h0] at HE3
                have h0' : (R.2 == 0) = false := by simpa using h0
                go_wp2_with fail
                go_ret2
                rw [HE3.out]
                exact ⟨rfl, T9.out⟩
end Go.Proofs.Ytdilkgcoecipjaa

namespace Go.Proofs.Ytdilkgcoecipjaa
open Go.RowKit
set_option linter.unusedVariables false

theorem pad_pad504 {l : List UInt8} (h : l.length ≤ 504) : pad (pad504 l) = pad l := by
  unfold pad pad504
  rw [List.append_assoc, List.replicate_append_replicate, List.length_append, List.length_replicate]
  congr 2
  omega
theorem pad_pre504 {a l : List UInt8} (ha : a.length = 8) (h : l.length ≤ 504) : pad (a ++ pad504 l) = pad (a ++ l) := by
  unfold pad pad504
  rw [← List.append_assoc, List.append_assoc (a ++ l), List.replicate_append_replicate]
  simp only [List.length_append, List.length_replicate]
  congr 2
  omega
theorem dWrite_ext {n : Nat} {s : DS} {at_ : Int} {l l' : List UInt8} (h : l.length ≤ 512) (h' : l'.length ≤ 512) (hp : pad l = pad l') : dWrite n s at_ l = dWrite n s at_ l' := by
  unfold dWrite dWritten
  rw [hp]
  have e : (¬ (0 ≤ at_ ∧ at_ < (n : Int)) ∨ 512 < l.length) = (¬ (0 ≤ at_ ∧ at_ < (n : Int)) ∨ 512 < l'.length) := by
    apply propext
    constructor
    · rintro (h1 | h1)
      · exact .inl h1
      · omega
    · rintro (h1 | h1)
      · exact .inl h1
      · omega
  simp only [e]
theorem dWrite_504 {n : Nat} {s : DS} {at_ : Int} {l : List UInt8} (h : l.length ≤ 504) : dWrite n s at_ (pad504 l) = dWrite n s at_ l :=
  dWrite_ext (by simp [pad504]; omega) (by omega) (pad_pad504 h)
theorem dWrite_pre {n : Nat} {s : DS} {at_ : Int} {a l : List UInt8} (ha : a.length = 8) (h : l.length ≤ 504) : dWrite n s at_ (a ++ pad504 l) = dWrite n s at_ (a ++ l) :=
  dWrite_ext (by simp [pad504, ha]; omega) (by simp [ha]; omega) (pad_pre504 ha h)

theorem homeSteps_get {ls : List (Int × List UInt8)} {j : Nat} {q : Int × List UInt8} (h : ls[j]? = some q) : (finSteps ls)[j]? = some (.write q.1 q.2) := by
  have hlt := (List.getElem?_eq_some_iff.1 h).1
  unfold finSteps homeSteps
  rw [List.getElem?_append_left (by simp; omega), List.getElem?_map, h]
  rfl
theorem finSteps_length (ls : List (Int × List UInt8)) : (finSteps ls).length = ls.length + 3 := by simp [finSteps, homeSteps]
theorem finSteps_end (ls : List (Int × List UInt8)) : (finSteps ls)[ls.length]? = some .sync ∧ (finSteps ls)[ls.length + 1]? = some (.write 0 []) ∧ (finSteps ls)[ls.length + 2]? = some .sync := by
  have hl : (homeSteps ls).length = ls.length := by simp [homeSteps]
  unfold finSteps
  refine ⟨?_, ?_, ?_⟩ <;> rw [List.getElem?_append_right (by omega), hl]
  · rw [Nat.sub_self]; rfl
  · rw [Nat.add_sub_cancel_left]; rfl
  · rw [Nat.add_sub_cancel_left]; rfl

section
variable {P : Program}

theorem run_append_full (w : World) (t ty e : TypeId) (z : Value) (size bytes : Nat) (ht : P.underlying t = some (.slice e))
    (hinf : (P.info? e).map (fun i => (i.zero, i.size, i.bytes)) = some (some z, size, bytes)) (hzs : z.cells.size = size) (hsz : 0 < size)
    (b : Addr) (n : Nat) (xs : List Value) (hv : Rd w size (.slice (some b) n n) n xs)
    (x : Value) (m : Nat) (news : List Value) (hrd : Rd w size x m news) (hm : 0 < m)
    (h63 : n + m ≤ maxLen) (hbytes : (n + m) * bytes ≤ 140737488355328) :
    ∃ v' w', (Builtin.append_ #[t, t] ty #[.slice (some b) n n, x]).run P w = .ok v' w' ∧ w'.ownsRow w.heap.size e size v' (n + m) (xs ++ news) ∧ Below w.heap.size w w' := by
  obtain ⟨i, hi, hz, rfl, rfl⟩ := info_parts hinf
  obtain ⟨hl, p, cap, rfl, hmc, hcm, hp0, hp⟩ := hrd
  obtain ⟨hlv, p', cap', he, _, _, _, hpv⟩ := hv
  cases he
  have hsmall : n + m ≤ 9223372036854775807 := by simp only [maxLen] at h63; omega
  cases p with
  | none =>
    have := hp0 rfl
    omega
  | some a =>
    have hnews : ∀ j u, news[j]? = some u → w.cell? (a.add j) = some u := fun j u hu => by
      rw [Addr.add_off a (hp a rfl j u hu).1]; exact (hp a rfl j u hu).2
    have holds : ∀ j u, xs[j]? = some u → w.cell? (b.add j) = some u := fun j u hu => by
      rw [Addr.add_off b (hpv b rfl j u hu).1]; exact (hpv b rfl j u hu).2
    have hlen : (xs ++ news).length = (n + m) * i.size := by rw [List.length_append, hlv, hl, Nat.add_mul]
    have hr := run_append_grow (P := P) w t ty e i z ht hi hz b n n xs hlv holds a m cap news hl hnews (by omega) (by omega) (growslice_fits (by omega) hbytes)
    have hge := grownCap_ge w (n + m) n e
    have hcm' : grownCap w (n + m) n e ≤ maxLen := grownCap_le_maxLen w (n + m) n e h63
    refine ⟨_, _, hr, ⟨hlen, .inr ⟨w.heap.size, _, _, rfl, Nat.le_refl _, heap_alloc_new w.drew _, hge, hcm', ?_, ?_⟩⟩, (below_drewN (Below.refl _ _) 1).alloc (by simp) _⟩
    · simp only [Array.size_append, List.size_toArray, size_zeroCells, hzs, hlv, hl, ← Nat.add_mul]
      congr 1
      omega
    · simp only [Array.toList_append, List.append_assoc]
      rw [← List.append_assoc, ← hlen]
      exact List.take_left

theorem wpList_append_full {w : World} {ops : Array Oper} {rest : List Oper} {o : Oper} {a : Act} {Q : Exit → Act → World → Prop} (hgd : o.guard = none) (s x : Operand) (t : TypeId)
    (ho : o.op = .call { callee := .builtin .append, args := #[s, x], argTypes := #[t, t] })
    (e : TypeId) (z : Value) (size bytes : Nat) (ht : P.underlying t = some (.slice e))
    (hinf : (P.info? e).map (fun i => (i.zero, i.size, i.bytes)) = some (some z, size, bytes)) (hzs : z.cells.size = size) (hsz : 0 < size)
    (b : Addr) (n : Nat) (xs : List Value) (hs : a.eval s = .slice (some b) n n) (hv : Rd w size (.slice (some b) n n) n xs)
    (xv : Value) (m : Nat) (news : List Value) (hx : a.eval x = xv) (hrd : Rd w size xv m news) (hm : 0 < m)
    (h63 : n + m ≤ maxLen) (hbytes : (n + m) * bytes ≤ 140737488355328)
    (h : ∀ (p' : Option Addr) (c' : Nat) w', w'.ownsRow w.heap.size e size (.slice p' (n + m) c') (n + m) (xs ++ news) → Below w.heap.size w w' → wpList P ops Q rest (a.put o.dst (.slice p' (n + m) c')) w') :
    wpList P ops Q (o :: rest) a w := by
  refine wpList_plain hgd fun K hK => ?_
  obtain ⟨v', w', hr, h2, h3⟩ := run_append_full (P := P) w t o.type e z size bytes ht hinf hzs hsz b n xs hv xv m news hrd hm h63 hbytes
  unfold Oper.wp execOp
  simp only [ho, resolve, invoke, builtin, Sem.run_bind, Sem.run_pure, Result.andThen_ok, List.map_toArray, List.map_cons, List.map_nil, hs, hx, hr]
  obtain ⟨p', c', rfl⟩ : ∃ p' c', v' = .slice p' (n + m) c' := by
    rcases h2.2 with ⟨h5, h6⟩ | ⟨g, cap, cur, h5, _⟩
    · exact ⟨none, 0, by rw [h5, h6]⟩
    · exact ⟨_, _, h5⟩
  exact hK _ _ (h p' c' w' h2 h3)
end

theorem ownsRow_lower {w : World} {base base' size n : Nat} {e : TypeId} {v : Value} {xs : List Value} (h : w.ownsRow base e size v n xs) (hb : base' ≤ base) : w.ownsRow base' e size v n xs :=
  ⟨h.1, h.2.elim Or.inl (fun ⟨g, cap, cur, hv, hg, r⟩ => Or.inr ⟨g, cap, cur, hv, Nat.le_trans hb hg, r⟩)⟩

theorem logSteps_get {ls : List (Int × List UInt8)} {j : Nat} {q : Int × List UInt8} (h : ls[j]? = some q) : (comSteps ls)[j]? = some (.write (1 + (j : Int)) (le8 q.1 ++ q.2)) := by
  have hlt := (List.getElem?_eq_some_iff.1 h).1
  unfold comSteps logSteps
  rw [List.getElem?_append_left (by simp; omega), List.getElem?_mapIdx, h]
  rfl
theorem comSteps_end (ls : List (Int × List UInt8)) : (comSteps ls)[ls.length]? = some .sync ∧ (comSteps ls)[ls.length + 1]? = some (.write 0 (markB ++ le8 ls.length)) ∧ (comSteps ls)[ls.length + 2]? = some .sync := by
  have hl : (logSteps ls).length = ls.length := logSteps_length ls
  unfold comSteps
  refine ⟨?_, ?_, ?_⟩ <;> rw [List.getElem?_append_right (by omega), hl]
  · rw [Nat.sub_self]; rfl
  · rw [Nat.add_sub_cancel_left]; rfl
  · rw [Nat.add_sub_cancel_left]; rfl
end Go.Proofs.Ytdilkgcoecipjaa

namespace Go.Proofs.Ytdilkgcoecipjaa
open Go.RowKit
set_option linter.unusedVariables false

theorem PutsAt.puts2 {W : Nat} {G fp : Nat → Prop} {ls : List (Int × List UInt8)} {bs : List Value} {w wr : World} {p : Option Addr} {m c : Nat} (h : PutsAt W G ls bs w wr (.slice p m c)) (hG : ∀ g, G g → ¬ fp g) (hfp : ∀ k, fp k → k < W ∨ wr.heap.size ≤ k) :
    IsPuts wr fp p ls ∧ PutsOut fp p := by
  obtain ⟨h1, h2, h3, h4, h5⟩ := h
  have hout : PutsOut fp p := fun ad had hf => by
    subst had
    have := h1.lt ad.block rfl
    have := hfp _ hf
    omega
  refine ⟨fun i hi => ?_, hout⟩
  obtain ⟨g, rfl⟩ : ∃ g, p = some ⟨g, 0, none⟩ := by
    rcases h1.2 with ⟨_, h6⟩ | ⟨g, cap, cur, h5, _⟩
    · omega
    · injection h5 with h5 _ _
      exact ⟨g, h5⟩
  have hq : ls[i]? = some (ls[i]'hi) := List.getElem?_eq_getElem _
  have hb : bs[i]? = some (bs[i]'(by rw [h2]; exact hi)) := List.getElem?_eq_getElem _
  have hc := putCells_get ls bs i _ _ hq hb
  have hcells := h1.cells (g := g) rfl
  have k0 := hcells _ _ hc.1
  have k1 := hcells _ _ hc.2
  rw [Addr.add_off _ rfl] at k0 k1
  have h9 := h3 i _ _ hq hb
  obtain ⟨_, p9, c9, he9, _⟩ := id h9.1
  refine ⟨g, 0, _, p9, c9, rfl, hq, k0, ?_, ?_⟩
  · rw [← he9, Nat.add_assoc]; exact k1
  · rw [← he9]; exact ⟨h9.1, fun hz g hg => hG g (h9.2 hz g hg).1⟩

theorem cmt_ops (n : Nat) (s : DS) (ls : List (Int × List UInt8)) (hl : ls.length ≤ 1000) : (cmt n s ls).1.ops ≤ s.ops + 2010 := by
  unfold cmt
  split
  · have h1 := runStps_ops n (comSteps ls) s
    rw [comSteps_length] at h1
    split
    · have h2 := runStps_ops n (finSteps ls) (runStps n s (comSteps ls)).1
      rw [finSteps_length] at h2
      push_cast at h1 h2; omega
    · push_cast at h1; omega
  · simp only; omega
theorem wf_small {x : Int} (h0 : 0 ≤ x) (h1 : x < 1000000) : (Lit.int .i64 x).wf = true := by
  simp [Lit.wf, IntKind.min, IntKind.max, IntKind.signed, IntKind.bits]
  omega
end Go.Proofs.Ytdilkgcoecipjaa

namespace Go.Proofs.Ytdilkgcoecipjaa
open Go.RowKit
set_option linter.unusedVariables false

theorem cntOf_zero (n : Nat) (b : List UInt8) (h : b.take 8 = List.replicate 8 0) : cntOf n b = 0 := by
  unfold cntOf
  rw [h, if_neg]
  rintro ⟨h1, _⟩
  exact absurd h1 (by decide)
theorem recov_none {n : Nat} {s : DS} (h : s.dead = false) (hc : cntOf n (row s.now 0) = 0) : recov n s = (s, 0, 0) := by
  unfold recov
  rw [if_neg (by rw [h]; decide), if_pos hc]
theorem z512_take : z512.take 8 = List.replicate 8 0 := by unfold z512; rw [List.take_replicate]; rfl
theorem recov_new {n : Nat} (h1 : 1 ≤ n) : recov n (dNew n) = (dNew n, 0, 0) :=
  recov_none rfl (cntOf_zero n _ (by
    have e : row (dNew n).now 0 = z512 := row_zero (by omega)
    rw [e, z512_take]))
theorem cmt_nil (n : Nat) (s : DS) : cmt n s [] = (s, 1) := rfl
end Go.Proofs.Ytdilkgcoecipjaa

namespace Go.Proofs.Ytdilkgcoecipjaa
open Go.RowKit
set_option linter.unusedVariables false

/-- a disk that is at rest, its sectors F -/
structure Rest (n : Nat) (s : DS) (F : List UInt8) : Prop where
  alive : s.dead = false
  since : s.since = []
  now : s.now = F
  kept : s.kept = F
  len : F.length = n * 512
/-- a disk without power; S: what was written since F -/
structure Gone (n : Nat) (s : DS) (F : List UInt8) (S : List (Nat × List UInt8)) : Prop where
  dead : s.dead = true
  kept : s.kept = F
  since : ∀ p ∈ s.since, p ∈ S
  len : F.length = n * 512

def prs (ws : List (Int × List UInt8)) : List (Nat × List UInt8) := ws.map fun q => (q.1.toNat, pad q.2)
def WsOk (n : Nat) (ws : List (Int × List UInt8)) : Prop := ∀ q ∈ ws, 0 ≤ q.1 ∧ q.1 < (n : Int) ∧ q.2.length ≤ 512
theorem prs_ok {n : Nat} {ws : List (Int × List UInt8)} (h : WsOk n ws) : ∀ p ∈ prs ws, p.1 < n ∧ p.2.length = 512 := by
  intro p hp
  obtain ⟨q, hq, rfl⟩ := List.mem_map.1 hp
  have := h q hq
  exact ⟨by show q.1.toNat < n; omega, pad_length this.2.2⟩

theorem runStps_append (n : Nat) (a b : List Stp) : ∀ s, runStps n s (a ++ b) = if (runStps n s a).2 = 0 then runStps n (runStps n s a).1 b else runStps n s a := by
  induction a with
  | nil => intro s; rw [List.nil_append, runStps, if_pos rfl]
  | cons x r ih =>
    intro s
    rw [List.cons_append, runStps, runStps]
    by_cases h : (doStp n s x).2 = 0
    · rw [if_pos h, if_pos h, ih]
    · rw [if_neg h, if_neg h, if_neg h]

theorem dStep_dead (s : DS) : (dStep s).dead = (if dStepGone s then true else (if s.stop < 1 then s.dead else false)) := by
  unfold dStep dStepGone
  by_cases h : s.stop < 1
  · rw [if_pos h, if_pos h]; simp [h]
  · rw [if_neg h, if_neg h]
    cases hb : (s.stop - 1 == 0) <;> simp [h]
theorem dStep_alive {s : DS} (h : s.dead = false) (hg : dStepGone s = false) : (dStep s).dead = false := by
  rw [dStep_dead, hg, if_neg (by decide), h]; simp
theorem dStep_gone {s : DS} (hg : dStepGone s = true) : (dStep s).dead = true := by rw [dStep_dead, hg, if_pos rfl]

/-- writes, one behind the other -/
theorem run_writes (n : Nat) (F : List UInt8) (hF : F.length = n * 512) : ∀ (ws : List (Int × List UInt8)) (W : List (Nat × List UInt8)) (s : DS), WsOk n ws → s.dead = false → s.kept = F → s.since = W → s.now = dAll W F →
    let r := runStps n s (homeSteps ws)
    ((r.2 = 0 ∧ r.1.dead = false ∧ r.1.kept = F ∧ r.1.since = W ++ prs ws ∧ r.1.now = dAll (W ++ prs ws) F) ∨
     (r.2 = 13 ∧ r.1.dead = true ∧ r.1.kept = F ∧ ∀ p ∈ r.1.since, p ∈ W ++ prs ws)) ∧
    (s.stop < 1 → r.2 = 0 ∧ r.1.stop = s.stop ∧ r.1.ops = s.ops + ws.length)
  | [], W, s, hw, hd, hk, hs, hn => by
    have e : runStps n s (homeSteps []) = (s, 0) := rfl
    rw [e]
    refine ⟨.inl ⟨rfl, hd, hk, by simpa [prs] using hs, by simpa [prs] using hn⟩, fun _ => ⟨rfl, rfl, by simp⟩⟩
  | q :: ws, W, s, hw, hd, hk, hs, hn => by
    have hq := hw q (List.mem_cons_self ..)
    have hw' : WsOk n ws := fun p hp => hw p (List.mem_cons_of_mem _ hp)
    have hdo : doStp n s (.write q.1 q.2) = (dStep (dWritten s q.1.toNat q.2), if dStepGone s then 13 else 0) := by
      show dWrite n s q.1 q.2 = _
      unfold dWrite
      rw [if_neg (by rw [hd]; decide), if_neg (by omega)]
    have hrun : runStps n s (homeSteps (q :: ws)) = if (doStp n s (.write q.1 q.2)).2 = 0 then runStps n (doStp n s (.write q.1 q.2)).1 (homeSteps ws) else doStp n s (.write q.1 q.2) := rfl
    have hgw : dStepGone (dWritten s q.1.toNat q.2) = dStepGone s := rfl
    have e1 : (dWritten s q.1.toNat q.2).since = W ++ [(q.1.toNat, pad q.2)] := by show s.since ++ _ = _; rw [hs]
    have e2 : (dWritten s q.1.toNat q.2).now = dAll (W ++ [(q.1.toNat, pad q.2)]) F := by
      show setRowAt s.now _ _ = _
      rw [hn, dAll_snoc]
    have hp : prs (q :: ws) = (q.1.toNat, pad q.2) :: prs ws := rfl
    rcases Bool.eq_false_or_eq_true (dStepGone s) with hg | hg
    · have h2 : ¬ (doStp n s (.write q.1 q.2)).2 = 0 := by rw [hdo, hg]; simp
      rw [hrun, if_neg h2, hdo, hg]
      refine ⟨.inr ⟨rfl, dStep_gone (hgw.trans hg), by rw [dStep_kept]; exact hk, ?_⟩, fun hst => ?_⟩
      · rw [dStep_since, e1, hp]
        intro p hp
        rcases List.mem_append.1 hp with h | h
        · exact List.mem_append_left _ h
        · rw [List.mem_singleton] at h; subst h
          exact List.mem_append_right _ (List.mem_cons_self ..)
      · rw [dStepGone_calm hst] at hg; cases hg
    · have h2 : (doStp n s (.write q.1 q.2)).2 = 0 := by rw [hdo, hg]; rfl
      rw [hrun, if_pos h2, hdo]
      have ih := run_writes n F hF ws (W ++ [(q.1.toNat, pad q.2)]) (dStep (dWritten s q.1.toNat q.2)) hw' (dStep_alive hd (hgw.trans hg)) (by rw [dStep_kept]; exact hk) (by rw [dStep_since]; exact e1) (by rw [dStep_now]; exact e2)
      have hpp : W ++ [(q.1.toNat, pad q.2)] ++ prs ws = W ++ prs (q :: ws) := by rw [hp, List.append_assoc]; rfl
      rw [hpp] at ih
      refine ⟨ih.1, fun hst => ?_⟩
      have hst2 : (dStep (dWritten s q.1.toNat q.2)).stop = s.stop := by rw [dStep_calm (show (dWritten s q.1.toNat q.2).stop < 1 from hst)]; rfl
      have h3 := ih.2 (by rw [hst2]; exact hst)
      refine ⟨h3.1, h3.2.1.trans hst2, ?_⟩
      rw [h3.2.2, dStep_ops]
      have : (dWritten s q.1.toNat q.2).ops = s.ops := rfl
      rw [this, List.length_cons]; push_cast; omega

def phase (ws : List (Int × List UInt8)) : List Stp := homeSteps ws ++ [.sync]

/-- writes, and a sync -/
theorem run_phase {n : Nat} {s : DS} {F : List UInt8} (hs : Rest n s F) {ws : List (Int × List UInt8)} (hw : WsOk n ws) :
    (((runStps n s (phase ws)).2 = 0 ∧ Rest n (runStps n s (phase ws)).1 (dAll (prs ws) F)) ∨ ((runStps n s (phase ws)).2 = 13 ∧ Gone n (runStps n s (phase ws)).1 F (prs ws))) ∧
    (s.stop < 1 → (runStps n s (phase ws)).2 = 0 ∧ (runStps n s (phase ws)).1.stop = s.stop ∧ (runStps n s (phase ws)).1.ops = s.ops + (ws.length + 1)) := by
  have h := run_writes n F hs.len ws [] s hw hs.alive hs.kept hs.since (by rw [hs.now]; rfl)
  simp only [List.nil_append] at h
  unfold phase
  rw [runStps_append]
  generalize hr : runStps n s (homeSteps ws) = r at h
  obtain ⟨h1, h2⟩ := h
  have hlen : (dAll (prs ws) F).length = n * 512 := dAll_length _ _ (prs_ok hw) hs.len
  rcases h1 with ⟨e0, ha, hk, hsi, hn⟩ | ⟨e13, hd, hk, hsi⟩
  · rw [if_pos e0]
    have hsy : runStps n r.1 [.sync] = dSync r.1 := by
      show (if (dSync r.1).2 = 0 then ((dSync r.1).1, (0 : Int)) else dSync r.1) = _
      by_cases h0 : (dSync r.1).2 = 0
      · rw [if_pos h0, ← h0]
      · rw [if_neg h0]
    rw [hsy]
    have hu : dSync r.1 = if dStepGone r.1 then (dStep r.1, 13) else (dSynced (dStep r.1), 0) := by unfold dSync; rw [if_neg (by rw [ha]; decide)]
    rw [hu]
    rcases Bool.eq_false_or_eq_true (dStepGone r.1) with hg | hg
    · rw [if_pos hg]
      refine ⟨.inr ⟨rfl, dStep_gone hg, by rw [dStep_kept]; exact hk, ?_, hs.len⟩, fun hst => ?_⟩
      · rw [dStep_since, hsi]; exact fun p hp => hp
      · have := h2 hst
        rw [dStepGone_calm (by omega)] at hg; cases hg
    · rw [if_neg (by rw [hg]; decide)]
      refine ⟨.inl ⟨rfl, ⟨dStep_alive ha hg, rfl, ?_, ?_, hlen⟩⟩, fun hst => ⟨rfl, ?_, ?_⟩⟩
      · show (dStep r.1).now = _; rw [dStep_now]; exact hn
      · show (dStep r.1).now = _; rw [dStep_now]; exact hn
      · have h3 := h2 hst
        show (dStep r.1).stop = _
        rw [dStep_calm (by omega)]; exact h3.2.1
      · have h3 := h2 hst
        show (dStep r.1).ops = _
        rw [dStep_ops, h3.2.2]; omega
  · rw [if_neg (by rw [e13]; decide)]
    refine ⟨.inr ⟨e13, hd, hk, hsi, hs.len⟩, fun hst => ?_⟩
    have := (h2 hst).1
    omega

/-- what a crash may leave of F, when S was written since -/
def Btw (n : Nat) (F : List UInt8) (S : List (Nat × List UInt8)) (F' : List UInt8) : Prop :=
  F'.length = n * 512 ∧ ∀ k, k < n → row F' k = row F k ∨ ∃ p ∈ S, p.1 = k ∧ row F' k = p.2

theorem dKept_btw {n : Nat} {S : List (Nat × List UInt8)} (hS : ∀ p ∈ S, p.1 < n ∧ p.2.length = 512) : ∀ (bs : List Bool) (ps : List (Nat × List UInt8)) (F : List UInt8), F.length = n * 512 → (∀ p ∈ ps, p ∈ S) →
    ∀ F0, Btw n F0 S F → Btw n F0 S (dKept bs ps F)
  | [], ps, F, hF, hp, F0, h => by rw [dKept_nil1]; exact h
  | b :: bs, [], F, hF, hp, F0, h => by rw [dKept_nil2]; exact h
  | b :: bs, p :: ps, F, hF, hp, F0, h => by
    have hp0 := hS p (hp p (List.mem_cons_self ..))
    have hps : ∀ q ∈ ps, q ∈ S := fun q hq => hp q (List.mem_cons_of_mem _ hq)
    show Btw n F0 S (dKept bs ps (if b then setRowAt F p.1 p.2 else F))
    cases b with
    | false => exact dKept_btw hS bs ps F hF hps F0 h
    | true =>
      rw [if_pos rfl]
      have hk512 : (p.1 + 1) * 512 ≤ n * 512 := Nat.mul_le_mul_right _ hp0.1
      have hl : (setRowAt F p.1 p.2).length = n * 512 := (splice_length _ _ _ (by rw [hp0.2, hF]; omega)).trans hF
      refine dKept_btw hS bs ps _ hl hps F0 ⟨hl, fun k hk => ?_⟩
      rw [row_set hF hp0.1 hp0.2]
      by_cases e : p.1 = k
      · rw [if_pos e]; exact .inr ⟨p, hp p (List.mem_cons_self ..), e, rfl⟩
      · rw [if_neg e]; exact h.2 k hk

theorem Btw.refl {n : Nat} {F : List UInt8} {S : List (Nat × List UInt8)} (h : F.length = n * 512) : Btw n F S F := ⟨h, fun _ _ => .inl rfl⟩

theorem Gone.crash {n : Nat} {s : DS} {F : List UInt8} {S : List (Nat × List UInt8)} (h : Gone n s F S) (hS : ∀ p ∈ S, p.1 < n ∧ p.2.length = 512) (keep : List Bool) : ∃ F', Btw n F S F' ∧ Rest n (dCrash s keep) F' ∧ (dCrash s keep).stop = 0 := by
  have h1 := dKept_btw hS keep s.since s.kept (by rw [h.kept]; exact h.len) h.since F (by rw [h.kept]; exact Btw.refl h.len)
  exact ⟨_, h1, ⟨rfl, rfl, rfl, rfl, h1.1⟩, rfl⟩
theorem Rest.crash {n : Nat} {s : DS} {F : List UInt8} (h : Rest n s F) (keep : List Bool) : Rest n (dCrash s keep) F ∧ (dCrash s keep).stop = 0 := by
  have e : dKept keep s.since s.kept = F := by rw [h.since, dKept_nil2, h.kept]
  exact ⟨⟨rfl, rfl, e, e, h.len⟩, rfl⟩

theorem row_dAll {n k : Nat} {b : List UInt8} : ∀ (ps : List (Nat × List UInt8)) (F : List UInt8), F.length = n * 512 → (∀ p ∈ ps, p.1 < n ∧ p.2.length = 512) → (∀ p ∈ ps, p.1 = k → p.2 = b) → (row F k = b ∨ ∃ p ∈ ps, p.1 = k) → row (dAll ps F) k = b
  | [], F, hF, hp, hb, h => by
    rcases h with h | ⟨p, hp, _⟩
    · exact h
    · cases hp
  | p :: ps, F, hF, hp, hb, h => by
    have hp0 := hp p (List.mem_cons_self ..)
    have hk512 : (p.1 + 1) * 512 ≤ n * 512 := Nat.mul_le_mul_right _ hp0.1
    have hl : (setRowAt F p.1 p.2).length = n * 512 := (splice_length _ _ _ (by rw [hp0.2, hF]; omega)).trans hF
    show row (dAll ps (setRowAt F p.1 p.2)) k = b
    refine row_dAll ps _ hl (fun q hq => hp q (List.mem_cons_of_mem _ hq)) (fun q hq => hb q (List.mem_cons_of_mem _ hq)) ?_
    rw [row_set hF hp0.1 hp0.2]
    by_cases e : p.1 = k
    · rw [if_pos e]; exact .inl (hb p (List.mem_cons_self ..) e)
    · rw [if_neg e]
      rcases h with h | ⟨q, hq, hk⟩
      · exact .inl h
      · rcases List.mem_cons.1 hq with rfl | hq
        · exact absurd hk e
        · exact .inr ⟨q, hq, hk⟩
theorem row_dAll_out {n k : Nat} {ps : List (Nat × List UInt8)} {F : List UInt8} (hF : F.length = n * 512) (hp : ∀ p ∈ ps, p.1 < n ∧ p.2.length = 512) (h : ∀ p ∈ ps, p.1 ≠ k) : row (dAll ps F) k = row F k :=
  row_dAll ps F hF hp (fun p hp e => absurd e (h p hp)) (.inl rfl)
end Go.Proofs.Ytdilkgcoecipjaa

namespace Go.Proofs.Ytdilkgcoecipjaa
open Go.RowKit
set_option linter.unusedVariables false

structure LOk (n : Nat) (ls : List (Int × List UInt8)) : Prop where
  len1 : 1 ≤ ls.length
  len : ls.length ≤ 400
  each : ∀ q ∈ ls, 401 ≤ q.1 ∧ q.1 < (n : Int) ∧ q.2.length ≤ 504
  dist : ls.Pairwise (fun a b => a.1 ≠ b.1)

theorem LOk.chk {n : Nat} {ls : List (Int × List UInt8)} (h : LOk n ls) : chk n ls = 0 := by
  have go : ∀ (ls before : List (Int × List UInt8)), (∀ q ∈ ls, 401 ≤ q.1 ∧ q.1 < (n : Int) ∧ q.2.length ≤ 504) → ls.Pairwise (fun a b => a.1 ≠ b.1) → (∀ p ∈ before, ∀ q ∈ ls, p.1 ≠ q.1) → scanPuts n before ls = 0 := by
    intro ls
    induction ls with
    | nil => intro before _ _ _; rfl
    | cons q r ih =>
      intro before h1 h2 h3
      have hq := h1 q (List.mem_cons_self ..)
      have ha : before.any (fun p => p.1 == q.1) = false := by
        rw [List.any_eq_false]
        intro p hp
        have := h3 p hp q (List.mem_cons_self ..)
        simpa using this
      have hok : okAt n before q = true := by
        unfold okAt
        rw [ha]
        simp
        omega
      rw [scanPuts, if_pos hok]
      rw [List.pairwise_cons] at h2
      refine ih _ (fun q hq => h1 q (List.mem_cons_of_mem _ hq)) h2.2 (fun p hp x hx => ?_)
      rcases List.mem_append.1 hp with hp | hp
      · exact h3 p hp x (List.mem_cons_of_mem _ hx)
      · rw [List.mem_singleton] at hp; subst hp
        exact h2.1 x hx
  unfold Go.Proofs.Ytdilkgcoecipjaa.chk
  rw [if_neg (by have := h.len1; omega), if_neg (by have := h.len; omega)]
  exact go ls [] h.each h.dist (fun p hp => by cases hp)

theorem scanPuts_dist {n : Nat} : ∀ (ls before : List (Int × List UInt8)), scanPuts n before ls = 0 → ls.Pairwise (fun a b => a.1 ≠ b.1) ∧ ∀ p ∈ before, ∀ q ∈ ls, p.1 ≠ q.1
  | [], before, h => ⟨List.Pairwise.nil, fun p hp q hq => by cases hq⟩
  | q :: r, before, h => by
    rw [scanPuts] at h
    split at h
    · rename_i hok
      have ih := scanPuts_dist r _ h
      have hany : before.any (fun p => p.1 == q.1) = false := by
        unfold okAt at hok
        rw [Bool.and_eq_true, Bool.and_eq_true] at hok
        simpa using hok.1.2
      rw [List.any_eq_false] at hany
      refine ⟨List.pairwise_cons.2 ⟨fun x hx => ih.2 q (List.mem_append_right _ (List.mem_singleton.2 rfl)) x hx, ih.1⟩, fun p hp x hx => ?_⟩
      rcases List.mem_cons.1 hx with rfl | hx
      · have := hany p hp; simpa using this
      · exact ih.2 p (List.mem_append_left _ hp) x hx
    · omega
theorem LOk.of {n : Nat} {ls : List (Int × List UInt8)} (h : Go.Proofs.Ytdilkgcoecipjaa.chk n ls = 0) : LOk n ls := by
  obtain ⟨h1, h2, h3⟩ := chk_zero h
  have h4 : scanPuts n [] ls = 0 := by
    unfold Go.Proofs.Ytdilkgcoecipjaa.chk at h
    rwa [if_neg h2, if_neg (by omega)] at h
  exact ⟨by omega, h1, h3, (scanPuts_dist ls [] h4).1⟩

theorem LOk.same {n : Nat} {ls : List (Int × List UInt8)} (h : LOk n ls) {p q : Int × List UInt8} (hp : p ∈ ls) (hq : q ∈ ls) (he : p.1 = q.1) : p = q := by
  have hd := h.dist
  clear h
  induction ls with
  | nil => cases hp
  | cons x r ih =>
    rw [List.pairwise_cons] at hd
    rcases List.mem_cons.1 hp with e1 | hp1 <;> rcases List.mem_cons.1 hq with e2 | hq1
    · rw [e1, e2]
    · rw [e1] at he; exact absurd he (hd.1 q hq1)
    · rw [e2] at he; exact absurd he.symm (hd.1 p hp1)
    · exact ih hp1 hq1 hd.2

def headB (ls : List (Int × List UInt8)) : List UInt8 := markB ++ le8 ls.length
def logWs (ls : List (Int × List UInt8)) : List (Int × List UInt8) := ls.mapIdx fun i q => (1 + (i : Int), le8 q.1 ++ q.2)
theorem comSteps_eq (ls : List (Int × List UInt8)) : comSteps ls = phase (logWs ls) ++ phase [(0, headB ls)] := by
  have e : homeSteps (logWs ls) = logSteps ls := by
    apply List.ext_getElem?
    intro i
    simp only [homeSteps, logWs, logSteps, List.getElem?_map, List.getElem?_mapIdx, Option.map_map]
    rfl
  unfold phase comSteps
  rw [e, List.append_assoc]
  rfl
theorem finSteps_eq (ls : List (Int × List UInt8)) : finSteps ls = phase ls ++ phase [(0, [])] := by
  unfold phase finSteps
  rw [List.append_assoc]
  rfl

theorem logWs_mem {ls : List (Int × List UInt8)} {p : Int × List UInt8} (h : p ∈ logWs ls) : ∃ (i : Nat) (q : Int × List UInt8), ls[i]? = some q ∧ p = (1 + (i : Int), le8 q.1 ++ q.2) := by
  obtain ⟨i, hi, rfl⟩ := List.mem_iff_getElem.1 h
  have hi' : i < ls.length := by simpa [logWs] using hi
  exact ⟨i, ls[i], List.getElem?_eq_getElem hi', by simp [logWs]⟩
theorem logWs_get {ls : List (Int × List UInt8)} {i : Nat} {q : Int × List UInt8} (h : ls[i]? = some q) : (1 + (i : Int), le8 q.1 ++ q.2) ∈ logWs ls := by
  obtain ⟨hi, rfl⟩ := List.getElem?_eq_some_iff.1 h
  refine List.mem_iff_getElem.2 ⟨i, by simpa [logWs] using hi, by simp [logWs]⟩
theorem logWs_length (ls : List (Int × List UInt8)) : (logWs ls).length = ls.length := by simp [logWs]

theorem LOk.n {n : Nat} {ls : List (Int × List UInt8)} (h : LOk n ls) : 402 ≤ n := by
  have h1 := h.len1
  have := h.each ls[0] (List.getElem_mem h1)
  omega
theorem LOk.logOk {n : Nat} {ls : List (Int × List UInt8)} (h : LOk n ls) : WsOk n (logWs ls) := fun p hp => by
  obtain ⟨i, q, hq, rfl⟩ := logWs_mem hp
  have h1 := h.each q (List.mem_of_getElem? hq)
  have h2 := (List.getElem?_eq_some_iff.1 hq).1
  have h3 := h.len
  have h4 := h.n
  refine ⟨by show 0 ≤ 1 + (i : Int); omega, by show 1 + (i : Int) < (n : Int); omega, ?_⟩
  show (le8 q.1 ++ q.2).length ≤ 512
  rw [List.length_append, le8_length]; omega
theorem LOk.headOk {n : Nat} {ls : List (Int × List UInt8)} (h : LOk n ls) : WsOk n [(0, headB ls)] := fun p hp => by
  rw [List.mem_singleton] at hp; subst hp
  have h4 := h.n
  refine ⟨Int.le_refl _, by show (0 : Int) < n; omega, ?_⟩
  show (markB ++ le8 _).length ≤ 512
  rw [List.length_append, le8_length]; decide
theorem zeroOk {n : Nat} (h : 402 ≤ n) : WsOk n [(0, [])] := fun p hp => by
  rw [List.mem_singleton] at hp; subst hp
  exact ⟨Int.le_refl _, by show (0 : Int) < n; omega, by simp⟩
theorem LOk.homesOk' {n : Nat} {ls : List (Int × List UInt8)} (h : LOk n ls) : WsOk n ls := fun q hq => by
  have := h.each q hq
  omega

def haf (ls : List (Int × List UInt8)) (F : List UInt8) (k : Nat) : List UInt8 :=
  match ls.find? (fun q => q.1 == (k : Int)) with
  | some q => pad q.2
  | none => row F k
theorem haf_in {n : Nat} {ls : List (Int × List UInt8)} (h : LOk n ls) {F : List UInt8} {k : Nat} {q : Int × List UInt8} (hq : q ∈ ls) (hk : q.1 = (k : Int)) : haf ls F k = pad q.2 := by
  unfold haf
  cases hf : ls.find? (fun q => q.1 == (k : Int)) with
  | none =>
    have := List.find?_eq_none.1 hf q hq
    simp [hk] at this
  | some p =>
    have h1 := List.find?_some hf
    have h2 := List.mem_of_find?_eq_some hf
    have h3 : p.1 = q.1 := by rw [hk]; simpa using h1
    rw [h.same h2 hq h3]
theorem haf_out {ls : List (Int × List UInt8)} {F : List UInt8} {k : Nat} (h : ∀ q ∈ ls, q.1 ≠ (k : Int)) : haf ls F k = row F k := by
  unfold haf
  have hf : ls.find? (fun q => q.1 == (k : Int)) = none := by
    rw [List.find?_eq_none]
    intro q hq
    have := h q hq
    simpa using this
  rw [hf]

def PA (n : Nat) (K F : List UInt8) : Prop := row F 0 = z512 ∧ ∀ k, 401 ≤ k → k < n → row F k = row K k
def PB (n : Nat) (ls : List (Int × List UInt8)) (K F : List UInt8) : Prop :=
  row F 0 = pad (headB ls) ∧ (∀ (i : Nat) (q : Int × List UInt8), ls[i]? = some q → row F (1 + i) = pad (le8 q.1 ++ q.2)) ∧ ∀ k, 401 ≤ k → k < n → (∀ q ∈ ls, q.1 ≠ (k : Int)) → row F k = row K k
def PC (n : Nat) (ls : List (Int × List UInt8)) (K F : List UInt8) : Prop := row F 0 = z512 ∧ ∀ k, 401 ≤ k → k < n → row F k = haf ls K k

theorem pad_nil : pad [] = z512 := rfl

/-- homes written, the head struck -/
theorem fin_run {n : Nat} {ls ls' : List (Int × List UInt8)} (h : LOk n ls) (hp : prs ls' = prs ls) (hw' : WsOk n ls') (hl' : ls'.length = ls.length) {s : DS} {F K : List UInt8} (hs : Rest n s F) (hF : PB n ls K F) :
    (((runStps n s (finSteps ls')).2 = 0 ∧ ∃ F', Rest n (runStps n s (finSteps ls')).1 F' ∧ PC n ls K F') ∨
     ((runStps n s (finSteps ls')).2 = 13 ∧ ∃ F1 S, Gone n (runStps n s (finSteps ls')).1 F1 S ∧ (∀ p ∈ S, p.1 < n ∧ p.2.length = 512) ∧ ∀ F', Btw n F1 S F' → PB n ls K F' ∨ PC n ls K F')) ∧
    (s.stop < 1 → (runStps n s (finSteps ls')).2 = 0 ∧ (runStps n s (finSteps ls')).1.stop = s.stop ∧ (runStps n s (finSteps ls')).1.ops = s.ops + (ls.length + 3)) := by
  have hn := h.n
  have hz := zeroOk hn
  have hprs := prs_ok h.homesOk'
  have hpz := prs_ok hz
  rw [finSteps_eq, runStps_append]
  obtain ⟨h1, h2⟩ := run_phase hs hw'
  rw [hp] at h1
  generalize hr : runStps n s (phase ls') = r at h1 h2
  have inHomes : ∀ p ∈ prs ls, ∃ q ∈ ls, p = (q.1.toNat, pad q.2) ∧ 401 ≤ p.1 ∧ ((p.1 : Int) = q.1) := fun p hp => by
    obtain ⟨q, hq, rfl⟩ := List.mem_map.1 hp
    have := h.each q hq
    exact ⟨q, hq, rfl, by show 401 ≤ q.1.toNat; omega, by show ((q.1.toNat : Nat) : Int) = q.1; omega⟩
  rcases h1 with ⟨e0, hr1⟩ | ⟨e13, hg⟩
  · rw [if_pos e0]
    obtain ⟨h3, h4⟩ := run_phase hr1 hz
    -- the homes are whole
    have f0 : row (dAll (prs ls) F) 0 = pad (headB ls) := (row_dAll_out hs.len hprs (fun p hp he => by obtain ⟨q, hq, _, h9, _⟩ := inHomes p hp; omega)).trans hF.1
    have fl : ∀ (i : Nat) (q : Int × List UInt8), ls[i]? = some q → row (dAll (prs ls) F) (1 + i) = pad (le8 q.1 ++ q.2) := fun i q hq => by
      have h9 := (List.getElem?_eq_some_iff.1 hq).1
      have h8 := h.len
      exact (row_dAll_out hs.len hprs (fun p hp he => by obtain ⟨q, hq, _, h9, _⟩ := inHomes p hp; omega)).trans (hF.2.1 i q hq)
    have fh : ∀ k, 401 ≤ k → k < n → row (dAll (prs ls) F) k = haf ls K k := fun k hk1 hk2 => by
      by_cases hin : ∃ q ∈ ls, q.1 = (k : Int)
      · obtain ⟨q, hq, he⟩ := hin
        rw [haf_in h hq he]
        refine row_dAll _ _ hs.len hprs (fun p hp he2 => ?_) (.inr ⟨(q.1.toNat, pad q.2), List.mem_map.2 ⟨q, hq, rfl⟩, by show q.1.toNat = k; omega⟩)
        obtain ⟨q2, hq2, rfl, _, h9⟩ := inHomes p hp
        have : q2 = q := h.same hq2 hq (by omega)
        rw [this]
      · have hno : ∀ q ∈ ls, q.1 ≠ (k : Int) := fun q hq he => hin ⟨q, hq, he⟩
        rw [haf_out hno, row_dAll_out hs.len hprs (fun p hp he => by
          obtain ⟨q, hq, _, _, h9⟩ := inHomes p hp
          exact hno q hq (by omega))]
        exact hF.2.2 k hk1 hk2 hno
    refine ⟨?_, fun hst => ?_⟩
    · rcases h3 with ⟨e0', hr2⟩ | ⟨e13', hg⟩
      · refine .inl ⟨e0', _, hr2, ?_, fun k hk1 hk2 => ?_⟩
        · refine row_dAll _ _ hr1.len hpz (fun p hp _ => ?_) (.inr ⟨(0, pad []), List.mem_singleton.2 rfl, rfl⟩)
          rw [show p = (0, pad []) from List.mem_singleton.1 hp]; rfl
        · rw [row_dAll_out hr1.len hpz (fun p hp he => by rw [show p = (0, pad []) from List.mem_singleton.1 hp] at he; have : (0 : Nat) = k := he; omega)]
          exact fh k hk1 hk2
      · refine .inr ⟨e13', _, _, hg, hpz, fun F' hb => ?_⟩
        have other : ∀ k, 1 ≤ k → k < n → row F' k = row (dAll (prs ls) F) k := fun k hk1 hk2 => by
          rcases hb.2 k hk2 with h9 | ⟨p, hp, he, _⟩
          · exact h9
          · rw [show p = (0, pad []) from List.mem_singleton.1 hp] at he
            have : (0 : Nat) = k := he
            omega
        rcases hb.2 0 (by omega) with h9 | ⟨p, hp, he, h9⟩
        · left
          refine ⟨h9.trans f0, fun i q hq => ?_, fun k hk1 hk2 hno => ?_⟩
          · have h8 := (List.getElem?_eq_some_iff.1 hq).1
            have h7 := h.len
            rw [other _ (by omega) (by omega)]; exact fl i q hq
          · rw [other _ (by omega) hk2, fh k hk1 hk2, haf_out hno]
        · right
          rw [show p = (0, pad []) from List.mem_singleton.1 hp] at h9
          exact ⟨h9, fun k hk1 hk2 => by rw [other _ (by omega) hk2]; exact fh k hk1 hk2⟩
    · have h5 := h2 hst
      have h6 := h4 (by rw [h5.2.1]; exact hst)
      refine ⟨h6.1, h6.2.1.trans h5.2.1, ?_⟩
      rw [h6.2.2, h5.2.2, hl', List.length_singleton]
      omega
  · rw [if_neg (by rw [e13]; decide)]
    refine ⟨.inr ⟨e13, _, _, hg, hprs, fun F' hb => .inl ⟨?_, fun i q hq => ?_, fun k hk1 hk2 hno => ?_⟩⟩, fun hst => ?_⟩
    · rcases hb.2 0 (by omega) with h9 | ⟨p, hp, he, _⟩
      · exact h9.trans hF.1
      · obtain ⟨q, hq, _, h9, _⟩ := inHomes p hp; omega
    · have h8 := (List.getElem?_eq_some_iff.1 hq).1
      have h7 := h.len
      rcases hb.2 (1 + i) (by omega) with h9 | ⟨p, hp, he, _⟩
      · exact h9.trans (hF.2.1 i q hq)
      · obtain ⟨q, hq, _, h9, _⟩ := inHomes p hp; omega
    · rcases hb.2 k hk2 with h9 | ⟨p, hp, he, _⟩
      · exact h9.trans (hF.2.2 k hk1 hk2 hno)
      · obtain ⟨q, hq, _, _, h9⟩ := inHomes p hp
        exact absurd (by omega) (hno q hq)
    · have := (h2 hst).1
      omega
end Go.Proofs.Ytdilkgcoecipjaa

namespace Go.Proofs.Ytdilkgcoecipjaa
open Go.RowKit
set_option linter.unusedVariables false

def CrashOk (n : Nat) (s : DS) (P : List UInt8 → Prop) : Prop := ∃ F S, Gone n s F S ∧ (∀ p ∈ S, p.1 < n ∧ p.2.length = 512) ∧ ∀ F', Btw n F S F' → P F'

theorem CrashOk.crash {n : Nat} {s : DS} {P : List UInt8 → Prop} (h : CrashOk n s P) (keep : List Bool) : ∃ F', P F' ∧ Rest n (dCrash s keep) F' ∧ (dCrash s keep).stop = 0 := by
  obtain ⟨F, S, hg, hS, hP⟩ := h
  obtain ⟨F', hb, hr⟩ := hg.crash hS keep
  exact ⟨F', hP F' hb, hr⟩
theorem CrashOk.mono {n : Nat} {s : DS} {P Q : List UInt8 → Prop} (h : CrashOk n s P) (hPQ : ∀ F, P F → Q F) : CrashOk n s Q := by
  obtain ⟨F, S, hg, hS, hP⟩ := h
  exact ⟨F, S, hg, hS, fun F' hb => hPQ _ (hP F' hb)⟩

def PAny (n : Nat) (ls : List (Int × List UInt8)) (K F : List UInt8) : Prop := PA n K F ∨ PB n ls K F ∨ PC n ls K F

theorem com_run {n : Nat} {ls : List (Int × List UInt8)} (h : LOk n ls) {s : DS} {K : List UInt8} (hs : Rest n s K) (h0 : row K 0 = z512) :
    (((cmt n s ls).2 = 0 ∧ ∃ F, Rest n (cmt n s ls).1 F ∧ PC n ls K F) ∨ ((cmt n s ls).2 = 13 ∧ CrashOk n (cmt n s ls).1 (PAny n ls K))) ∧
    (s.stop < 1 → (cmt n s ls).2 = 0 ∧ (cmt n s ls).1.stop = s.stop ∧ (cmt n s ls).1.ops = s.ops + (2 * ls.length + 6)) := by
  have hn := h.n
  have hlw := h.logOk
  have hhw := h.headOk
  have plw := prs_ok hlw
  have phw := prs_ok hhw
  have hlen := h.len
  have inLog : ∀ p ∈ prs (logWs ls), ∃ (i : Nat) (q : Int × List UInt8), ls[i]? = some q ∧ p = (1 + i, pad (le8 q.1 ++ q.2)) ∧ i < ls.length := fun p hp => by
    obtain ⟨w, hw, rfl⟩ := List.mem_map.1 hp
    obtain ⟨i, q, hq, rfl⟩ := logWs_mem hw
    refine ⟨i, q, hq, ?_, (List.getElem?_eq_some_iff.1 hq).1⟩
    show ((1 + (i : Int)).toNat, pad (le8 q.1 ++ q.2)) = _
    rw [show (1 + (i : Int)).toNat = 1 + i by omega]
  have ecmt : cmt n s ls = if (runStps n s (comSteps ls)).2 = 0 then runStps n (runStps n s (comSteps ls)).1 (finSteps ls) else runStps n s (comSteps ls) := by
    unfold cmt; rw [if_pos h.chk]
  rw [ecmt, comSteps_eq, runStps_append]
  obtain ⟨h1, h2⟩ := run_phase hs hlw
  generalize hr : runStps n s (phase (logWs ls)) = r at h1 h2
  rcases h1 with ⟨e0, hr1⟩ | ⟨e13, hg⟩
  · simp only [e0, if_true]
    obtain ⟨h3, h4⟩ := run_phase hr1 hhw
    generalize hr2 : runStps n r.1 (phase [(0, headB ls)]) = r2 at h3 h4
    have k0 : row (dAll (prs (logWs ls)) K) 0 = z512 := (row_dAll_out hs.len plw (fun p hp he => by obtain ⟨i, q, _, rfl, _⟩ := inLog p hp; have : 1 + i = 0 := he; omega)).trans h0
    have kl : ∀ (i : Nat) (q : Int × List UInt8), ls[i]? = some q → row (dAll (prs (logWs ls)) K) (1 + i) = pad (le8 q.1 ++ q.2) := fun i q hq => by
      refine row_dAll _ _ hs.len plw (fun p hp he => ?_) (.inr ⟨(1 + i, pad (le8 q.1 ++ q.2)), List.mem_map.2 ⟨_, logWs_get hq, ?_⟩, rfl⟩)
      · obtain ⟨i2, q2, hq2, rfl, _⟩ := inLog p hp
        have e : i2 = i := by have : 1 + i2 = 1 + i := he; omega
        subst e
        rw [Option.some.inj (hq2.symm.trans hq)]
      · show ((1 + (i : Int)).toNat, pad (le8 q.1 ++ q.2)) = _
        rw [show (1 + (i : Int)).toNat = 1 + i by omega]
    have kh : ∀ k, 401 ≤ k → k < n → row (dAll (prs (logWs ls)) K) k = row K k := fun k hk1 hk2 =>
      row_dAll_out hs.len plw (fun p hp he => by obtain ⟨i, q, _, rfl, _⟩ := inLog p hp; have : 1 + i = k := he; omega)
    rcases h3 with ⟨e0', hr3⟩ | ⟨e13', hg⟩
    · simp only [e0', if_true]
      have hPB : PB n ls K (dAll (prs [(0, headB ls)]) (dAll (prs (logWs ls)) K)) := by
        refine ⟨?_, fun i q hq => ?_, fun k hk1 hk2 _ => ?_⟩
        · refine row_dAll _ _ hr1.len phw (fun p hp _ => ?_) (.inr ⟨(0, pad (headB ls)), List.mem_singleton.2 rfl, rfl⟩)
          rw [show p = (0, pad (headB ls)) from List.mem_singleton.1 hp]
        · rw [row_dAll_out hr1.len phw (fun p hp he => by rw [show p = (0, pad (headB ls)) from List.mem_singleton.1 hp] at he; have : 0 = 1 + i := he; omega)]
          exact kl i q hq
        · rw [row_dAll_out hr1.len phw (fun p hp he => by rw [show p = (0, pad (headB ls)) from List.mem_singleton.1 hp] at he; have : 0 = k := he; omega)]
          exact kh k hk1 hk2
      obtain ⟨h5, h6⟩ := fin_run h rfl h.homesOk' rfl hr3 hPB
      refine ⟨?_, fun hst => ?_⟩
      · rcases h5 with h5 | ⟨e5, F1, S, hg, hS, hF⟩
        · exact .inl h5
        · exact .inr ⟨e5, F1, S, hg, hS, fun F' hb => .inr (hF F' hb)⟩
      · have h7 := h2 hst
        have h8 := h4 (by rw [h7.2.1]; exact hst)
        have h9 := h6 (by rw [h8.2.1, h7.2.1]; exact hst)
        refine ⟨h9.1, h9.2.1.trans (h8.2.1.trans h7.2.1), ?_⟩
        rw [h9.2.2, h8.2.2, h7.2.2, logWs_length, List.length_singleton]
        omega
    · have hne : ¬ r2.2 = 0 := by rw [e13']; decide
      simp only [hne, if_false]
      refine ⟨.inr ⟨e13', _, _, hg, phw, fun F' hb => ?_⟩, fun hst => ?_⟩
      · have other : ∀ k, 1 ≤ k → k < n → row F' k = row (dAll (prs (logWs ls)) K) k := fun k hk1 hk2 => by
          rcases hb.2 k hk2 with h9 | ⟨p, hp, he, _⟩
          · exact h9
          · rw [show p = (0, pad (headB ls)) from List.mem_singleton.1 hp] at he
            have : (0 : Nat) = k := he
            omega
        rcases hb.2 0 (by omega) with h9 | ⟨p, hp, he, h9⟩
        · exact .inl ⟨h9.trans k0, fun k hk1 hk2 => by rw [other k (by omega) hk2]; exact kh k hk1 hk2⟩
        · rw [show p = (0, pad (headB ls)) from List.mem_singleton.1 hp] at h9
          refine .inr (.inl ⟨h9, fun i q hq => ?_, fun k hk1 hk2 _ => ?_⟩)
          · have h8 := (List.getElem?_eq_some_iff.1 hq).1
            rw [other _ (by omega) (by omega)]; exact kl i q hq
          · rw [other k (by omega) hk2]; exact kh k hk1 hk2
      · have h7 := h2 hst
        have h8 := h4 (by rw [h7.2.1]; exact hst)
        omega
  · have hne : ¬ r.2 = 0 := by rw [e13]; decide
    simp only [hne, if_false]
    refine ⟨.inr ⟨e13, _, _, hg, plw, fun F' hb => .inl ⟨?_, fun k hk1 hk2 => ?_⟩⟩, fun hst => ?_⟩
    · rcases hb.2 0 (by omega) with h9 | ⟨p, hp, he, _⟩
      · exact h9.trans h0
      · obtain ⟨i, q, _, rfl, _⟩ := inLog p hp; have : 1 + i = 0 := he; omega
    · rcases hb.2 k hk2 with h9 | ⟨p, hp, he, _⟩
      · exact h9
      · obtain ⟨i, q, _, rfl, _⟩ := inLog p hp; have : 1 + i = k := he; omega
    · have := (h2 hst).1
      omega

theorem recov_rest {n : Nat} {s : DS} {F : List UInt8} (hs : Rest n s F) (h0 : row F 0 = z512) : recov n s = (s, 0, 0) :=
  recov_none hs.alive (cntOf_zero n _ (by rw [hs.now, h0, z512_take]))

theorem headB_length (ls : List (Int × List UInt8)) : (headB ls).length = 16 := by
  unfold headB
  rw [List.length_append, le8_length]
  rfl
theorem pad_take {a b : List UInt8} {k : Nat} (h : a.length = k) : (pad (a ++ b)).take k = a := by
  unfold pad
  rw [List.append_assoc, List.take_left' h]
theorem pad_drop {a b : List UInt8} {k : Nat} (h : a.length = k) : (pad (a ++ b)).drop k = b ++ List.replicate (512 - (a ++ b).length) 0 := by
  unfold pad
  rw [List.append_assoc, List.drop_left' h]
theorem num_le8s {z : Int} (h0 : -9223372036854775808 ≤ z) (h1 : z ≤ 9223372036854775807) : wrap64 (num (le8 z) : Nat) = z := num8 z h0 h1

theorem cntOf_head {n : Nat} {ls : List (Int × List UInt8)} (h : LOk n ls) : cntOf n (pad (headB ls)) = (ls.length : Int) := by
  have h1 := h.len1
  have h2 := h.len
  have h3 := h.n
  have hh : headN (pad (headB ls)) = (ls.length : Int) := by
    unfold headN headB
    rw [pad_drop (show markB.length = 8 from rfl), List.take_left' (le8_length _), num_le8s (by omega) (by omega)]
  unfold cntOf
  rw [hh, if_pos]
  refine ⟨?_, by omega, by omega, by omega⟩
  unfold headB
  rw [pad_take (show markB.length = 8 from rfl)]
  decide

def padL (ls : List (Int × List UInt8)) : List (Int × List UInt8) := ls.map fun q => (q.1, pad504 q.2)
theorem logOf_PB {n : Nat} {ls : List (Int × List UInt8)} {K F : List UInt8} (h : LOk n ls) (hn : n ≤ 3000) (hF : PB n ls K F) : logOf F ls.length = padL ls := by
  apply List.ext_getElem?
  intro i
  rcases Nat.lt_or_ge i ls.length with hi | hi
  · have hq : ls[i]? = some ls[i] := List.getElem?_eq_getElem hi
    have h5 := h.each _ (List.getElem_mem hi)
    rw [logOf_get hi, padL, List.getElem?_map, hq]
    unfold logRow
    rw [hF.2.1 i _ hq, pad_take (le8_length _), pad_drop (le8_length _), num_le8s (by omega) (by omega)]
    simp only [Option.map_some, Option.some.injEq, Prod.mk.injEq, true_and]
    unfold pad504
    rw [List.length_append, le8_length]
    congr 2
    omega
  · rw [List.getElem?_eq_none (by rw [logOf_length]; omega), List.getElem?_eq_none (by simp [padL]; omega)]

theorem rec_run {n : Nat} {ls : List (Int × List UInt8)} (h : LOk n ls) (hn : n ≤ 3000) {s : DS} {F K : List UInt8} (hs : Rest n s F) (hF : PB n ls K F) :
    (((recov n s).2.2 = 0 ∧ (recov n s).2.1 = (ls.length : Int) ∧ ∃ F', Rest n (recov n s).1 F' ∧ PC n ls K F') ∨
     ((recov n s).2.2 = 13 ∧ (recov n s).2.1 = 0 ∧ CrashOk n (recov n s).1 (PAny n ls K))) ∧
    (s.stop < 1 → (recov n s).2.2 = 0 ∧ (recov n s).1.stop = s.stop) ∧ (recov n s).1.ops ≤ s.ops + 500 := by
  have hnd : ¬ s.dead = true := by rw [hs.alive]; decide
  have hlen := h.len
  have hlen1 := h.len1
  have hc : cntOf n (row s.now 0) = (ls.length : Int) := by rw [hs.now, hF.1, cntOf_head h]
  have hlo : logOf s.now ls.length = padL ls := by rw [hs.now]; exact logOf_PB h hn hF
  have hho : homesOk n (padL ls) = true := by
    unfold homesOk padL
    rw [List.all_eq_true]
    intro q hq
    obtain ⟨q', hq', rfl⟩ := List.mem_map.1 hq
    have := h.each q' hq'
    simp
    omega
  have hrec : recov n s = if (runStps n s (finSteps (padL ls))).2 = 0 then ((runStps n s (finSteps (padL ls))).1, (ls.length : Int), 0) else ((runStps n s (finSteps (padL ls))).1, 0, (runStps n s (finSteps (padL ls))).2) := by
    unfold recov
    rw [if_neg hnd, hc, if_neg (by omega), Int.toNat_natCast, hlo, if_pos hho]
  have hprs : prs (padL ls) = prs ls := by
    unfold prs padL
    rw [List.map_map]
    apply List.map_congr_left
    intro q hq
    have := h.each q hq
    show (q.1.toNat, pad (pad504 q.2)) = _
    rw [pad_pad504 this.2.2]
  have hws : WsOk n (padL ls) := fun q hq => by
    obtain ⟨q', hq', rfl⟩ := List.mem_map.1 hq
    have := h.each q' hq'
    refine ⟨by show 0 ≤ q'.1; omega, by show q'.1 < (n : Int); omega, ?_⟩
    show (pad504 q'.2).length ≤ 512
    simp [pad504]; omega
  have hpl : (padL ls).length = ls.length := by simp [padL]
  obtain ⟨h1, h2⟩ := fin_run h hprs hws hpl hs hF
  have hops := runStps_ops n (finSteps (padL ls)) s
  rw [finSteps_length, hpl] at hops
  rw [hrec]
  generalize runStps n s (finSteps (padL ls)) = r at *
  by_cases e0 : r.2 = 0
  · rw [if_pos e0]
    refine ⟨.inl ⟨rfl, rfl, ?_⟩, fun hst => ⟨rfl, (h2 hst).2.1⟩, by push_cast at hops; show r.1.ops ≤ _; omega⟩
    rcases h1 with ⟨_, h1⟩ | ⟨e, _⟩
    · exact h1
    · omega
  · rw [if_neg e0]
    refine ⟨.inr ?_, fun hst => absurd (h2 hst).1 e0, by push_cast at hops; show r.1.ops ≤ _; omega⟩
    rcases h1 with ⟨e, _⟩ | ⟨e, F1, S, hg, hS, hP⟩
    · exact absurd e e0
    · exact ⟨e, rfl, F1, S, hg, hS, fun F' hb => .inr (hP F' hb)⟩

theorem rest_new (n : Nat) : Rest n (dNew n) (List.replicate (n * 512) 0) := ⟨rfl, rfl, rfl, rfl, List.length_replicate⟩
end Go.Proofs.Ytdilkgcoecipjaa

namespace Go.Proofs.Ytdilkgcoecipjaa
open Go.RowKit
set_option linter.unusedVariables false

section
variable {P : Program}
theorem zeroCells_rep (v : Value) (k : Nat) : Builtin.zeroCells #[v] k = (List.replicate k v).toArray := by
  unfold Builtin.zeroCells
  apply Array.ext
  · simp
  · intro i h1 h2
    simp [Nat.mod_one]

theorem run_append_zeros_room (w : World) (t tn ty e : TypeId) (i : TypeInfo) (kq kn : IntKind) (ht : P.underlying t = some (.slice e)) (htn : P.underlying tn = some (.int kn)) (hi : P.info? e = some i) (hz : i.zero = some (.int .u8 0)) (hs : i.size = 1) (hb : i.bytes = 1)
    (g n cap k : Nat) (cur : List Value) (hg : Blk w g cur e) (hk : k ≤ 1000000) (hn : n + k ≤ cap) (hf : n + k ≤ cur.length) :
    (Builtin.append_ #[t, tn] ty #[.slice (some ⟨g, 0, none⟩) n cap, .int kq k]).run P w = .ok (.slice (some ⟨g, 0, none⟩) (n + k) cap) (w.setRow g (splice cur n (List.replicate k (.int .u8 0))).toArray) := by
  have hw : IntKind.i64.wrap (k : Int) = k := by rw [IntKind.wrap_i64]; omega
  have h48i : ¬ (281474976710656 < (k : Int)) := by omega
  have hneg : ¬ ((k : Int) < 0) := by omega
  have hst := run_storeCells_blk (P := P) w g n e cur (List.replicate k (.int .u8 0)) hg (by simpa using hf) (fun u hu => by rw [(List.mem_replicate.1 hu).2]; rfl)
  have hadd : (⟨g, 0, none⟩ : Addr).add n = ⟨g, n, none⟩ := by unfold Addr.add; split <;> simp_all
  have hw0 : IntKind.i64.wrap 0 = 0 := rfl
  by_cases hk0 : k = 0
  · subst hk0
    simp only [List.replicate_zero] at hst
    simp only [Nat.add_zero] at hn
    simp [Builtin.append_, run_underlying ht, run_underlying htn, sizeOf, typeInfo, hi, hs, asInt, asIntOf, hw0, hn, hst, hadd]
  · simp [Builtin.append_, run_underlying ht, run_underlying htn, sizeOf, typeInfo, zeroValue, hi, hz, hs, hb, asInt, asIntOf, hw, hn, hneg, h48i, hk0, Value.cells, zeroCells_rep, hst, hadd]

theorem run_append_zeros_own (w : World) (base : Nat) (t tn ty e : TypeId) (kq kn : IntKind) (ht : P.underlying t = some (.slice e)) (htn : P.underlying tn = some (.int kn))
    (hinf : (P.info? e).map (fun i => (i.zero, i.size, i.bytes)) = some (some (.int .u8 0), 1, 1)) (v : Value) (n : Nat) (xs : List Value) (hown : w.ownsRow base e 1 v n xs) (k : Nat) (hk : n + k ≤ 1000000) (hbase : base ≤ w.heap.size) :
    ∃ v' w', (Builtin.append_ #[t, tn] ty #[v, .int kq k]).run P w = .ok v' w' ∧ w'.ownsRow base e 1 v' (n + k) (xs ++ List.replicate k (.int .u8 0)) ∧ w.grownBy w' v.ownBlock ∧
      (v'.ownBlock = v.ownBlock ∨ v'.ownBlock = some w.heap.size) := by
  obtain ⟨i, hi, hz, hsz, hby⟩ := info_parts hinf
  have hlen : (xs ++ List.replicate k (Value.int .u8 0)).length = (n + k) * 1 := by rw [List.length_append, hown.1, List.length_replicate]; omega
  have h63 : n + k ≤ maxLen := by simp only [maxLen]; omega
  have grown : ∀ (old : Nat), old < n + k → ∀ (row : Option Nat),
      (w.drew.alloc (.cells (xs.toArray ++ Builtin.zeroCells #[Value.int .u8 0] k ++ Builtin.zeroCells #[Value.int .u8 0] (grownCap w (n + k) old e - (n + k))) e)).ownsRow base e 1
        (.slice (some ⟨w.heap.size, 0, none⟩) (n + k) (grownCap w (n + k) old e)) (n + k) (xs ++ List.replicate k (.int .u8 0)) ∧
      w.grownBy (w.drew.alloc (.cells (xs.toArray ++ Builtin.zeroCells #[Value.int .u8 0] k ++ Builtin.zeroCells #[Value.int .u8 0] (grownCap w (n + k) old e - (n + k))) e)) row := by
    intro old ho row
    have hge := grownCap_ge w (n + k) old e
    have hcm : grownCap w (n + k) old e ≤ maxLen := grownCap_le_maxLen w (n + k) old e h63
    refine ⟨⟨hlen, .inr ⟨w.heap.size, _, _, rfl, hbase, heap_alloc_new w.drew _, hge, hcm, ?_, ?_⟩⟩, ⟨rfl, rfl, rfl, by simp, fun q hq _ => Below.heap_alloc w.drew _ q hq⟩⟩
    · simp only [zeroCells_rep, Array.size_append, List.size_toArray, hown.1, List.length_replicate]
      omega
    · simp only [zeroCells_rep, Array.toList_append]
      rw [← hlen]
      exact List.take_left
  by_cases hk0 : k = 0
  · subst hk0
    rcases hown.2 with ⟨rfl, hx⟩ | ⟨g, cap', cur, rfl, hbg, hg, hnc, hcm', hcs, htake⟩
    · obtain rfl : n = 0 := hx
      obtain rfl : xs = [] := List.eq_nil_of_length_eq_zero (by simpa using hown.1)
      refine ⟨.slice none 0 0, w, ?_, World.ownsRow_nil w base e 1, World.grownBy.refl _ _, .inl rfl⟩
      have hw0 : IntKind.i64.wrap 0 = 0 := rfl
      simp [Builtin.append_, run_underlying ht, run_underlying htn, sizeOf, typeInfo, hi, asInt, asIntOf, hw0]
    · have hg' : Blk w g cur.toList e := by unfold Blk; rw [Array.toArray_toList]; exact hg
      have hr := run_append_zeros_room (P := P) w t tn ty e i kq kn ht htn hi hz hsz hby g n cap' 0 cur.toList hg' (by omega) (by omega) (by rw [Array.length_toList, hcs]; omega)
      refine ⟨_, _, hr, ⟨hlen, .inr ⟨g, cap', _, rfl, hbg, setRow_heap w g cur _ e _ hg, by omega, hcm', ?_, ?_⟩⟩, ⟨rfl, rfl, rfl, by simp, fun q _ hq => setRow_other w g q _ (fun e => hq (by simp [Value.ownBlock, e]))⟩, .inl rfl⟩
      · have hlx := hown.1
        simp [splice]; omega
      · simp [splice]
        have := htake
        simpa using this
  · rcases hown.2 with ⟨rfl, hx⟩ | ⟨g, cap', cur, rfl, hbg, hg, hnc, hcm', hcs, htake⟩
    · obtain rfl : n = 0 := hx
      obtain rfl : xs = [] := List.eq_nil_of_length_eq_zero (by simpa using hown.1)
      have hr := Go.Lib.run_append_nil_zeros (P := P) w t tn ty e i _ kq kn ht htn hi hz k (by omega) (by omega) (by omega) (by rw [hby]; omega)
      have hgr := grown 0 (by omega) (Value.ownBlock (.slice none 0 0))
      simp only [Nat.zero_add, List.nil_append, Array.empty_append] at hgr ⊢
      exact ⟨_, _, hr, hgr.1, hgr.2, .inr rfl⟩
    · by_cases hroom : n + k ≤ cap'
      · have hg' : Blk w g cur.toList e := by unfold Blk; rw [Array.toArray_toList]; exact hg
        have hcl : n + k ≤ cur.toList.length := by rw [Array.length_toList, hcs]; omega
        have hr := run_append_zeros_room (P := P) w t tn ty e i kq kn ht htn hi hz hsz hby g n cap' k cur.toList hg' (by omega) hroom hcl
        refine ⟨_, _, hr, ⟨hlen, .inr ⟨g, cap', _, rfl, hbg, setRow_heap w g cur _ e _ hg, hroom, hcm', ?_, ?_⟩⟩, ⟨rfl, rfl, rfl, by simp, fun q _ hq => setRow_other w g q _ (fun e => hq (by simp [Value.ownBlock, e]))⟩, .inl rfl⟩
        · rw [List.size_toArray, splice_length _ _ _ (by rw [List.length_replicate]; exact hcl), Array.length_toList, hcs]
        · have ht' : cur.toList.take n = xs := by simpa using htake
          unfold splice
          rw [ht', ← hlen, ← List.append_assoc]
          exact List.take_left
      · have hfc : (Builtin.firstCells i.size n (.slice (some ⟨g, 0, none⟩) n cap')).run P w.drew = .ok xs.toArray w.drew :=
          run_firstCells_some (P := P) w.drew i.size n ⟨g, 0, none⟩ n cap' xs (by rw [hsz]; exact hown.1) (fun j u hu => by
            have := hown.cells (g := g) rfl j u hu
            simpa using this)
        have hr := Go.Lib.run_append_grow_zeros (P := P) w t tn ty e i _ kq kn ht htn hi hz (some ⟨g, 0, none⟩) n cap' xs hfc k (by omega) (by omega) (by omega) (by omega) (by rw [hby]; omega) (growslice_fits (by omega) (by rw [hby]; omega))
        have hgr := grown cap' (by omega) (Value.ownBlock (.slice (some ⟨g, 0, none⟩) n cap'))
        exact ⟨_, _, hr, hgr.1, hgr.2, .inr rfl⟩

theorem wpList_append_zeros {w : World} {ops : Array Oper} {rest : List Oper} {o : Oper} {a : Act} {Q : Exit → Act → World → Prop} (hgd : o.guard = none) (s x : Operand) (t tn : TypeId)
    (ho : o.op = .call { callee := .builtin .append, args := #[s, x], argTypes := #[t, tn] }) (base : Nat) (e : TypeId) (kq kn : IntKind) (ht : P.underlying t = some (.slice e)) (htn : P.underlying tn = some (.int kn))
    (hinf : (P.info? e).map (fun i => (i.zero, i.size, i.bytes)) = some (some (.int .u8 0), 1, 1)) (v : Value) (n : Nat) (xs : List Value) (hs : a.eval s = v) (hown : w.ownsRow base e 1 v n xs) (k : Nat) (hx : a.eval x = .int kq k) (hk : n + k ≤ 1000000) (hbase : base ≤ w.heap.size)
    (h : ∀ (p' : Option Addr) (c' : Nat) w', w'.ownsRow base e 1 (.slice p' (n + k) c') (n + k) (xs ++ List.replicate k (.int .u8 0)) → w.grownBy w' v.ownBlock → wpList P ops Q rest (a.put o.dst (.slice p' (n + k) c')) w') :
    wpList P ops Q (o :: rest) a w := by
  obtain ⟨v', w', hr, h2, h3, h4⟩ := run_append_zeros_own (P := P) w base t tn o.type e kq kn ht htn hinf v n xs hown k hk hbase
  obtain ⟨p', c', rfl⟩ : ∃ p' c', v' = .slice p' (n + k) c' := by
    rcases h2.2 with ⟨h5, h6⟩ | ⟨g, cap, cur, h5, _⟩
    · exact ⟨none, 0, by rw [h5, h6]⟩
    · exact ⟨_, _, h5⟩
  exact Go.Lib.wpList_append_run w hgd s x t tn ho _ _ hs hx _ _ hr (h p' c' w' h2 h3)
end

/-- make([]byte, n): an equation -/
theorem make_bytes (k1 k2 : IntKind) (n : Nat) (hn : n ≤ 1000000) (w : World) : (Instr.makeSlice 30 (.int k1 n) (.int k2 n)).run Try.prog w = .ok (.slice (some ⟨w.heap.size, 0, none⟩) n n) (w.alloc (.cells (bv (List.replicate n 0)).toArray 5)) := by
  obtain ⟨i, hi, hz, hsz, hby⟩ := info_parts infoU8
  have h := run_makeSlice (P := Try.prog) (w := w) 30 5 i _ Try.underlying30 hi hz k1 k2 n n (by omega) (by omega) (by rw [hsz, Int.toNat_natCast]; omega) (by rw [hby]; omega) (by omega)
  rw [Int.toNat_natCast, hsz, made_bytes] at h
  exact h
end Go.Proofs.Ytdilkgcoecipjaa
