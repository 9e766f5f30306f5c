/- bytes.Clone; a step of redo's: a func value. redo: a step, and all of them. redo.all: steps, one behind the other, till one answers an error. redo.write: a step is made. redo.finish: pages are written home, the log is forgotten. redo.home; triadref3.page. triadref1.Int: a number's eight bytes. -/
import Derived.Test.YtdilkgcoecipjaaLaw2a
import Derived.WalkSpells
import Derived.Test.YtdilkgcoecipjaaCodeC
namespace Go.Proofs.Ytdilkgcoecipjaa
open Go.RowKit
set_option linter.unusedVariables false

set_option maxRecDepth 100000 in
theorem clone_any (v : Value) (l : List UInt8) (w : World) (hv : Bs w v l) (hl : l.length ≤ 1000000) :
    Calls Try.prog 73 #[v] w fun e w' => ∃ p c, e = .returned (.slice p l.length c) ∧ w'.ownsRow w.heap.size 5 1 (.slice p l.length c) l.length (bv l) ∧ Below w.heap.size w w' := by
  have hv0 := hv
  have HV := hid hv
  obtain ⟨hlen, p, cap, rfl, h1, h2, h3, h4⟩ := hv
  cases p with
  | none =>
    have hc := h3 rfl
    have hn : l.length = 0 := by omega
    obtain rfl : l = [] := List.eq_nil_of_length_eq_zero hn
    subst hc
    have he := fun w a n c n2 c2 => Go.Lib.run_eql_slice_nil (P := Try.prog) w 30 5 a n c n2 c2 Try.underlying30
    go_enter Try.func73, Try.ntmps73
    go_wp2_with fail
    go_ret
    exact ⟨none, 0, rfl, World.ownsRow_nil _ _ _ _, Below.refl _ _⟩
  | some a =>
    have he := fun w a n c n2 c2 => Go.Lib.run_eql_slice_nil (P := Try.prog) w 30 5 a n c n2 c2 Try.underlying30
    clear hv0 h4
    go_enter Try.func73, Try.ntmps73
    go_wp2_with (at_builtin; refine wpList_append_rd rfl _ _ 30 rfl w.heap.size 5 _ 1 1 Try.underlying30 infoU8 rfl (by decide) _ 0 [] rfl (own_fresh _ _ _ 0 rfl (by simp [maxLen]) _ (Nat.le_refl _)) _ l.length (bv l) rfl (HV.out |> fun hq => Rd.new hq ((Below.refl _ _).alloc (Nat.le_refl _) _)) (bv_one _) (by simp only [maxLen]; omega) (by omega) (by simp) ?_; intro pp cc w4 hown4 hg4 hb4; have OW4 := hid hown4; have G4 : Hid (Below w.heap.size w w4) := hid (((Below.refl w.heap.size w).alloc (Nat.le_refl _) _).grown hg4 (by simp) (by intro k hk; cases hk; exact Nat.le_refl _)); clear hown4 hg4 hb4)
    go_ret
    have h := OW4.out
    rw [Nat.zero_add, List.nil_append] at h
    exact ⟨_, _, rfl, h, G4.out⟩
end Go.Proofs.Ytdilkgcoecipjaa

namespace Go.Proofs.Ytdilkgcoecipjaa
open Go.RowKit
set_option linter.unusedVariables false

inductive Stp where
  | sync
  | write (at_ : Int) (b : List UInt8)

def doStp (n : Nat) (s : DS) : Stp → DS × Int
  | .sync => dSync s
  | .write at_ b => dWrite n s at_ b
def runStps (n : Nat) (s : DS) : List Stp → DS × Int
  | [] => (s, 0)
  | st :: r => if (doStp n s st).2 = 0 then runStps n (doStp n s st).1 r else doStp n s st

/-- bytes that lie elsewhere than a disk's blocks -/
def Far (w : World) (fp : Nat → Prop) (v : Value) (l : List UInt8) : Prop := Bs w v l ∧ (0 < l.length → ∀ g, v.ownBlock = some g → ¬ fp g)
/-- the four boxes of a step that writes -/
def IsWr (w : World) (d : Nat) (fp : Nat → Prop) (v : Value) (at_ : Int) (l : List UInt8) : Prop :=
  ∃ g0 g1 g2 g3 va vb la lb, v = .func (.func 82) #[] #[.pointer (some ⟨g0, 0, none⟩), .pointer (some ⟨g1, 0, none⟩), .pointer (some ⟨g2, 0, none⟩), .pointer (some ⟨g3, 0, none⟩)] ∧
    w.cell? ⟨g0, 0, none⟩ = some (.pointer (some ⟨d, 0, none⟩)) ∧ w.cell? ⟨g1, 0, none⟩ = some (.int .i64 at_) ∧ w.cell? ⟨g2, 0, none⟩ = some va ∧ w.cell? ⟨g3, 0, none⟩ = some vb ∧
    Far w fp va la ∧ Far w fp vb lb ∧ l = la ++ lb ∧ l.length ≤ 1000 ∧ ¬ fp g0 ∧ ¬ fp g1 ∧ ¬ fp g2 ∧ ¬ fp g3
def IsStp (w : World) (d : Nat) (fp : Nat → Prop) (v : Value) : Stp → Prop
  | .sync => v = .func (.func 72) #[.pointer (some ⟨d, 0, none⟩)] #[]
  | .write at_ l => IsWr w d fp v at_ l

theorem Far.chg {w w' : World} {fp fp' : Nat → Prop} {v : Value} {l : List UInt8} (h : Far w fp v l) (hc : Chg fp w w') (hf : ∀ k, fp' k → fp k ∨ w.heap.size ≤ k) : Far w' fp' v l :=
  ⟨h.1.chg hc (fun hz g hg _ => h.2 hz g hg), fun hz g hg hfp => by
    rcases hf g hfp with h1 | h1
    · exact h.2 hz g hg h1
    · have := Rd.lt h.1 hz (by decide) g hg; omega⟩
theorem IsWr.chg {w w' : World} {d : Nat} {fp fp' : Nat → Prop} {v : Value} {at_ : Int} {l : List UInt8} (h : IsWr w d fp v at_ l) (hc : Chg fp w w') (hf : ∀ k, fp' k → fp k ∨ w.heap.size ≤ k) : IsWr w' d fp' v at_ l := by
  obtain ⟨g0, g1, g2, g3, va, vb, la, lb, h1, c0, c1, c2, c3, f1, f2, h2, h3, n0, n1, n2, n3⟩ := h
  have go : ∀ {g : Nat} {u : Value}, w.cell? ⟨g, 0, none⟩ = some u → ¬ fp g → w'.cell? ⟨g, 0, none⟩ = some u ∧ ¬ fp' g := fun {g u} hcell hn => by
    have hlt := World.block_lt_of_cell? w ⟨g, 0, none⟩ hcell
    refine ⟨(CellTo hc hn hlt).trans hcell, fun hfp => ?_⟩
    rcases hf g hfp with h4 | h4
    · exact hn h4
    · have h5 : g < w.heap.size := hlt; omega
  exact ⟨g0, g1, g2, g3, va, vb, la, lb, h1, (go c0 n0).1, (go c1 n1).1, (go c2 n2).1, (go c3 n3).1, f1.chg hc hf, f2.chg hc hf, h2, h3, (go c0 n0).2, (go c1 n1).2, (go c2 n2).2, (go c3 n3).2⟩
theorem IsStp.chg {w w' : World} {d : Nat} {fp fp' : Nat → Prop} {v : Value} {st : Stp} (h : IsStp w d fp v st) (hc : Chg fp w w') (hf : ∀ k, fp' k → fp k ∨ w.heap.size ≤ k) : IsStp w' d fp' v st := by
  cases st with
  | sync => exact h
  | write at_ l => exact IsWr.chg h hc hf

theorem cells_new {w w' : World} {g0 g1 g2 g3 : Nat} {v0 v1 v2 v3 : Value} (h : w.cell? ⟨g0, 0, none⟩ = some v0 ∧ w.cell? ⟨g1, 0, none⟩ = some v1 ∧ w.cell? ⟨g2, 0, none⟩ = some v2 ∧ w.cell? ⟨g3, 0, none⟩ = some v3) (hb : Below w.heap.size w w') :
    w'.cell? ⟨g0, 0, none⟩ = some v0 ∧ w'.cell? ⟨g1, 0, none⟩ = some v1 ∧ w'.cell? ⟨g2, 0, none⟩ = some v2 ∧ w'.cell? ⟨g3, 0, none⟩ = some v3 := by
  have go : ∀ {g : Nat} {u : Value}, w.cell? ⟨g, 0, none⟩ = some u → w'.cell? ⟨g, 0, none⟩ = some u := fun {g u} hc => (hb.cell (p := ⟨g, 0, none⟩) (World.block_lt_of_cell? w ⟨g, 0, none⟩ hc)).trans hc
  exact ⟨go h.1, go h.2.1, go h.2.2.1, go h.2.2.2⟩

set_option maxRecDepth 100000 in
theorem wr_any (w : World) (d : Nat) (fp : Nat → Prop) (n : Nat) (s : DS) (g0 g1 g2 g3 : Nat) (va vb : Value) (la lb : List UInt8) (at_ : Int) (h : Dsk w d fp n s)
    (c0 : w.cell? ⟨g0, 0, none⟩ = some (.pointer (some ⟨d, 0, none⟩))) (c1 : w.cell? ⟨g1, 0, none⟩ = some (.int .i64 at_)) (c2 : w.cell? ⟨g2, 0, none⟩ = some va) (c3 : w.cell? ⟨g3, 0, none⟩ = some vb)
    (h1 : Far w fp va la) (h2 : Far w fp vb lb) (hl : (la ++ lb).length ≤ 1000) (ho : s.ops ≤ 1000000) (n3 : ¬ fp g3) :
    Calls Try.prog 82 #[.pointer (some ⟨g0, 0, none⟩), .pointer (some ⟨g1, 0, none⟩), .pointer (some ⟨g2, 0, none⟩), .pointer (some ⟨g3, 0, none⟩)] w fun e w' => e = .returned (.int .i64 (dWrite n s at_ (la ++ lb)).2) ∧ DskTo w d fp n (dWrite n s at_ (la ++ lb)).1 w' := by
  have H := hid h
  have H1 := hid h1
  have H2 := hid h2
  rw [List.length_append] at hl
  have CC : Hid (w.cell? ⟨g0, 0, none⟩ = some (.pointer (some ⟨d, 0, none⟩)) ∧ w.cell? ⟨g1, 0, none⟩ = some (.int .i64 at_) ∧ w.cell? ⟨g2, 0, none⟩ = some va ∧ w.cell? ⟨g3, 0, none⟩ = some vb) := hid ⟨c0, c1, c2, c3⟩
  clear h h1 h2 c0 c1 c2 c3
  go_enter Try.func82, Try.ntmps82
  go_wp2_with fail
  refine wp_region_plan (fun w' => w'.cell? ⟨g0, 0, none⟩ = some (.pointer (some ⟨d, 0, none⟩)) ∧ w'.cell? ⟨g1, 0, none⟩ = some (.int .i64 at_) ∧ w'.cell? ⟨g2, 0, none⟩ = some va ∧ w'.cell? ⟨g3, 0, none⟩ = some vb) (fun j => !([3, 5, 6, 7].contains j)) (fun j => [6, 7].contains j)
    (.of [0, 1, 2, 4, 3, 5, 6, 7]) (by kernel_rfl) (by kernel_rfl) rfl (by kernel_rfl) (by kernel_rfl) CC.out ?_
  apply wpPlan_val
  case ho => rfl
  case hst => rfl
  case hw => rfl
  case hv => intro w' hS; obtain ⟨c0, c1, c2, c3⟩ := hS; go_simp; first | done | rfl
  intro K hK
  go_simp
  refine hK _ ?_
  clear hK K
  apply wpPlan_val
  case ho => rfl
  case hst => rfl
  case hw => rfl
  case hv => intro w' hS; obtain ⟨c0, c1, c2, c3⟩ := hS; go_simp; first | done | rfl
  intro K hK
  go_simp
  refine hK _ ?_
  clear hK K
  apply wpPlan_val
  case ho => rfl
  case hst => rfl
  case hw => rfl
  case hv => intro w' hS; obtain ⟨c0, c1, c2, c3⟩ := hS; go_simp; first | done | rfl
  intro K hK
  go_simp
  refine hK _ ?_
  clear hK K
  apply wpPlan_val
  case ho => rfl
  case hst => rfl
  case hw => rfl
  case hv => intro w' hS; obtain ⟨c0, c1, c2, c3⟩ := hS; go_simp; first | done | rfl
  intro K hK
  go_simp
  refine hK _ ?_
  clear hK K
  refine wpPlan_list rfl rfl rfl (fun K hK => ?_)
  refine wpList_step (fun K2 hK2 => ?_)
  go_simp
  refine (clone_any va la w.drew (H1.out.1.chg (Chg.drewN NoFp w 1) (fun _ _ _ _ h => h)) (by omega)).mono ?_; rintro e1 w4 ⟨p4, q4, rfl, ho4, hb4⟩
  have O4 : Hid (w4.ownsRow w.heap.size 5 1 (.slice p4 la.length q4) la.length (bv la)) := hid ho4
  have B4 : Hid (Below w.heap.size w w4) := hid ((below_drewN (Below.refl _ _) 1).trans hb4)
  clear ho4 hb4
  go_simp
  refine hK2 _ _ ?_
  clear hK2 K2
  simp only [wpList]
  refine hK _ _ (fun _ => cells_new CC.out B4.out) ?_
  clear hK K
  refine wpPlan_list rfl rfl rfl (fun K hK => ?_)
  refine wpList_append_rd rfl _ _ 30 rfl w.heap.size 5 _ 1 1 Try.underlying30 infoU8 rfl (by decide) _ la.length (bv la) rfl O4.out _ lb.length (bv lb) rfl (Rd.new H2.out.1 B4.out) (bv_one _) (by simp only [maxLen]; omega) (by omega) B4.out.size ?_
  intro pp cc w5 hown5 hg5 hb5
  have B5 : Hid (Below w.heap.size w w5) := hid (B4.out.grown hg5 B4.out.size (fun k hk => (O4.out.lt k hk).1))
  have V5 : Hid (Bs w5 (.slice pp (la.length + lb.length) cc) (la ++ lb)) := hid (by
    have h5 := Rd.of_own hown5
    rw [← bv_append] at h5
    unfold Bs
    rw [List.length_append]
    exact h5)
  clear hown5 hg5 hb5
  simp only [wpList]
  refine hK _ _ (fun _ => cells_new CC.out B5.out) ?_
  clear hK K
  refine wpPlan_list rfl rfl rfl (fun K hK => ?_)
  refine wpList_step (fun K2 hK2 => ?_)
  go_simp
  refine (dWrite_any w5 d fp n s at_ _ (la ++ lb) (H.out.chg (Chg.new B5.out NoFp) (fun _ _ h => h)) V5.out (by rw [List.length_append]; omega) ho).mono ?_; rintro e1 w6 ⟨rfl, hto⟩
  have T6 := hid (DskTo.trans (Chg.new B5.out fp) (fun k h => .inl h) hto)
  clear hto
  go_simp
  refine hK2 _ _ ?_
  clear hK2 K2
  simp only [wpList]
  refine hK _ _ (fun h => by cases h) ?_
  clear hK K
  refine wpPlan_list rfl rfl rfl (fun K hK => ?_)
  refine wpList_step (fun K2 hK2 => ?_)
  go_simp
  refine hK2 _ _ ?_
  clear hK2 K2
  simp only [wpList]
  refine hK _ _ (fun h => by cases h) ?_
  clear hK K
  refine wpPlan_nil ?_
  simp only [Qn]
  go_wp2_with fail
  go_ret
  exact ⟨rfl, T6.out⟩
end Go.Proofs.Ytdilkgcoecipjaa

namespace Go.Proofs.Ytdilkgcoecipjaa
open Go.RowKit
set_option linter.unusedVariables false

/-- a row of steps -/
def IsAll (w : World) (d : Nat) (fp : Nat → Prop) (a : Option Addr) (sts : List Stp) : Prop :=
  ∀ i, i < sts.length → ∃ ab ao v st, a = some ⟨ab, ao, none⟩ ∧ sts[i]? = some st ∧ w.cell? ⟨ab, ao + i, none⟩ = some v ∧ ¬ fp ab ∧ IsStp w d fp v st

def AllAt (w : World) (d : Nat) (fp : Nat → Prop) (n : Nat) (s : DS) (sts : List Stp) (i : Nat) (wr : World) (s1 : DS) (fp1 : Nat → Prop) : Prop :=
  i ≤ sts.length ∧ Dsk wr d fp1 n s1 ∧ Chg fp w wr ∧ (∀ k, fp1 k → fp k ∨ w.heap.size ≤ k) ∧ runStps n s sts = runStps n s1 (sts.drop i) ∧ s1.ops ≤ s.ops + i

theorem sync_to {w w' : World} {d : Nat} {fp : Nat → Prop} {n : Nat} {s : DS} (h : Dsk w' d fp n s) (hc : Chg fp w w') : DskTo w d fp n s w' := ⟨fp, h, hc, fun _ h => .inl h⟩

theorem doStp_ops (n : Nat) (s : DS) (st : Stp) : (doStp n s st).1.ops ≤ s.ops + 1 := by
  cases st with
  | sync =>
    show (dSync s).1.ops ≤ _
    unfold dSync
    split
    · simp only; omega
    · split
      · rw [dStep_ops]; exact Int.le_refl _
      · show (dStep s).ops ≤ _
        rw [dStep_ops]; exact Int.le_refl _
  | write at_ l =>
    show (dWrite n s at_ l).1.ops ≤ _
    unfold dWrite
    split
    · simp only; omega
    · split
      · simp only; omega
      · rw [dStep_ops]; exact Int.le_refl _

theorem AllAt.step {w wr w' : World} {d n : Nat} {fp fp1 : Nat → Prop} {s s1 : DS} {sts : List Stp} {i : Nat} {st : Stp} (h : AllAt w d fp n s sts i wr s1 fp1) (hst : sts[i]? = some st) (h0 : (doStp n s1 st).2 = 0)
    (ht : DskTo wr d fp1 n (doStp n s1 st).1 w') : ∃ fp2, AllAt w d fp n s sts (i + 1) w' (doStp n s1 st).1 fp2 := by
  obtain ⟨h1, h2, h3, h4, h5, h6⟩ := h
  obtain ⟨fp2, g1, g2, g3⟩ := ht
  have hlt := (List.getElem?_eq_some_iff.1 hst).1
  refine ⟨fp2, by omega, g1, h3.trans g2 (fun k hk hf => ?_), fun k hk => ?_, ?_, ?_⟩
  · rcases h4 k hf with h7 | h7
    · exact h7
    · omega
  · rcases g3 k hk with h7 | h7
    · exact h4 k h7
    · exact .inr (Nat.le_trans h3.size h7)
  · rw [h5, List.drop_eq_getElem_cons hlt]
    have he : sts[i] = st := (List.getElem?_eq_some_iff.1 hst).2
    rw [he, runStps, if_pos h0]
  · have := doStp_ops n s1 st
    push_cast; omega
theorem AllAt.stop {w wr w' : World} {d n : Nat} {fp fp1 : Nat → Prop} {s s1 : DS} {sts : List Stp} {i : Nat} {st : Stp} (h : AllAt w d fp n s sts i wr s1 fp1) (hst : sts[i]? = some st) (h0 : ¬ (doStp n s1 st).2 = 0)
    (ht : DskTo wr d fp1 n (doStp n s1 st).1 w') : runStps n s sts = doStp n s1 st ∧ DskTo w d fp n (doStp n s1 st).1 w' := by
  obtain ⟨h1, h2, h3, h4, h5, h6⟩ := h
  have hlt := (List.getElem?_eq_some_iff.1 hst).1
  refine ⟨?_, DskTo.trans h3 h4 ht⟩
  rw [h5, List.drop_eq_getElem_cons hlt]
  have he : sts[i] = st := (List.getElem?_eq_some_iff.1 hst).2
  rw [he, runStps, if_neg h0]

/-- a step is done -/
theorem stp_any (w : World) (d : Nat) (fp : Nat → Prop) (n : Nat) (s : DS) (at_ : Int) (l : List UInt8) (g0 g1 g2 g3 : Nat) (h : Dsk w d fp n s)
    (hw : IsWr w d fp (.func (.func 82) #[] #[.pointer (some ⟨g0, 0, none⟩), .pointer (some ⟨g1, 0, none⟩), .pointer (some ⟨g2, 0, none⟩), .pointer (some ⟨g3, 0, none⟩)]) at_ l) (ho : s.ops ≤ 1000000) :
    Calls Try.prog 82 #[.pointer (some ⟨g0, 0, none⟩), .pointer (some ⟨g1, 0, none⟩), .pointer (some ⟨g2, 0, none⟩), .pointer (some ⟨g3, 0, none⟩)] w fun e w' => e = .returned (.int .i64 (dWrite n s at_ l).2) ∧ DskTo w d fp n (dWrite n s at_ l).1 w' := by
  obtain ⟨h0, h1, h2, h3, va, vb, la, lb, he, c0, c1, c2, c3, f1, f2, rfl, hl, n0, n1, n2, n3⟩ := hw
  simp at he
  obtain ⟨rfl, rfl, rfl, rfl⟩ := he
  exact wr_any w d fp n s _ _ _ _ va vb la lb at_ h c0 c1 c2 c3 f1 f2 hl ho n3

set_option maxRecDepth 100000 in
set_option maxHeartbeats 4000000 in
theorem all_any (w : World) (d : Nat) (fp : Nat → Prop) (n : Nat) (s : DS) (a : Option Addr) (m c : Nat) (sts : List Stp) (h : Dsk w d fp n s) (hm : m = sts.length) (hm2 : m ≤ 1000) (hs : IsAll w d fp a sts) (ho : s.ops + 1000 ≤ 1000000) :
    Calls Try.prog 71 #[.slice a m c] w fun e w' => e = .returned (.int .i64 (runStps n s sts).2) ∧ DskTo w d fp n (runStps n s sts).1 w' := by
  subst hm
  have HS := hid hs
  have H0 : Hid (AllAt w d fp n s sts 0 w s fp) := hid ⟨Nat.zero_le _, h, Chg.refl _ _, fun k hk => .inl hk, rfl, by simp⟩
  clear h hs
  go_enter Try.func71, Try.ntmps71
  go_wp2_with fail
  refine wp_scope_goto 0 (fun dd aa wr => ∃ (i : Nat) (s1 : DS) (fp1 : Nat → Prop) (u4 u5 u6 u7 u8 u9 u10 u11 u12 u13 u14 u15 u16 u17 u18 : Value), dd = sts.length - i ∧ AllAt w d fp n s sts i wr s1 fp1 ∧
     aa = ⟨#[.slice a sts.length c, undef, .int .i64 0, .int .i64 i, u4, u5, u6, u7, u8, u9, u10, u11, u12, u13, u14, u15, u16, u17, u18], []⟩) rfl ?pass ?first
  case first =>
    intro K hK
    go_wp2_with fail
    refine wp_label ?_
    simp only [Exit.then]
    rename_i hK'
    exact hK' _ _ (hK _ _ _ ⟨0, s, fp, _, _, _, _, _, _, _, _, _, _, _, _, _, _, _, rfl, H0.out, rfl⟩)
  case pass =>
    rintro dd aa wr ⟨i, s1, fp1, u4, u5, u6, u7, u8, u9, u10, u11, u12, u13, u14, u15, u16, u17, u18, rfl, hat, rfl⟩ K hK
    have HK := hid hK
    have HA := hid hat
    obtain ⟨hi, hd1, hc1, hf1, hr1, hops⟩ := hat
    have HD := hid hd1
    have HC := hid hc1
    have HF := hid hf1
    have HR := hid hr1
    clear hK hd1 hc1 hf1 hr1 H0
    by_cases hlt : i < sts.length
    · obtain ⟨ab, ao, v, st, rfl, hst, hcell, hnab, hstp⟩ := HS.out i hlt
      have hcw : wr.cell? ⟨ab, ao + i, none⟩ = some v := (CellTo HC.out hnab (World.block_lt_of_cell? w ⟨ab, ao + i, none⟩ hcell)).trans hcell
      have HP := hid (hstp.chg HC.out HF.out)
      have HST := hid hst
      have him : ¬ i = sts.length := by omega
      clear hcell hstp hst
      cases st with
      | sync =>
        have hv : v = .func (.func 72) #[.pointer (some ⟨d, 0, none⟩)] #[] := HP.out
        subst hv
        go_wp2_with fail
        refine (dSync_any wr d fp1 n s1 HD.out (by omega)).mono ?_; rintro e1 w5 ⟨rfl, hd5, hc5, hsz5⟩
        have T5 : Hid (DskTo wr d fp1 n (doStp n s1 .sync).1 w5) := hid (sync_to hd5 hc5)
        clear hd5 hc5 hsz5
        by_cases h0 : (dSync s1).2 = 0
        · have H0 := hid h0
          rw [h0]
          clear h0
          obtain ⟨fp2, hn⟩ := HA.out.step HST.out H0.out T5.out
          have HN := hid hn
          clear hn
          go_wp2_with fail
          refine wp_goto ?_
          simp only [Exit.jump, true_and]
          exact HK.out (sts.length - (i + 1)) _ _ (by omega) ⟨i + 1, _, fp2, _, _, _, _, _, _, _, _, _, _, _, _, _, _, _, rfl, HN.out, by go_num⟩
        · have hz := HA.out.stop HST.out h0 T5.out
          have HZ := hid hz
          have h01 : ((dSync s1).2 == 0) = false := by simpa using h0
          clear hz h0
          go_wp2_with fail
          rw [Exit.jump_ret]
          go_ret
          rw [HZ.out.1]
          exact ⟨rfl, HZ.out.2⟩
      | write at_ l =>
        obtain ⟨g0, g1, g2, g3, hv⟩ : ∃ g0 g1 g2 g3, v = .func (.func 82) #[] #[.pointer (some ⟨g0, 0, none⟩), .pointer (some ⟨g1, 0, none⟩), .pointer (some ⟨g2, 0, none⟩), .pointer (some ⟨g3, 0, none⟩)] := by
          obtain ⟨g0, g1, g2, g3, _, _, _, _, h, _⟩ := HP.out
          exact ⟨g0, g1, g2, g3, h⟩
        subst hv
        go_wp2_with fail
        refine (stp_any wr d fp1 n s1 at_ l g0 g1 g2 g3 HD.out HP.out (by omega)).mono ?_; rintro e1 w5 ⟨rfl, hto⟩
        have T5 : Hid (DskTo wr d fp1 n (doStp n s1 (.write at_ l)).1 w5) := hid hto
        clear hto
        by_cases h0 : (dWrite n s1 at_ l).2 = 0
        · have H0 := hid h0
          rw [h0]
          clear h0
          obtain ⟨fp2, hn⟩ := HA.out.step HST.out H0.out T5.out
          have HN := hid hn
          clear hn
          go_wp2_with fail
          refine wp_goto ?_
          simp only [Exit.jump, true_and]
          exact HK.out (sts.length - (i + 1)) _ _ (by omega) ⟨i + 1, _, fp2, _, _, _, _, _, _, _, _, _, _, _, _, _, _, _, rfl, HN.out, by go_num⟩
        · have hz := HA.out.stop HST.out h0 T5.out
          have HZ := hid hz
          have h01 : ((dWrite n s1 at_ l).2 == 0) = false := by simpa using h0
          clear hz h0
          go_wp2_with fail
          rw [Exit.jump_ret]
          go_ret
          rw [HZ.out.1]
          exact ⟨rfl, HZ.out.2⟩
    · have him : i = sts.length := by omega
      have HE : Hid (runStps n s sts = (s1, 0)) := hid (by rw [HR.out, List.drop_of_length_le (by omega)]; rfl)
      go_wp2_with fail
      rw [Exit.jump_ret]
      go_ret
      rw [HE.out]
      exact ⟨rfl, fp1, HD.out, HC.out, HF.out⟩
end Go.Proofs.Ytdilkgcoecipjaa

namespace Go.Proofs.Ytdilkgcoecipjaa
open Go.RowKit
set_option linter.unusedVariables false

theorem four_boxes (w : World) (v0 v1 v2 v3 : Value) (t0 t1 t2 t3 : TypeId) :
    Below w.heap.size w ((((w.alloc (Obj.cells #[v0] t0)).alloc (Obj.cells #[v1] t1)).alloc (Obj.cells #[v2] t2)).alloc (Obj.cells #[v3] t3)) ∧
    ((((w.alloc (Obj.cells #[v0] t0)).alloc (Obj.cells #[v1] t1)).alloc (Obj.cells #[v2] t2)).alloc (Obj.cells #[v3] t3)).cell? ⟨w.heap.size, 0, none⟩ = some v0 ∧
    ((((w.alloc (Obj.cells #[v0] t0)).alloc (Obj.cells #[v1] t1)).alloc (Obj.cells #[v2] t2)).alloc (Obj.cells #[v3] t3)).cell? ⟨w.heap.size + 1, 0, none⟩ = some v1 ∧
    ((((w.alloc (Obj.cells #[v0] t0)).alloc (Obj.cells #[v1] t1)).alloc (Obj.cells #[v2] t2)).alloc (Obj.cells #[v3] t3)).cell? ⟨w.heap.size + 1 + 1, 0, none⟩ = some v2 ∧
    ((((w.alloc (Obj.cells #[v0] t0)).alloc (Obj.cells #[v1] t1)).alloc (Obj.cells #[v2] t2)).alloc (Obj.cells #[v3] t3)).cell? ⟨w.heap.size + 1 + 1 + 1, 0, none⟩ = some v3 := by
  have b0 : Blk (w.alloc (Obj.cells #[v0] t0)) w.heap.size [v0] t0 := heap_alloc_new w _
  have s0 : (w.alloc (Obj.cells #[v0] t0)).heap.size = w.heap.size + 1 := by simp
  have e0 : Below w.heap.size w (w.alloc (Obj.cells #[v0] t0)) := (Below.refl _ _).alloc (Nat.le_refl _) _
  generalize w.alloc (Obj.cells #[v0] t0) = wa at *
  have b1 : Blk (wa.alloc (Obj.cells #[v1] t1)) wa.heap.size [v1] t1 := heap_alloc_new wa _
  have s1 : (wa.alloc (Obj.cells #[v1] t1)).heap.size = wa.heap.size + 1 := by simp
  have e1 : Below w.heap.size w (wa.alloc (Obj.cells #[v1] t1)) := e0.alloc (by omega) _
  have b01 := b0.chg (Chg.alloc NoFp wa (Obj.cells #[v1] t1)) (fun h => h)
  generalize wa.alloc (Obj.cells #[v1] t1) = wb at *
  have b2 : Blk (wb.alloc (Obj.cells #[v2] t2)) wb.heap.size [v2] t2 := heap_alloc_new wb _
  have s2 : (wb.alloc (Obj.cells #[v2] t2)).heap.size = wb.heap.size + 1 := by simp
  have e2 : Below w.heap.size w (wb.alloc (Obj.cells #[v2] t2)) := e1.alloc (by omega) _
  have b02 := b01.chg (Chg.alloc NoFp wb (Obj.cells #[v2] t2)) (fun h => h)
  have b12 := b1.chg (Chg.alloc NoFp wb (Obj.cells #[v2] t2)) (fun h => h)
  generalize wb.alloc (Obj.cells #[v2] t2) = wc at *
  have b3 : Blk (wc.alloc (Obj.cells #[v3] t3)) wc.heap.size [v3] t3 := heap_alloc_new wc _
  have e3 : Below w.heap.size w (wc.alloc (Obj.cells #[v3] t3)) := e2.alloc (by omega) _
  have b03 := b02.chg (Chg.alloc NoFp wc (Obj.cells #[v3] t3)) (fun h => h)
  have b13 := b12.chg (Chg.alloc NoFp wc (Obj.cells #[v3] t3)) (fun h => h)
  have b23 := b2.chg (Chg.alloc NoFp wc (Obj.cells #[v3] t3)) (fun h => h)
  rw [s2, s1, s0] at b3
  rw [s1, s0] at b23
  rw [s0] at b13
  exact ⟨e3, Blk.cell b03 0, Blk.cell b13 0, Blk.cell b23 0, Blk.cell b3 0⟩

set_option maxRecDepth 100000 in
theorem mkwr_any (w : World) (d : Nat) (fp : Nat → Prop) (at_ : Int) (va vb : Value) (la lb : List UInt8) (h1 : Far w fp va la) (h2 : Far w fp vb lb) (hl : (la ++ lb).length ≤ 1000) (hfp : ∀ k, fp k → k < w.heap.size) :
    Calls Try.prog 70 #[.pointer (some ⟨d, 0, none⟩), .int .i64 at_, va, vb] w fun e w' => ∃ v, e = .returned v ∧ v.oneCell' = true ∧ IsStp w' d fp v (.write at_ (la ++ lb)) ∧ Below w.heap.size w w' := by
  have hmf : ∀ (fn : Fn) (first cap : Array Value) (w : World), (Instr.makeFunc fn first cap).run Try.prog w = .ok (.func fn first cap) w := fun fn first cap w => by simp [Instr.makeFunc]
  obtain ⟨hla, pa, ca, rfl, ha1, ha2, ha3, ha4⟩ := h1.1
  obtain ⟨hlb, pb, cb, rfl, hb1, hb2, hb3, hb4⟩ := h2.1
  have H1 := hid h1
  have H2 := hid h2
  clear h1 h2 hla hlb ha1 ha2 ha3 ha4 hb1 hb2 hb3 hb4
  have HF := hid hfp
  clear hfp
  go_enter Try.func70, Try.ntmps70
  go_wp2_with fail
  go_ret
  obtain ⟨hB, k0, k1, k2, k3⟩ := four_boxes w (.pointer (some ⟨d, 0, none⟩)) (.int .i64 at_) (.slice pa la.length ca) (.slice pb lb.length cb) 53 3 30 30
  have hn : ∀ j, ¬ fp (w.heap.size + j) := fun j hj => by have := HF.out _ hj; omega
  refine ⟨_, rfl, rfl, ⟨w.heap.size, w.heap.size + 1, w.heap.size + 1 + 1, w.heap.size + 1 + 1 + 1, _, _, la, lb, rfl, k0, k1, k2, k3, H1.out.chg (Chg.new hB fp) (fun k h => .inl h), H2.out.chg (Chg.new hB fp) (fun k h => .inl h), rfl, hl, hn 0, hn 1, hn 2, hn 3⟩, hB⟩
end Go.Proofs.Ytdilkgcoecipjaa

namespace Go.Proofs.Ytdilkgcoecipjaa
open Go.RowKit
set_option linter.unusedVariables false

/-- pages that came in: places and bytes, far from a disk's blocks -/
def IsPuts (w : World) (fp : Nat → Prop) (a : Option Addr) (ls : List (Int × List UInt8)) : Prop :=
  ∀ i, i < ls.length → ∃ ab ao q p c, a = some ⟨ab, ao, none⟩ ∧ ls[i]? = some q ∧ w.cell? ⟨ab, ao + i * 2, none⟩ = some (.int .i64 q.1) ∧ w.cell? ⟨ab, ao + i * 2 + 1, none⟩ = some (.slice p q.2.length c) ∧ Far w fp (.slice p q.2.length c) q.2

def homeSteps (ls : List (Int × List UInt8)) : List Stp := ls.map fun q => .write q.1 q.2
def finSteps (ls : List (Int × List UInt8)) : List Stp := homeSteps ls ++ [.sync, .write 0 [], .sync]

theorem infoFn : (Try.prog.info? 55).map (fun i => (i.zero, i.size, i.bytes)) = some (some .nilFunc, 1, 8) := by kernel_rfl

theorem wp_keep {p : Prop} (h : Hid p) : p := h.out

def Own (fp : Nat → Prop) (v : Value) : Nat → Prop := fun k => fp k ∨ v.ownBlock = some k

/-- the steps that were made so far -/
def FinAt (W : Nat) (d : Nat) (fp : Nat → Prop) (sts : List Stp) (w wr : World) (v : Value) : Prop :=
  ∃ xs : List Value, xs.length = sts.length ∧ wr.ownsRow W 55 1 v sts.length xs ∧ (∀ u ∈ xs, u.oneCell' = true) ∧ (∀ (i : Nat) (u : Value) (st : Stp), xs[i]? = some u → sts[i]? = some st → IsStp wr d (Own fp v) u st) ∧ Below W w wr ∧ W ≤ wr.heap.size

theorem IsStp.weak {w : World} {d : Nat} {fp fp' : Nat → Prop} {v : Value} {st : Stp} (h : IsStp w d fp' v st) (hf : ∀ k, fp k → fp' k) : IsStp w d fp v st := by
  cases st with
  | sync => exact h
  | write at_ l =>
    obtain ⟨g0, g1, g2, g3, va, vb, la, lb, h1, c0, c1, c2, c3, f1, f2, h2, h3, n0, n1, n2, n3⟩ := h
    exact ⟨g0, g1, g2, g3, va, vb, la, lb, h1, c0, c1, c2, c3, ⟨f1.1, fun hz g hg hh => f1.2 hz g hg (hf g hh)⟩, ⟨f2.1, fun hz g hg hh => f2.2 hz g hg (hf g hh)⟩, h2, h3, fun h => n0 (hf _ h), fun h => n1 (hf _ h), fun h => n2 (hf _ h), fun h => n3 (hf _ h)⟩

set_option maxRecDepth 100000 in
set_option maxHeartbeats 4000000 in
theorem finish_any (w : World) (d : Nat) (fp : Nat → Prop) (n : Nat) (s : DS) (a : Option Addr) (c : Nat) (ls : List (Int × List UInt8)) (h : Dsk w d fp n s) (hp : IsPuts w fp a ls) (hl : ls.length ≤ 400) (hb : ∀ q ∈ ls, q.2.length ≤ 600) (ho : s.ops + 1000 ≤ 1000000) :
    Calls Try.prog 56 #[.pointer (some ⟨d, 0, none⟩), .slice a ls.length c] w fun e w' => e = .returned (.int .i64 (runStps n s (finSteps ls)).2) ∧ DskTo w d fp n (runStps n s (finSteps ls)).1 w' := by
  have H := hid h
  have HP := hid hp
  have HB := hid hb
  have hmf : ∀ (fn : Fn) (first cap : Array Value) (w : World), (Instr.makeFunc fn first cap).run Try.prog w = .ok (.func fn first cap) w := fun fn first cap w => by simp [Instr.makeFunc]
  clear h hp hb
  go_enter Try.func56, Try.ntmps56
  go_wp2_with fail
  have F0 : Hid (FinAt w.heap.size d fp (homeSteps (ls.take 0)) w w (.slice none 0 0)) := hid ⟨[], rfl, World.ownsRow_nil _ _ _ _, by simp, by simp, Below.refl _ _, Nat.le_refl _⟩
  go_loopw [5, 10] (fun v i wr => ∃ j : Nat, j ≤ ls.length ∧ i = .int .i64 j ∧ FinAt w.heap.size d fp (homeSteps (ls.take j)) w wr v) (fun _ i _ => ls.length + 1 - (intOf i).toNat)
  case atStart => exact ⟨0, Nat.zero_le _, rfl, F0.out⟩
  case round =>
    obtain ⟨j, hj, rfl, hfin⟩ := hrel
    have F1 := hid hfin
    clear hfin F0
    by_cases hlt : j < ls.length
    · obtain ⟨ab, ao, q, p, pc, rfl, hq, k0, k1, hfar⟩ := HP.out j hlt
      obtain ⟨xs, hxl, hown, hone, hst, hbel, hsz⟩ := F1.out
      have hab : ab < w.heap.size := World.block_lt_of_cell? w ⟨ab, ao + j * 2, none⟩ k0
      have k0' : wr.cell? ⟨ab, ao + j * 2, none⟩ = some (.int .i64 q.1) := (hbel.cell (p := ⟨ab, ao + j * 2, none⟩) hab).trans k0
      have k1' : wr.cell? ⟨ab, ao + j * 2 + 1, none⟩ = some (.slice p q.2.length pc) := (hbel.cell (p := ⟨ab, ao + j * 2 + 1, none⟩) hab).trans k1
      have hlen : (homeSteps (ls.take j)).length = j := by simp [homeSteps]; omega
      rw [hlen] at hown hxl
      obtain ⟨sp, sc, rfl⟩ : ∃ p c, u5 = Value.slice p j c := by
        rcases hown.2 with ⟨h5, h6⟩ | ⟨g, cap, cur, h5, _⟩
        · exact ⟨none, 0, by rw [h5, h6]⟩
        · exact ⟨_, _, h5⟩
      have HLEN := hid hlen
      have HXL := hid hxl
      clear hlen hxl
      have HOWN := hid hown
      have HONE := hid hone
      have HST := hid hst
      have HBEL := hid hbel
      have hfar2 : Far wr (Own fp (.slice sp j sc)) (.slice p q.2.length pc) q.2 := ⟨(hfar.chg (Chg.new hbel fp) (fun k h => .inl h)).1, fun hz g hg ho => by
        have hgl := Rd.lt hfar.1 hz (by decide) g hg
        rcases ho with ho | ho
        · exact hfar.2 hz g hg ho
        · have := (hown.lt g ho).1; omega⟩
      have HFAR := hid hfar2
      have HOL := hid hown.lt
      have HQ := hid hq
      have hql : q.2.length ≤ 600 := HB.out q (List.mem_of_getElem? hq)
      have HFP := hid H.out.lt
      clear hown hone hst hbel hfar hq k0 k1 hab F1
      go_wp2_with fail
      have hba : Below wr.heap.size wr (wr.alloc (Obj.cells #[.int .i64 q.1, .slice p q.2.length pc] 108)) := (Below.refl _ _).alloc (Nat.le_refl _) _
      generalize wr.alloc (Obj.cells #[.int .i64 q.1, .slice p q.2.length pc] 108) = wa at hba ⊢
      have BA := hid hba
      clear hba
      have hfpa : ∀ k, Own fp (.slice sp j sc) k → k < wa.heap.size := fun k hk => by
        rcases hk with hk | hk
        · exact Nat.lt_of_lt_of_le (HFP.out k hk) (Nat.le_trans HBEL.out.size BA.out.size)
        · exact Nat.lt_of_lt_of_le (HOL.out k hk).2 BA.out.size
      refine (mkwr_any wa d (Own fp (.slice sp j sc)) q.1 (.slice none 0 0) (.slice p q.2.length pc) [] q.2 ⟨Rd.nil _ _, fun h => by simp at h⟩ (HFAR.out.chg (Chg.new BA.out _) (fun k h => .inl h)) (by simp; omega) hfpa).mono ?_
      rintro e1 w5 ⟨vf, rfl, hvf1, hvf, hb5⟩
      have B5 := hid (BA.out.trans (hb5.mono BA.out.size))
      obtain ⟨g0, g1, g2, g3, hvv⟩ : ∃ g0 g1 g2 g3, vf = .func (.func 82) #[] #[.pointer (some ⟨g0, 0, none⟩), .pointer (some ⟨g1, 0, none⟩), .pointer (some ⟨g2, 0, none⟩), .pointer (some ⟨g3, 0, none⟩)] := by
        obtain ⟨g0, g1, g2, g3, _, _, _, _, h, _⟩ := hvf
        exact ⟨g0, g1, g2, g3, h⟩
      have VF := hid hvf
      clear hvf hb5 hfpa
      subst hvv
      have O5 := hid (own_chg HOWN.out (Chg.new B5.out NoFp) (fun _ _ h => h))
      have BW5 := hid (HBEL.out.trans (B5.out.mono HBEL.out.size))
      have S5 : Hid (w.heap.size ≤ w5.heap.size) := hid BW5.out.size
      have HN : Hid (homeSteps (ls.take (j + 1)) = homeSteps (ls.take j) ++ [.write q.1 q.2]) := hid (by unfold homeSteps; rw [List.take_add_one, HQ.out]; simp)
      have hone1 : ∀ u ∈ [Value.func (.func 82) #[] #[.pointer (some ⟨g0, 0, none⟩), .pointer (some ⟨g1, 0, none⟩), .pointer (some ⟨g2, 0, none⟩), .pointer (some ⟨g3, 0, none⟩)]], u.oneCell' = true := fun u hu => by
        rw [List.mem_singleton] at hu
        rw [hu]; exact hvf1
      have HONE1 := hid hone1
      have hbase : w.heap.size ≤ (w5.alloc (Obj.cells #[.func (.func 82) #[] #[.pointer (some ⟨g0, 0, none⟩), .pointer (some ⟨g1, 0, none⟩), .pointer (some ⟨g2, 0, none⟩), .pointer (some ⟨g3, 0, none⟩)]] 55)).heap.size := by
        have := S5.out
        simp
        omega
      have HBASE := hid hbase
      clear hone1 hbase
      have hm1 : j + 1 ≤ maxLen := by simp only [maxLen]; omega
      have HM1 := hid hm1
      have hm8 : (j + 1) * 8 ≤ 140737488355328 := by omega
      have HM8 := hid hm8
      clear hm1 hm8
      have O6 := hid (O5.out.alloc (Obj.cells #[.func (.func 82) #[] #[.pointer (some ⟨g0, 0, none⟩), .pointer (some ⟨g1, 0, none⟩), .pointer (some ⟨g2, 0, none⟩), .pointer (some ⟨g3, 0, none⟩)]] 55))
      go_wp2_with (at_builtin; refine wp_keep ?_)
      refine hid ?_
      refine wpList_append_rd rfl _ _ 130 rfl w.heap.size 55 _ 1 8 Try.underlying130 infoFn rfl (by decide) (.slice sp j sc) j xs rfl O6.out (.slice (some ⟨w5.heap.size, 0, none⟩) 1 1) 1 [.func (.func 82) #[] #[.pointer (some ⟨g0, 0, none⟩), .pointer (some ⟨g1, 0, none⟩), .pointer (some ⟨g2, 0, none⟩), .pointer (some ⟨g3, 0, none⟩)]] rfl (Rd.fresh1 w5 (.func (.func 82) #[] #[.pointer (some ⟨g0, 0, none⟩), .pointer (some ⟨g1, 0, none⟩), .pointer (some ⟨g2, 0, none⟩), .pointer (some ⟨g3, 0, none⟩)]) 55) HONE1.out HM1.out HM8.out HBASE.out ?_
      intro pp cc w7 hown7 hg7 hb7
      have HO7 := hid hown7
      have HG7 := hid hg7
      have HB7 := hid hb7
      clear hown7 hg7 hb7
      go_wp2_with fail
      go_roundw
      case rel =>
        refine ⟨j + 1, by omega, by go_num, ?_⟩
        rw [HN.out]
        have hsub : ∀ k, Own fp (.slice pp (j + 1) cc) k → Own fp (.slice sp j sc) k ∨ (w5.alloc (Obj.cells #[.func (.func 82) #[] #[.pointer (some ⟨g0, 0, none⟩), .pointer (some ⟨g1, 0, none⟩), .pointer (some ⟨g2, 0, none⟩), .pointer (some ⟨g3, 0, none⟩)]] 55)).heap.size ≤ k := fun k hk => by
          rcases hk with hk | hk
          · exact .inl (.inl hk)
          · rcases HB7.out with h8 | h8
            · exact .inl (.inr (by rw [← h8]; exact hk))
            · rw [h8] at hk
              injection hk with hk
              exact .inr (by omega)
        have hchg : Chg (Own fp (.slice sp j sc)) (w5.alloc (Obj.cells #[.func (.func 82) #[] #[.pointer (some ⟨g0, 0, none⟩), .pointer (some ⟨g1, 0, none⟩), .pointer (some ⟨g2, 0, none⟩), .pointer (some ⟨g3, 0, none⟩)]] 55)) w7 := (Chg.grown HG7.out).mono (fun k _ h => .inr h)
        have mv : ∀ {u : Value} {st : Stp}, IsStp w5 d (Own fp (.slice sp j sc)) u st → IsStp w7 d (Own fp (.slice pp (j + 1) cc)) u st := fun {u st} h =>
          (h.chg (Chg.alloc _ _ _) (fun k h => .inl h)).chg hchg hsub
        refine ⟨xs ++ [.func (.func 82) #[] #[.pointer (some ⟨g0, 0, none⟩), .pointer (some ⟨g1, 0, none⟩), .pointer (some ⟨g2, 0, none⟩), .pointer (some ⟨g3, 0, none⟩)]], ?_, ?_, ?_, ?_, ?_, ?_⟩
        · rw [List.length_append, List.length_append, HXL.out, HLEN.out]; rfl
        · rw [List.length_append, HLEN.out]; exact HO7.out
        · intro u hu
          rcases List.mem_append.1 hu with h8 | h8
          · exact HONE.out u h8
          · exact HONE1.out u h8
        · intro i u st h8 h9
          rcases Nat.lt_or_ge i j with hij | hij
          · rw [List.getElem?_append_left (by rw [HXL.out]; exact hij)] at h8
            rw [List.getElem?_append_left (by rw [HLEN.out]; exact hij)] at h9
            exact mv ((HST.out i u st h8 h9).chg (Chg.new B5.out _) (fun k h => .inl h))
          · rw [List.getElem?_append_right (by rw [HXL.out]; exact hij), HXL.out] at h8
            rw [List.getElem?_append_right (by rw [HLEN.out]; exact hij), HLEN.out] at h9
            have hi0 : i - j = 0 := by
              rcases Nat.eq_zero_or_pos (i - j) with h | h
              · exact h
              · rw [List.getElem?_eq_none (by simp; omega)] at h8; cases h8
            rw [hi0] at h8 h9
            simp at h8 h9
            subst h8 h9
            exact mv VF.out
        · exact (BW5.out.alloc S5.out _).grown HG7.out HBASE.out (fun k hk => (HOL.out k hk).1)
        · exact Nat.le_trans HBASE.out HG7.out.size
      case measure => simp [intOf]; omega
    · obtain rfl : j = ls.length := by omega
      rw [List.take_length] at F1
      obtain ⟨xs, hxl, hown, hone, hst, hbel, hsz⟩ := F1.out
      have hlen : (homeSteps ls).length = ls.length := by simp [homeSteps]
      rw [hlen] at hown hxl
      obtain ⟨sp, sc, rfl⟩ : ∃ p c, u5 = Value.slice p ls.length c := by
        rcases hown.2 with ⟨h5, h6⟩ | ⟨g, cap, cur, h5, _⟩
        · exact ⟨none, 0, by rw [h5, h6]⟩
        · exact ⟨_, _, h5⟩
      have HLEN := hid hlen
      have HXL := hid hxl
      have HOWN := hid hown
      have HONE := hid hone
      have HST := hid hst
      have HBEL := hid hbel
      have HFP := hid H.out.lt
      clear hown hone hst hbel hlen hxl F1
      have hfpa : ∀ k, Own fp (.slice sp ls.length sc) k → k < wr.heap.size := fun k hk => by
        rcases hk with hk | hk
        · exact Nat.lt_of_lt_of_le (HFP.out k hk) HBEL.out.size
        · exact (HOWN.out.lt k hk).2
      have HFA := hid hfpa
      clear hfpa
      go_wp2_with fail
      refine (mkwr_any wr d (Own fp (.slice sp ls.length sc)) 0 (.slice none 0 0) (.slice none 0 0) [] [] ⟨Rd.nil _ _, fun h => by simp at h⟩ ⟨Rd.nil _ _, fun h => by simp at h⟩ (by simp) HFA.out).mono ?_
      rintro e1 w5 ⟨vf, rfl, hvf1, hvf, hb5⟩
      obtain ⟨g0, g1, g2, g3, hvv⟩ : ∃ g0 g1 g2 g3, vf = .func (.func 82) #[] #[.pointer (some ⟨g0, 0, none⟩), .pointer (some ⟨g1, 0, none⟩), .pointer (some ⟨g2, 0, none⟩), .pointer (some ⟨g3, 0, none⟩)] := by
        obtain ⟨g0, g1, g2, g3, _, _, _, _, h, _⟩ := hvf
        exact ⟨g0, g1, g2, g3, h⟩
      have VF := hid hvf
      have B5 := hid hb5
      clear hvf hb5
      subst hvv
      have O5 := hid (own_chg HOWN.out (Chg.new B5.out NoFp) (fun _ _ h => h))
      have BW5 := hid (HBEL.out.trans (B5.out.mono HBEL.out.size))
      have S5 : Hid (w.heap.size ≤ w5.heap.size) := hid BW5.out.size
      have HONE1 : Hid (∀ u ∈ [Value.func (.func 72) #[.pointer (some ⟨d, 0, none⟩)] #[], .func (.func 82) #[] #[.pointer (some ⟨g0, 0, none⟩), .pointer (some ⟨g1, 0, none⟩), .pointer (some ⟨g2, 0, none⟩), .pointer (some ⟨g3, 0, none⟩)], .func (.func 72) #[.pointer (some ⟨d, 0, none⟩)] #[]], u.oneCell' = true) := hid (fun u hu => by
        simp only [List.mem_cons, List.not_mem_nil, or_false] at hu
        rcases hu with h | h | h <;> subst h <;> rfl)
      have HBASE : Hid (w.heap.size ≤ (w5.alloc (Obj.cells #[.func (.func 72) #[.pointer (some ⟨d, 0, none⟩)] #[], .func (.func 82) #[] #[.pointer (some ⟨g0, 0, none⟩), .pointer (some ⟨g1, 0, none⟩), .pointer (some ⟨g2, 0, none⟩), .pointer (some ⟨g3, 0, none⟩)], .func (.func 72) #[.pointer (some ⟨d, 0, none⟩)] #[]] 55)).heap.size) := hid (by have := S5.out; simp; omega)
      have HM1 : Hid (ls.length + 3 ≤ maxLen) := hid (by simp only [maxLen]; omega)
      have HM8 : Hid ((ls.length + 3) * 8 ≤ 140737488355328) := hid (by omega)
      have O6 := hid (O5.out.alloc (Obj.cells #[.func (.func 72) #[.pointer (some ⟨d, 0, none⟩)] #[], .func (.func 82) #[] #[.pointer (some ⟨g0, 0, none⟩), .pointer (some ⟨g1, 0, none⟩), .pointer (some ⟨g2, 0, none⟩), .pointer (some ⟨g3, 0, none⟩)], .func (.func 72) #[.pointer (some ⟨d, 0, none⟩)] #[]] 55))
      go_wp2_with (at_builtin; refine wp_keep ?_)
      refine hid ?_
      refine wpList_append_rd rfl _ _ 130 rfl w.heap.size 55 _ 1 8 Try.underlying130 infoFn rfl (by decide) (.slice sp ls.length sc) ls.length xs rfl O6.out (.slice (some ⟨w5.heap.size, 0, none⟩) 3 3) 3 [Value.func (.func 72) #[.pointer (some ⟨d, 0, none⟩)] #[], .func (.func 82) #[] #[.pointer (some ⟨g0, 0, none⟩), .pointer (some ⟨g1, 0, none⟩), .pointer (some ⟨g2, 0, none⟩), .pointer (some ⟨g3, 0, none⟩)], .func (.func 72) #[.pointer (some ⟨d, 0, none⟩)] #[]] rfl (Rd.fresh w5 [Value.func (.func 72) #[.pointer (some ⟨d, 0, none⟩)] #[], .func (.func 82) #[] #[.pointer (some ⟨g0, 0, none⟩), .pointer (some ⟨g1, 0, none⟩), .pointer (some ⟨g2, 0, none⟩), .pointer (some ⟨g3, 0, none⟩)], .func (.func 72) #[.pointer (some ⟨d, 0, none⟩)] #[]] 55 (by simp [maxLen])) HONE1.out HM1.out HM8.out HBASE.out ?_
      intro pp cc w7 hown7 hg7 hb7
      have HO7 := hid hown7
      have HG7 := hid hg7
      have HB7 := hid hb7
      clear hown7 hg7 hb7
      have hsub : ∀ k, Own fp (.slice pp (ls.length + 3) cc) k → Own fp (.slice sp ls.length sc) k ∨ (w5.alloc (Obj.cells #[.func (.func 72) #[.pointer (some ⟨d, 0, none⟩)] #[], .func (.func 82) #[] #[.pointer (some ⟨g0, 0, none⟩), .pointer (some ⟨g1, 0, none⟩), .pointer (some ⟨g2, 0, none⟩), .pointer (some ⟨g3, 0, none⟩)], .func (.func 72) #[.pointer (some ⟨d, 0, none⟩)] #[]] 55)).heap.size ≤ k := fun k hk => by
        rcases hk with hk | hk
        · exact .inl (.inl hk)
        · rcases HB7.out with h8 | h8
          · exact .inl (.inr (by rw [← h8]; exact hk))
          · rw [h8] at hk
            injection hk with hk
            exact .inr (by omega)
      have hchg : Chg (Own fp (.slice sp ls.length sc)) (w5.alloc (Obj.cells #[.func (.func 72) #[.pointer (some ⟨d, 0, none⟩)] #[], .func (.func 82) #[] #[.pointer (some ⟨g0, 0, none⟩), .pointer (some ⟨g1, 0, none⟩), .pointer (some ⟨g2, 0, none⟩), .pointer (some ⟨g3, 0, none⟩)], .func (.func 72) #[.pointer (some ⟨d, 0, none⟩)] #[]] 55)) w7 := (Chg.grown HG7.out).mono (fun k _ h => .inr h)
      have mv : ∀ {u : Value} {st : Stp}, IsStp w5 d (Own fp (.slice sp ls.length sc)) u st → IsStp w7 d fp u st := fun {u st} h =>
        ((h.chg (Chg.alloc _ _ _) (fun k h => .inl h)).chg hchg hsub).weak (fun k h => .inl h)
      have hfl : (finSteps ls).length = ls.length + 3 := by unfold finSteps; rw [List.length_append, HLEN.out]; rfl
      have hall : IsAll w7 d fp pp (finSteps ls) := fun i hi => by
        rw [hfl] at hi
        obtain ⟨g, rfl⟩ : ∃ g, pp = some ⟨g, 0, none⟩ := by
          rcases HO7.out.2 with ⟨_, h6⟩ | ⟨g, cap, cur, h5, _⟩
          · omega
          · injection h5 with h5 _ _
            exact ⟨g, h5⟩
        have hcells := HO7.out.cells (g := g) rfl
        have hgb := HO7.out.lt g rfl
        have hng : ¬ fp g := fun hh => by have := HFP.out g hh; omega
        have hat : ∀ u, (xs ++ [Value.func (.func 72) #[.pointer (some ⟨d, 0, none⟩)] #[], .func (.func 82) #[] #[.pointer (some ⟨g0, 0, none⟩), .pointer (some ⟨g1, 0, none⟩), .pointer (some ⟨g2, 0, none⟩), .pointer (some ⟨g3, 0, none⟩)], .func (.func 72) #[.pointer (some ⟨d, 0, none⟩)] #[]])[i]? = some u → w7.cell? ⟨g, 0 + i, none⟩ = some u := fun u hu => by
          have h9 := hcells i u hu
          rw [Addr.add_off _ rfl] at h9
          exact h9
        rcases Nat.lt_or_ge i ls.length with hij | hij
        · have hx : xs[i]? = some (xs[i]'(by rw [HXL.out]; exact hij)) := List.getElem?_eq_getElem _
          have hs : (homeSteps ls)[i]? = some ((homeSteps ls)[i]'(by rw [HLEN.out]; exact hij)) := List.getElem?_eq_getElem _
          refine ⟨g, 0, _, _, rfl, ?_, hat _ (by rw [List.getElem?_append_left (by rw [HXL.out]; exact hij)]; exact hx), hng, mv ((HST.out i _ _ hx hs).chg (Chg.new B5.out _) (fun k h => .inl h))⟩
          unfold finSteps
          rw [List.getElem?_append_left (by rw [HLEN.out]; exact hij)]
          exact hs
        · have hx : ∀ u, [Value.func (.func 72) #[.pointer (some ⟨d, 0, none⟩)] #[], .func (.func 82) #[] #[.pointer (some ⟨g0, 0, none⟩), .pointer (some ⟨g1, 0, none⟩), .pointer (some ⟨g2, 0, none⟩), .pointer (some ⟨g3, 0, none⟩)], .func (.func 72) #[.pointer (some ⟨d, 0, none⟩)] #[]][i - ls.length]? = some u → (xs ++ [Value.func (.func 72) #[.pointer (some ⟨d, 0, none⟩)] #[], .func (.func 82) #[] #[.pointer (some ⟨g0, 0, none⟩), .pointer (some ⟨g1, 0, none⟩), .pointer (some ⟨g2, 0, none⟩), .pointer (some ⟨g3, 0, none⟩)], .func (.func 72) #[.pointer (some ⟨d, 0, none⟩)] #[]])[i]? = some u := fun u hu => by
            rw [List.getElem?_append_right (by rw [HXL.out]; exact hij), HXL.out]; exact hu
          have hs : ∀ st, [Stp.sync, .write 0 [], .sync][i - ls.length]? = some st → (finSteps ls)[i]? = some st := fun st hu => by
            unfold finSteps
            rw [List.getElem?_append_right (by rw [HLEN.out]; exact hij), HLEN.out]; exact hu
          rcases (show i - ls.length = 0 ∨ i - ls.length = 1 ∨ i - ls.length = 2 by omega) with h | h | h
          · exact ⟨g, 0, _, .sync, rfl, hs _ (by rw [h]; rfl), hat _ (hx _ (by rw [h]; rfl)), hng, rfl⟩
          · exact ⟨g, 0, _, .write 0 [], rfl, hs _ (by rw [h]; rfl), hat _ (hx _ (by rw [h]; rfl)), hng, mv VF.out⟩
          · exact ⟨g, 0, _, .sync, rfl, hs _ (by rw [h]; rfl), hat _ (hx _ (by rw [h]; rfl)), hng, rfl⟩
      have hb7 : Below w.heap.size w w7 := (BW5.out.alloc S5.out _).grown HG7.out HBASE.out (fun k hk => (HOWN.out.lt k hk).1)
      have HALL := hid hall
      have BB7 := hid hb7
      have HFL := hid hfl
      clear hsub hchg mv hall hb7 hfl
      go_wp2_with fail
      refine (all_any w7 d fp n s pp (ls.length + 3) cc (finSteps ls) (H.out.chg (Chg.new BB7.out NoFp) (fun _ _ h => h)) HFL.out.symm (by omega) HALL.out ho).mono ?_
      rintro e1 w8 ⟨rfl, hto⟩
      have T8 := hid (DskTo.trans (Chg.new BB7.out fp) (fun k h => .inl h) hto)
      clear hto
      go_wp2_with fail
      go_ret
      exact ⟨rfl, T8.out⟩
end Go.Proofs.Ytdilkgcoecipjaa

namespace Go.Proofs.Ytdilkgcoecipjaa
open Go.RowKit
set_option linter.unusedVariables false

theorem home_any (w : World) (d : Nat) (fp : Nat → Prop) (n : Nat) (s : DS) (at_ : Int) (h : Dsk w d fp n s) :
    Calls Try.prog 55 #[.pointer (some ⟨d, 0, none⟩), .int .i64 at_] w fun e w' => e = .returned (.bool (decide (401 ≤ at_ ∧ at_ < n))) ∧ w = w' := by
  have H := hid h
  clear h
  by_cases h1 : 401 ≤ at_
  · by_cases h2 : at_ < (n : Int)
    · have hd : decide (401 ≤ at_ ∧ at_ < (n : Int)) = true := by simp; omega
      have HD := hid hd
      clear hd
      go_enter Try.func55, Try.ntmps55
      go_wp2_with fail
      refine (dSize_any w d fp n s H.out).mono ?_; rintro e1 wx ⟨rfl, hw⟩
      subst hw
      go_wp2_with fail
      go_ret
      refine ⟨?_, rfl⟩
      have hd := HD.out
      simp at hd ⊢
      first | done | omega
    · have hd : decide (401 ≤ at_ ∧ at_ < (n : Int)) = false := by simp; omega
      have HD := hid hd
      clear hd
      go_enter Try.func55, Try.ntmps55
      go_wp2_with fail
      refine (dSize_any w d fp n s H.out).mono ?_; rintro e1 wx ⟨rfl, hw⟩
      subst hw
      go_wp2_with fail
      go_ret
      refine ⟨?_, rfl⟩
      have hd := HD.out
      simp at hd ⊢
      first | done | omega
  · have hd : decide (401 ≤ at_ ∧ at_ < (n : Int)) = false := by simp; omega
    have HD := hid hd
    clear hd
    go_enter Try.func55, Try.ntmps55
    go_wp2_with fail
    go_ret
    refine ⟨?_, rfl⟩
    have hd := HD.out
    simp at hd ⊢
    first | done | omega

def pad504 (l : List UInt8) : List UInt8 := l ++ List.replicate (504 - l.length) 0
end Go.Proofs.Ytdilkgcoecipjaa
