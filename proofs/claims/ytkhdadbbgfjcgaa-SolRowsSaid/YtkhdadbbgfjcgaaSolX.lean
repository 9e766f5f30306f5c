/- terms as texts. -/
import Derived.Test.YtkhdadbbgfjcgaaSolQ
import Derived.Test.YtkhdadbbgfjcgaaOrd
namespace Go.Proofs.Ytkhdadbbgfjcgaa
open Go.RowKit
set_option linter.unusedVariables false

/-- operations on texts, whatever the world -/
theorem exec_add {P : Program} {w : World} {a : Act} {o : Oper} (t ty : TypeId) (x y : Operand) (ho : o.op = .binOp .add t x y ty) (l m : List UInt8) (hx : a.eval x = .string (B l)) (hy : a.eval y = .string (B m)) (hl : l.length + m.length ≤ 1000000000) :
    (execOp a.eval o).run P w = .ok (.value (.string (B (l ++ m)))) w := by
  have h : ¬ (((B l).size + (B m).size : Nat) : Int) > IntKind.i64.max := by rw [B_size, B_size]; simp [IntKind.max, IntKind.bits, IntKind.signed]; omega
  unfold execOp
  simp only [ho, hx, hy, binOp_string_add, Op.stringOp, if_neg h, B_append, Sem.run_bind, Sem.run_pure]
  simp [eqGuard]

/-- a term's cells -/
def TermAt (w : World) (g : Nat) (t : T4) : Prop :=
  w.cell? ⟨g, 0, none⟩ = some (.int .i64 t.1) ∧ w.cell? ⟨g, 1, none⟩ = some (.string (B t.2.1)) ∧ w.cell? ⟨g, 2, none⟩ = some (.string (B t.2.2.1)) ∧ w.cell? ⟨g, 3, none⟩ = some (.string (B t.2.2.2))
theorem TermAt.of {w : World} {g : Nat} {t : T4} (h : Blk w g (tc t) TT) : TermAt w g t := by
  have h := blk4 (x0 := .int .i64 t.1) (x1 := .string (B t.2.1)) (x2 := .string (B t.2.2.1)) (x3 := .string (B t.2.2.2)) h
  exact ⟨h.1, h.2.1, h.2.2.1, h.2.2.2.1⟩

theorem TermAt.new {w w' : World} {g : Nat} {t : T4} (h : TermAt w g t) (hb : Below w.heap.size w w') (hg : g < w.heap.size) : TermAt w' g t :=
  ⟨(hb.cell (p := ⟨g, 0, none⟩) hg).trans h.1, (hb.cell (p := ⟨g, 1, none⟩) hg).trans h.2.1, (hb.cell (p := ⟨g, 2, none⟩) hg).trans h.2.2.1, (hb.cell (p := ⟨g, 3, none⟩) hg).trans h.2.2.2⟩

set_option maxRecDepth 100000 in
set_option maxHeartbeats 4000000 in
theorem termText_any (t : T4) (w : World) (ht : OkT t) :
    Calls Try.prog 35 #[tv t] w fun e w' => e = .returned (.string (B (termP t))) ∧ Below w.heap.size w w' := by
  have l1 := ht.s
  have l2 := ht.l
  have l3 := ht.y
  have lq := quotedP_len t.2.1
  clear ht
  obtain ⟨k, s, la, ty⟩ := t
  simp only at l1 l2 l3 lq
  have hz : Blk (w.alloc (Obj.cells (tc (k, s, la, ty)).toArray TT)) w.heap.size (tc (k, s, la, ty)) TT := heap_alloc_new w _
  have hzb := (Below.refl w.heap.size w).alloc (Nat.le_refl _) (Obj.cells (tc (k, s, la, ty)).toArray TT)
  obtain ⟨k0, k1, k2, k3⟩ := TermAt.of hz
  have HB := hid hzb
  have HZ := hid (TermAt.of hz)
  have hlt := hz.lt
  clear hz hzb
  by_cases h1 : k = 1
  · have hp : termP (k, s, la, ty) = [60] ++ s ++ [62] := by unfold termP; rw [if_pos h1]
    rw [hp]
    clear hp
    subst h1
    go_enter Try.func35, Try.ntmps35
    go_wp2_with fail
    go_ret
    exact ⟨rfl, HB.out⟩
  by_cases h2 : k = 2
  · have hp : termP (k, s, la, ty) = [95, 58] ++ s := by unfold termP; rw [if_neg h1, if_pos h2]
    rw [hp]
    clear hp
    subst h2
    go_enter Try.func35, Try.ntmps35
    go_wp2_with fail
    go_ret
    exact ⟨rfl, HB.out⟩
  by_cases h3 : la = []
  case neg =>
    have hp : termP (k, s, la, ty) = quotedP s ++ 64 :: la := by unfold termP; rw [if_neg h1, if_neg h2, if_pos h3]
    rw [hp]
    have hb3 : (la == []) = false := by cases la; exact absurd rfl h3; rfl
    clear hp
    go_enter Try.func35, Try.ntmps35
    go_wp2_with fail
    generalize w.alloc (Obj.cells (tc (k, s, la, ty)).toArray TT) = w0 at k0 k1 k2 k3 HB HZ hlt ⊢
    refine wp_region_plan (fun w' => TermAt w' w.heap.size (k, s, la, ty)) (fun j => !([2].contains j)) (fun _ => false)
      (.of [0, 1, 4, 5, 2, 3, 6, 7]) (by kernel_rfl) (by kernel_rfl) rfl (by kernel_rfl) (by kernel_rfl) HZ.out ?_
    iterate 4 (apply wpPlan_val; (case ho => rfl); (case hst => rfl); (case hw => rfl); (case hv => intro w' hS; obtain ⟨c0, c1, c2, c3⟩ := hS; go_simp; first | done | rfl | (rw [if_neg (by (try simp only [List.length_append, List.length_cons, List.length_nil]); omega)])); intro K hK; go_simp; refine hK _ ?_; clear hK K)
    refine wpPlan_list rfl rfl rfl (fun K hK => ?_)
    refine wpList_step (fun K2 hK2 => ?_)
    go_simp
    refine (quoted_any s w0.drew (by omega)).mono ?_
    rintro e2 w2 ⟨rfl, hb2⟩
    have HZ2 := hid (HZ.out.new (w := w0.drew) hb2 (by simpa using hlt))
    have HB2 := hid (HB.out.drew.trans (hb2.mono (by simpa using Nat.le_of_lt hlt)))
    clear hb2
    go_simp
    refine hK2 _ _ ?_
    clear hK2 K2
    simp only [wpList]
    refine hK _ _ (fun _ => HZ2.out) ?_
    clear hK K
    iterate 3 (apply wpPlan_val; (case ho => rfl); (case hst => rfl); (case hw => rfl); (case hv => intro w' hS; obtain ⟨c0, c1, c2, c3⟩ := hS; go_simp; first | done | rfl | (rw [if_neg (by (try simp only [List.length_append, List.length_cons, List.length_nil]); omega)])); intro K hK; go_simp; refine hK _ ?_; clear hK K)
    refine wpPlan_nil ?_
    simp only [Qn]
    go_wp2_with fail
    go_ret
    exact ⟨rfl, HB2.out⟩
  have hb3 : (la == []) = true := by rw [h3]; rfl
  have H3 := hid h3
  clear h3
  by_cases h4 : ty = []
  case neg =>
    have hp : termP (k, s, la, ty) = quotedP s ++ 94 :: 94 :: 60 :: (ty ++ [62]) := by unfold termP; rw [if_neg h1, if_neg h2, if_neg (by simp [H3.out]), if_pos h4]
    rw [hp]
    have hb4 : (ty == []) = false := by cases ty; exact absurd rfl h4; rfl
    clear hp
    go_enter Try.func35, Try.ntmps35
    go_wp2_with fail
    generalize w.alloc (Obj.cells (tc (k, s, la, ty)).toArray TT) = w0 at k0 k1 k2 k3 HB HZ hlt ⊢
    refine wp_region_plan (fun w' => TermAt w' w.heap.size (k, s, la, ty)) (fun j => !([2].contains j)) (fun _ => false)
      (.of [0, 1, 4, 5, 2, 3, 6, 7, 8]) (by kernel_rfl) (by kernel_rfl) rfl (by kernel_rfl) (by kernel_rfl) HZ.out ?_
    iterate 4 (apply wpPlan_val; (case ho => rfl); (case hst => rfl); (case hw => rfl); (case hv => intro w' hS; obtain ⟨c0, c1, c2, c3⟩ := hS; go_simp; first | done | rfl | (rw [if_neg (by (try simp only [List.length_append, List.length_cons, List.length_nil]); omega)])); intro K hK; go_simp; refine hK _ ?_; clear hK K)
    refine wpPlan_list rfl rfl rfl (fun K hK => ?_)
    refine wpList_step (fun K2 hK2 => ?_)
    go_simp
    refine (quoted_any s w0.drew (by omega)).mono ?_
    rintro e2 w2 ⟨rfl, hb2⟩
    have HZ2 := hid (HZ.out.new (w := w0.drew) hb2 (by simpa using hlt))
    have HB2 := hid (HB.out.drew.trans (hb2.mono (by simpa using Nat.le_of_lt hlt)))
    clear hb2
    go_simp
    refine hK2 _ _ ?_
    clear hK2 K2
    simp only [wpList]
    refine hK _ _ (fun _ => HZ2.out) ?_
    clear hK K
    iterate 4 (apply wpPlan_val; (case ho => rfl); (case hst => rfl); (case hw => rfl); (case hv => intro w' hS; obtain ⟨c0, c1, c2, c3⟩ := hS; go_simp; first | done | rfl | (rw [if_neg (by (try simp only [List.length_append, List.length_cons, List.length_nil]); omega)])); intro K hK; go_simp; refine hK _ ?_; clear hK K)
    refine wpPlan_nil ?_
    simp only [Qn]
    go_wp2_with fail
    go_ret
    exact ⟨rfl, HB2.out⟩
  have hb4 : (ty == []) = true := by rw [h4]; rfl
  have H4 := hid h4
  clear h4
  have hp : termP (k, s, la, ty) = quotedP s := by unfold termP; rw [if_neg h1, if_neg h2, if_neg (by simp [H3.out]), if_neg (by simp [H4.out])]
  rw [hp]
  clear hp
  go_enter Try.func35, Try.ntmps35
  go_wp2_with fail
  refine (quoted_any s _ (by omega)).mono ?_
  rintro e2 w2 ⟨rfl, hb2⟩
  have HB2 := hid (HB.out.trans (hb2.mono (Nat.le_of_lt hlt)))
  clear hb2
  go_wp2_with fail
  go_ret
  exact ⟨rfl, HB2.out⟩
set_option maxRecDepth 100000 in
set_option maxHeartbeats 4000000 in
theorem rTermText_any (t : T4) (w : World) (ht : OkT t) :
    Calls Try.prog 43 #[tv t] w fun e w' => e = .returned (.string (B (termP t))) ∧ Below w.heap.size w w' := by
  have l1 := ht.s
  have l2 := ht.l
  have l3 := ht.y
  have lq := quotedP_len t.2.1
  clear ht
  obtain ⟨k, s, la, ty⟩ := t
  simp only at l1 l2 l3 lq
  have hz : Blk (w.alloc (Obj.cells (tc (k, s, la, ty)).toArray TT)) w.heap.size (tc (k, s, la, ty)) TT := heap_alloc_new w _
  have hzb := (Below.refl w.heap.size w).alloc (Nat.le_refl _) (Obj.cells (tc (k, s, la, ty)).toArray TT)
  obtain ⟨k0, k1, k2, k3⟩ := TermAt.of hz
  have HB := hid hzb
  have HZ := hid (TermAt.of hz)
  have hlt := hz.lt
  clear hz hzb
  by_cases h1 : k = 1
  · have hp : termP (k, s, la, ty) = [60] ++ s ++ [62] := by unfold termP; rw [if_pos h1]
    rw [hp]
    clear hp
    subst h1
    go_enter Try.func43, Try.ntmps43
    go_wp2_with fail
    go_ret
    exact ⟨rfl, HB.out⟩
  by_cases h2 : k = 2
  · have hp : termP (k, s, la, ty) = [95, 58] ++ s := by unfold termP; rw [if_neg h1, if_pos h2]
    rw [hp]
    clear hp
    subst h2
    go_enter Try.func43, Try.ntmps43
    go_wp2_with fail
    go_ret
    exact ⟨rfl, HB.out⟩
  by_cases h3 : la = []
  case neg =>
    have hp : termP (k, s, la, ty) = quotedP s ++ 64 :: la := by unfold termP; rw [if_neg h1, if_neg h2, if_pos h3]
    rw [hp]
    have hb3 : (la == []) = false := by cases la; exact absurd rfl h3; rfl
    clear hp
    go_enter Try.func43, Try.ntmps43
    go_wp2_with fail
    generalize w.alloc (Obj.cells (tc (k, s, la, ty)).toArray TT) = w0 at k0 k1 k2 k3 HB HZ hlt ⊢
    refine wp_region_plan (fun w' => TermAt w' w.heap.size (k, s, la, ty)) (fun j => !([2].contains j)) (fun _ => false)
      (.of [0, 1, 4, 5, 2, 3, 6, 7]) (by kernel_rfl) (by kernel_rfl) rfl (by kernel_rfl) (by kernel_rfl) HZ.out ?_
    iterate 4 (apply wpPlan_val; (case ho => rfl); (case hst => rfl); (case hw => rfl); (case hv => intro w' hS; obtain ⟨c0, c1, c2, c3⟩ := hS; go_simp; first | done | rfl | (rw [if_neg (by (try simp only [List.length_append, List.length_cons, List.length_nil]); omega)])); intro K hK; go_simp; refine hK _ ?_; clear hK K)
    refine wpPlan_list rfl rfl rfl (fun K hK => ?_)
    refine wpList_step (fun K2 hK2 => ?_)
    go_simp
    refine (rQuoted_any s w0.drew (by omega)).mono ?_
    rintro e2 w2 ⟨rfl, hb2⟩
    subst hb2
    have HZ2 : Hid (TermAt w0.drew w.heap.size (k, s, la, ty)) := hid HZ.out
    have HB2 := hid HB.out.drew
    go_simp
    refine hK2 _ _ ?_
    clear hK2 K2
    simp only [wpList]
    refine hK _ _ (fun _ => HZ2.out) ?_
    clear hK K
    iterate 3 (apply wpPlan_val; (case ho => rfl); (case hst => rfl); (case hw => rfl); (case hv => intro w' hS; obtain ⟨c0, c1, c2, c3⟩ := hS; go_simp; first | done | rfl | (rw [if_neg (by (try simp only [List.length_append, List.length_cons, List.length_nil]); omega)])); intro K hK; go_simp; refine hK _ ?_; clear hK K)
    refine wpPlan_nil ?_
    simp only [Qn]
    go_wp2_with fail
    go_ret
    exact ⟨rfl, HB2.out⟩
  have hb3 : (la == []) = true := by rw [h3]; rfl
  have H3 := hid h3
  clear h3
  by_cases h4 : ty = []
  case neg =>
    have hp : termP (k, s, la, ty) = quotedP s ++ 94 :: 94 :: 60 :: (ty ++ [62]) := by unfold termP; rw [if_neg h1, if_neg h2, if_neg (by simp [H3.out]), if_pos h4]
    rw [hp]
    have hb4 : (ty == []) = false := by cases ty; exact absurd rfl h4; rfl
    clear hp
    go_enter Try.func43, Try.ntmps43
    go_wp2_with fail
    generalize w.alloc (Obj.cells (tc (k, s, la, ty)).toArray TT) = w0 at k0 k1 k2 k3 HB HZ hlt ⊢
    refine wp_region_plan (fun w' => TermAt w' w.heap.size (k, s, la, ty)) (fun j => !([2].contains j)) (fun _ => false)
      (.of [0, 1, 4, 5, 2, 3, 6, 7, 8]) (by kernel_rfl) (by kernel_rfl) rfl (by kernel_rfl) (by kernel_rfl) HZ.out ?_
    iterate 4 (apply wpPlan_val; (case ho => rfl); (case hst => rfl); (case hw => rfl); (case hv => intro w' hS; obtain ⟨c0, c1, c2, c3⟩ := hS; go_simp; first | done | rfl | (rw [if_neg (by (try simp only [List.length_append, List.length_cons, List.length_nil]); omega)])); intro K hK; go_simp; refine hK _ ?_; clear hK K)
    refine wpPlan_list rfl rfl rfl (fun K hK => ?_)
    refine wpList_step (fun K2 hK2 => ?_)
    go_simp
    refine (rQuoted_any s w0.drew (by omega)).mono ?_
    rintro e2 w2 ⟨rfl, hb2⟩
    subst hb2
    have HZ2 : Hid (TermAt w0.drew w.heap.size (k, s, la, ty)) := hid HZ.out
    have HB2 := hid HB.out.drew
    go_simp
    refine hK2 _ _ ?_
    clear hK2 K2
    simp only [wpList]
    refine hK _ _ (fun _ => HZ2.out) ?_
    clear hK K
    iterate 4 (apply wpPlan_val; (case ho => rfl); (case hst => rfl); (case hw => rfl); (case hv => intro w' hS; obtain ⟨c0, c1, c2, c3⟩ := hS; go_simp; first | done | rfl | (rw [if_neg (by (try simp only [List.length_append, List.length_cons, List.length_nil]); omega)])); intro K hK; go_simp; refine hK _ ?_; clear hK K)
    refine wpPlan_nil ?_
    simp only [Qn]
    go_wp2_with fail
    go_ret
    exact ⟨rfl, HB2.out⟩
  have hb4 : (ty == []) = true := by rw [h4]; rfl
  have H4 := hid h4
  clear h4
  have hp : termP (k, s, la, ty) = quotedP s := by unfold termP; rw [if_neg h1, if_neg h2, if_neg (by simp [H3.out]), if_neg (by simp [H4.out])]
  rw [hp]
  clear hp
  go_enter Try.func43, Try.ntmps43
  go_wp2_with fail
  refine (rQuoted_any s _ (by omega)).mono ?_
  rintro e2 w2 ⟨rfl, hb2⟩
  subst hb2
  have HB2 := HB
  go_wp2_with fail
  go_ret
  exact ⟨rfl, HB2.out⟩
end Go.Proofs.Ytkhdadbbgfjcgaa
