/- iri.beside, strings.Join of five. -/
import Derived.Test.YtmelcnnpjooocaaIriV
namespace Go.Proofs.Ytmelcnnpjooocaa
open Go.RowKit
set_option linter.unusedVariables false

theorem join_any (w : World) (g : Nat) (o : P5) (h : V5p w g o) (hl : o.sc.length + o.au.length + o.pa.length + o.qu.length + o.fr.length ≤ 1000000) :
    Calls Try.prog 19 #[.slice (some ⟨g, 0, none⟩) 5 5, .string ⟨#[]⟩] w fun e w' => e = .returned (.string (B (o.sc ++ (o.au ++ (o.pa ++ (o.qu ++ o.fr)))))) ∧ Below w.heap.size w w' := by
  have hj : Go.Lib.join ([B o.sc, B o.au, B o.pa, B o.qu, B o.fr].map (·.data.toList)) (⟨#[]⟩ : ByteArray).data.toList = o.sc ++ (o.au ++ (o.pa ++ (o.qu ++ o.fr))) := by
    simp [Go.Lib.join, List.intercalate, B]
  have hc := Try.strings_Join g 0 5 [B o.sc, B o.au, B o.pa, B o.qu, B o.fr] ⟨#[]⟩ w (fun j x hx => by
    obtain ⟨c0, c1, c2, c3, c4, _⟩ := five_cells h
    match j, hx with
    | 0, hx => simp at hx; subst hx; exact c0
    | 1, hx => simp at hx; subst hx; exact c1
    | 2, hx => simp at hx; subst hx; exact c2
    | 3, hx => simp at hx; subst hx; exact c3
    | 4, hx => simp at hx; subst hx; exact c4
    | j + 5, hx => simp at hx) (Blk.lt h) (by simp) (by simp) (by rw [hj]; simp only [List.length_append]; omega)
  rw [hj] at hc
  exact hc

theorem li_m (l : List UInt8) (m : Nat) (hm : last l = (m : Int) - 1) (w : World) (h : l.length ≤ 1000000) : Calls Try.prog 26 #[.string (B l), .int .u8 47] w fun e w' => e = .returned (.int .i64 ((m : Int) - 1)) ∧ w = w' := by
  rw [← hm]
  exact li_any l w h

set_option maxRecDepth 100000 in
theorem beside_any (x : P5) (r : List UInt8) (w : World) (hx : x.sc.length + x.au.length + x.pa.length + x.qu.length + x.fr.length ≤ 1000) (hr : r.length ≤ 1000) :
    Calls Try.prog 18 #[.agg #[.string (B x.sc), .string (B x.au), .string (B x.pa), .string (B x.qu), .string (B x.fr)], .string (B r)] w fun e w' => e = .returned (.string (B (beside x r))) ∧ Below w.heap.size w w' := by
  have hbd := last_bd x.pa
  obtain ⟨m, hm⟩ : ∃ m : Nat, last x.pa = (m : Int) - 1 := ⟨(last x.pa + 1).toNat, by omega⟩
  have hm2 : m ≤ x.pa.length := by omega
  have hm3 : (last x.pa + 1).toNat = m := by omega
  clear hbd
  have hwr1 : IntKind.i64.wrap ((m : Int) - 1 + 1) = (m : Int) := by simp [IntKind.wrap, IntKind.bits, IntKind.signed]; omega
  have hwr2 : IntKind.i64.wrap (m : Int) = (m : Int) := by simp [IntKind.wrap, IntKind.bits, IntKind.signed]; omega
  go_enter Try.func18, Try.ntmps18
  by_cases hp : x.pa = []
  · by_cases ha : x.au = []
    · have b2 := byes hp
      have b1 := byes ha
      have HB : Hid (beside x r = x.pa.take m ++ r) := hid (by unfold beside; rw [if_neg (fun h => h.2 ha), hm3])
      clear hp ha hm3
      go_wp2_with fail
      have hS : V5p (w.alloc (Obj.cells #[.string (B x.sc), .string (B x.au), .string (B x.pa), .string (B x.qu), .string (B x.fr)] 26)) w.heap.size x := heap_alloc_new w _
      have hB : Below w.heap.size w (w.alloc (Obj.cells #[.string (B x.sc), .string (B x.au), .string (B x.pa), .string (B x.qu), .string (B x.fr)] 26)) := (Below.refl _ _).alloc (Nat.le_refl _) _
      generalize (w.alloc (Obj.cells #[.string (B x.sc), .string (B x.au), .string (B x.pa), .string (B x.qu), .string (B x.fr)] 26)) = w3 at hS hB ⊢
      have S3 := hid hS
      have B3 := hid hB
      clear hS hB
      refine wp_region_plan (fun w' => V5p w' w.heap.size x) (fun j => decide (j ≠ 4)) (fun _ => false)
        (.of [0, 1, 2, 3, 7, 4, 5, 6, 8, 9]) (by kernel_rfl) (by kernel_rfl) rfl (by kernel_rfl) (by kernel_rfl) S3.out ?_
      apply wpPlan_val
      case ho => rfl
      case hst => rfl
      case hw => rfl
      case hv => intro w' hS; go_simp; first | done | rfl
      intro K hK
      go_simp
      refine hK _ ?_
      clear hK K
      apply wpPlan_val
      case ho => rfl
      case hst => rfl
      case hw => rfl
      case hv => intro w' hS; obtain ⟨c0, c1, c2, c3, c4, f0, f1, f2, f3, f4⟩ := five_cells hS; go_simp; first | done | rfl
      intro K hK
      go_simp
      refine hK _ ?_
      clear hK K
      apply wpPlan_val
      case ho => rfl
      case hst => rfl
      case hw => rfl
      case hv => intro w' hS; go_simp; first | done | rfl
      intro K hK
      go_simp
      refine hK _ ?_
      clear hK K
      apply wpPlan_val
      case ho => rfl
      case hst => rfl
      case hw => rfl
      case hv => intro w' hS; obtain ⟨c0, c1, c2, c3, c4, f0, f1, f2, f3, f4⟩ := five_cells hS; go_simp; first | done | rfl
      intro K hK
      go_simp
      refine hK _ ?_
      clear hK K
      apply wpPlan_val
      case ho => rfl
      case hst => rfl
      case hw => rfl
      case hv => intro w' hS; go_simp; first | done | rfl
      intro K hK
      go_simp
      refine hK _ ?_
      clear hK K
      refine wpPlan_list rfl rfl rfl (fun K hK => ?_)
      refine wpList_step (fun K2 hK2 => ?_)
      go_simp
      refine (li_m x.pa m hm _ (by omega)).mono ?_; rintro e1 w4 ⟨rfl, hw4⟩
      subst hw4
      go_simp
      refine hK2 _ _ ?_
      clear hK2 K2
      simp only [wpList]
      refine hK _ _ (fun _ => S3.out) ?_
      clear hK K
      apply wpPlan_val
      case ho => rfl
      case hst => rfl
      case hw => rfl
      case hv => intro w' hS; go_simp; first | done | rfl
      intro K hK
      go_simp
      refine hK _ ?_
      clear hK K
      apply wpPlan_val
      case ho => rfl
      case hst => rfl
      case hw => rfl
      case hv => intro w' hS; exact exec_to 9 _ _ rfl Try.underlying9 x.pa m rfl rfl hm2
      intro K hK
      go_simp
      refine hK _ ?_
      clear hK K
      apply wpPlan_val
      case ho => rfl
      case hst => rfl
      case hw => rfl
      case hv => intro w' hS; exact exec_add _ _ _ _ rfl (x.pa.take m) r rfl rfl (by rw [List.length_take]; omega)
      intro K hK
      go_simp
      refine hK _ ?_
      clear hK K
      apply wpPlan_val
      case ho => rfl
      case hst => rfl
      case hw => rfl
      case hv => intro w' hS; go_simp; first | done | rfl
      intro K hK
      go_simp
      refine hK _ ?_
      clear hK K
      refine wpPlan_nil ?_
      simp only [Qn]
      go_wp2_with fail
      go_ret
      rw [HB.out]
      exact ⟨rfl, below_drewN B3.out 1⟩
    · have b2 := byes hp
      have b1 := bno ha
      have HB : Hid (beside x r = 47 :: r) := hid (by unfold beside; rw [if_pos ⟨hp, ha⟩])
      clear hp ha hm3
      go_wp2_with fail
      go_ret
      rw [HB.out]
      exact ⟨rfl, (Below.refl _ _).alloc (Nat.le_refl _) _⟩
  · have b2 := bno hp
    have HB : Hid (beside x r = x.pa.take m ++ r) := hid (by unfold beside; rw [if_neg (fun h => hp h.1), hm3])
    clear hp hm3
    go_wp2_with fail
    have hS : V5p (w.alloc (Obj.cells #[.string (B x.sc), .string (B x.au), .string (B x.pa), .string (B x.qu), .string (B x.fr)] 26)) w.heap.size x := heap_alloc_new w _
    have hB : Below w.heap.size w (w.alloc (Obj.cells #[.string (B x.sc), .string (B x.au), .string (B x.pa), .string (B x.qu), .string (B x.fr)] 26)) := (Below.refl _ _).alloc (Nat.le_refl _) _
    generalize (w.alloc (Obj.cells #[.string (B x.sc), .string (B x.au), .string (B x.pa), .string (B x.qu), .string (B x.fr)] 26)) = w3 at hS hB ⊢
    have S3 := hid hS
    have B3 := hid hB
    clear hS hB
    refine wp_region_plan (fun w' => V5p w' w.heap.size x) (fun j => decide (j ≠ 4)) (fun _ => false)
      (.of [0, 1, 2, 3, 7, 4, 5, 6, 8, 9]) (by kernel_rfl) (by kernel_rfl) rfl (by kernel_rfl) (by kernel_rfl) S3.out ?_
    apply wpPlan_val
    case ho => rfl
    case hst => rfl
    case hw => rfl
    case hv => intro w' hS; go_simp; first | done | rfl
    intro K hK
    go_simp
    refine hK _ ?_
    clear hK K
    apply wpPlan_val
    case ho => rfl
    case hst => rfl
    case hw => rfl
    case hv => intro w' hS; obtain ⟨c0, c1, c2, c3, c4, f0, f1, f2, f3, f4⟩ := five_cells hS; go_simp; first | done | rfl
    intro K hK
    go_simp
    refine hK _ ?_
    clear hK K
    apply wpPlan_val
    case ho => rfl
    case hst => rfl
    case hw => rfl
    case hv => intro w' hS; go_simp; first | done | rfl
    intro K hK
    go_simp
    refine hK _ ?_
    clear hK K
    apply wpPlan_val
    case ho => rfl
    case hst => rfl
    case hw => rfl
    case hv => intro w' hS; obtain ⟨c0, c1, c2, c3, c4, f0, f1, f2, f3, f4⟩ := five_cells hS; go_simp; first | done | rfl
    intro K hK
    go_simp
    refine hK _ ?_
    clear hK K
    apply wpPlan_val
    case ho => rfl
    case hst => rfl
    case hw => rfl
    case hv => intro w' hS; go_simp; first | done | rfl
    intro K hK
    go_simp
    refine hK _ ?_
    clear hK K
    refine wpPlan_list rfl rfl rfl (fun K hK => ?_)
    refine wpList_step (fun K2 hK2 => ?_)
    go_simp
    refine (li_m x.pa m hm _ (by omega)).mono ?_; rintro e1 w4 ⟨rfl, hw4⟩
    subst hw4
    go_simp
    refine hK2 _ _ ?_
    clear hK2 K2
    simp only [wpList]
    refine hK _ _ (fun _ => S3.out) ?_
    clear hK K
    apply wpPlan_val
    case ho => rfl
    case hst => rfl
    case hw => rfl
    case hv => intro w' hS; go_simp; first | done | rfl
    intro K hK
    go_simp
    refine hK _ ?_
    clear hK K
    apply wpPlan_val
    case ho => rfl
    case hst => rfl
    case hw => rfl
    case hv => intro w' hS; exact exec_to 9 _ _ rfl Try.underlying9 x.pa m rfl rfl hm2
    intro K hK
    go_simp
    refine hK _ ?_
    clear hK K
    apply wpPlan_val
    case ho => rfl
    case hst => rfl
    case hw => rfl
    case hv => intro w' hS; exact exec_add _ _ _ _ rfl (x.pa.take m) r rfl rfl (by rw [List.length_take]; omega)
    intro K hK
    go_simp
    refine hK _ ?_
    clear hK K
    apply wpPlan_val
    case ho => rfl
    case hst => rfl
    case hw => rfl
    case hv => intro w' hS; go_simp; first | done | rfl
    intro K hK
    go_simp
    refine hK _ ?_
    clear hK K
    refine wpPlan_nil ?_
    simp only [Qn]
    go_wp2_with fail
    go_ret
    rw [HB.out]
    exact ⟨rfl, below_drewN B3.out 1⟩
end Go.Proofs.Ytmelcnnpjooocaa
