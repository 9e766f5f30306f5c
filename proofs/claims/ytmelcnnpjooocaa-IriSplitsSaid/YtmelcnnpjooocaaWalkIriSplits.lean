/- triadlaw10.IriSplits: the walk. -/
import Derived.Test.YtmelcnnpjooocaaIriL
namespace Go.Proofs.Ytmelcnnpjooocaa
open Go.RowKit
set_option linter.unusedVariables false

def SplAt (W g : Nat) (l0 l1 : List UInt8) (w wr : World) : Prop := Blk wr g [.string (B l0), .string (B l1)] 9 ∧ W ≤ g ∧ Below W w wr

set_option maxRecDepth 100000 in
set_option maxHeartbeats 4000000 in
theorem iriSplits_walk (a0 : Option Addr) (len0 cap0 : Nat) (z0 : List Int) (a1 : ByteArray) (w : World) (w0 : IsRow .i64 w a0 len0 cap0 z0) (w1 : a1.size ≤ maxLen) :
    Calls Try.prog 3 #[.slice a0 len0 cap0, .string a1] w fun e w' => e = .returned (.bool true) ∧ Below w.heap.size w w' := by
  obtain ⟨l1, rfl⟩ : ∃ l, a1 = B l := ⟨_, B_of a1⟩
  rw [B_size] at w1
  simp only [maxLen] at w1
  have HR := hid w0
  clear w0
  by_cases h100 : l1.length ≤ 100
  case neg =>
    go_enter Try.func3, Try.ntmps3
    go_wp2_with fail
    refine (known10_any _).mono ?_; rintro e1 w2 ⟨rfl, hb2⟩
    have B2 := hid hb2
    clear hb2
    go_wp2_with fail
    go_ret
    exact ⟨rfl, B2.out⟩
  go_enter Try.func3, Try.ntmps3
  go_wp2_with fail
  refine (known10_any _).mono ?_; rintro e1 w2 ⟨rfl, hb2⟩
  have B2 := hid hb2
  clear hb2
  go_wp2_with fail
  refine (ref_any a0 len0 cap0 z0 w2 (HR.out.below B2.out)).mono ?_; rintro e1 w3 ⟨l0, hl0, rfl, hb3⟩
  have B3 := hid (B2.out.trans (hb3.mono B2.out.size))
  clear hb3 B2
  go_wp2_with fail
  have SP : Hid (SplAt w.heap.size w3.heap.size l0 l1 w (w3.alloc (Obj.cells #[.string (B l0), .string (B l1)] 9))) := hid ⟨heap_alloc_new w3 _, B3.out.size, B3.out.alloc B3.out.size _⟩
  generalize w3.alloc (Obj.cells #[.string (B l0), .string (B l1)] 9) = w4 at SP ⊢
  generalize w3.heap.size = g at SP ⊢
  clear B3
  go_loopw [6] (fun i wr => ∃ j : Nat, j ≤ 2 ∧ i = .int .i64 j ∧ SplAt w.heap.size g l0 l1 w wr) (fun i _ => 3 - (intOf i).toNat)
  case atStart => exact ⟨0, Nat.zero_le _, rfl, SP.out⟩
  case round =>
    obtain ⟨j, hj, rfl, hsp⟩ := hrel
    have S1 := hid hsp
    clear hsp SP
    by_cases hlt : j < 2
    · obtain ⟨L, hL, hLe⟩ : ∃ L : List UInt8, L.length ≤ 100 ∧ ([Value.string (B l0), .string (B l1)])[j]? = some (.string (B L)) := by
        rcases (show j = 0 ∨ j = 1 by omega) with h | h <;> subst h
        · exact ⟨l0, by omega, rfl⟩
        · exact ⟨l1, h100, rfl⟩
      have hcj : wr.cell? ⟨g, j, none⟩ = some (.string (B L)) := (Blk.cell S1.out.1 j).trans hLe
      have HLE := hid hLe
      clear hLe
      have hlen := split_len L
      have hcat := split_cat L
      generalize hp : split L = P at hlen hcat
      obtain ⟨ps, pa, pp, pq, pf⟩ := P
      simp only [List.append_assoc] at hlen hcat
      have HP := hid hp
      have HC := hid hcat
      clear hp hcat
      go_wp2_with fail
      refine (iSplit_agg L _ _ _ _ _ HP.out _ (by omega)).mono ?_; rintro e1 w5 ⟨rfl, hb5⟩
      have S2 : Hid (SplAt w.heap.size g l0 l1 w w5) := hid ⟨S1.out.1.chg (Chg.new hb5 NoFp) (fun h => h), S1.out.2.1, S1.out.2.2.trans (hb5.mono S1.out.2.2.size)⟩
      clear hb5 S1 hcj
      go_wp2_with fail
      have hv : V5p (w5.alloc (Obj.cells #[.string (B ps), .string (B pa), .string (B pp), .string (B pq), .string (B pf)] 26)) w5.heap.size ⟨ps, pa, pp, pq, pf⟩ := heap_alloc_new w5 _
      have hb6 : Below w5.heap.size w5 (w5.alloc (Obj.cells #[.string (B ps), .string (B pa), .string (B pp), .string (B pq), .string (B pf)] 26)) := (Below.refl _ _).alloc (Nat.le_refl _) _
      generalize w5.alloc (Obj.cells #[.string (B ps), .string (B pa), .string (B pp), .string (B pq), .string (B pf)] 26) = w6 at hv hb6 ⊢
      have S3 : Hid (SplAt w.heap.size g l0 l1 w w6) := hid ⟨S2.out.1.chg (Chg.new hb6 NoFp) (fun h => h), S2.out.2.1, S2.out.2.2.trans (hb6.mono S2.out.2.2.size)⟩
      have V3 := hid hv
      have SZ : Hid (w.heap.size ≤ w6.heap.size) := hid S3.out.2.2.size
      clear hv hb6 S2
      have C3 := hid ((Blk.cell S3.out.1 j).trans HLE.out)
      generalize w5.heap.size = g7 at V3 ⊢
      have hcc := HC.out
      refine wp_region_plan (fun w' => V5p w' g7 ⟨ps, pa, pp, pq, pf⟩ ∧ w'.cell? ⟨g, j, none⟩ = some (.string (B L))) (fun j => !([5].contains j)) (fun _ => false)
        (.of [0, 1, 2, 3, 4, 5, 6, 7, 8, 9, 10, 11, 12, 13, 14, 15, 16, 17, 18, 19, 20, 21, 22, 23, 24, 25, 26, 27]) (by kernel_rfl) (by kernel_rfl) rfl (by kernel_rfl) (by kernel_rfl) ⟨V3.out, C3.out⟩ ?_
      apply wpPlan_val
      case ho => rfl
      case hst => rfl
      case hw => rfl
      case hv => intro w' hS; exact exec_load_arr 26 _ rfl _ Try.underlying26 rfl 5 (by kernel_rfl) g7 0 26 [.string (B ps), .string (B pa), .string (B pp), .string (B pq), .string (B pf)] rfl hS.1 (by simp) [.string (B ps), .string (B pa), .string (B pp), .string (B pq), .string (B pf)] rfl
      intro K hK
      go_simp
      refine hK _ ?_
      clear hK K
      apply wpPlan_val
      case ho => rfl
      case hst => rfl
      case hw => rfl
      case hv => intro w' hS; go_simp; first | done | rfl
      intro K hK
      go_simp
      refine hK _ ?_
      clear hK K
      apply wpPlan_val
      case ho => rfl
      case hst => rfl
      case hw => rfl
      case hv => intro w' hS; go_simp; first | done | rfl
      intro K hK
      go_simp
      refine hK _ ?_
      clear hK K
      apply wpPlan_val
      case ho => rfl
      case hst => rfl
      case hw => rfl
      case hv => intro w' hS; go_simp; first | done | rfl
      intro K hK
      go_simp
      refine hK _ ?_
      clear hK K
      apply wpPlan_val
      case ho => rfl
      case hst => rfl
      case hw => rfl
      case hv => intro w' hS; obtain ⟨c0, c1, c2, c3, c4, f0, f1, f2, f3, f4⟩ := five_cells hS.1; have hcj := hS.2; go_simp; first | done | rfl
      intro K hK
      go_simp
      refine hK _ ?_
      clear hK K
      refine wpPlan_list rfl rfl rfl (fun K hK => ?_)
      refine wpList_step (fun K2 hK2 => ?_)
      go_simp
      refine (xSplit_agg L ⟨ps, pa, pp, pq, pf⟩ HP.out _ (by omega)).mono ?_
      rintro e1 w7 ⟨rfl, hb7⟩
      have V4 : Hid (V5p w7 g7 ⟨ps, pa, pp, pq, pf⟩) := hid (V5p.new (w := w6.drew) V3.out hb7)
      have S4 : Hid (SplAt w.heap.size g l0 l1 w w7) := hid ⟨Blk.chg (w := w6.drew) S3.out.1 (Chg.new hb7 NoFp) (fun h => h), S3.out.2.1, (below_drewN S3.out.2.2 1).trans (hb7.mono SZ.out)⟩
      have C4 := hid ((Blk.cell S4.out.1 j).trans HLE.out)
      clear hb7 V3 S3 C3
      go_simp
      refine hK2 _ _ ?_
      clear hK2 K2
      simp only [wpList]
      refine hK _ _ (fun _ => ⟨V4.out, C4.out⟩) ?_
      clear hK K
      apply wpPlan_val
      case ho => rfl
      case hst => rfl
      case hw => rfl
      case hv => intro w' hS; go_simp; first | done | rfl
      intro K hK
      go_simp
      refine hK _ ?_
      clear hK K
      apply wpPlan_val
      case ho => rfl
      case hst => rfl
      case hw => rfl
      case hv => intro w' hS; go_simp; first | done | rfl
      intro K hK
      go_simp
      refine hK _ ?_
      clear hK K
      apply wpPlan_val
      case ho => rfl
      case hst => rfl
      case hw => rfl
      case hv => intro w' hS; go_simp; first | done | rfl
      intro K hK
      go_simp
      refine hK _ ?_
      clear hK K
      apply wpPlan_val
      case ho => rfl
      case hst => rfl
      case hw => rfl
      case hv => intro w' hS; obtain ⟨c0, c1, c2, c3, c4, f0, f1, f2, f3, f4⟩ := five_cells hS.1; have hcj := hS.2; go_simp; first | done | rfl
      intro K hK
      go_simp
      refine hK _ ?_
      clear hK K
      apply wpPlan_val
      case ho => rfl
      case hst => rfl
      case hw => rfl
      case hv => intro w' hS; go_simp; first | done | rfl
      intro K hK
      go_simp
      refine hK _ ?_
      clear hK K
      apply wpPlan_val
      case ho => rfl
      case hst => rfl
      case hw => rfl
      case hv => intro w' hS; obtain ⟨c0, c1, c2, c3, c4, f0, f1, f2, f3, f4⟩ := five_cells hS.1; have hcj := hS.2; go_simp; first | done | rfl
      intro K hK
      go_simp
      refine hK _ ?_
      clear hK K
      apply wpPlan_val
      case ho => rfl
      case hst => rfl
      case hw => rfl
      case hv => intro w' hS; exact exec_add _ _ _ _ rfl ps pa rfl rfl (by first | omega | (simp only [List.length_append]; omega))
      intro K hK
      go_simp
      refine hK _ ?_
      clear hK K
      apply wpPlan_val
      case ho => rfl
      case hst => rfl
      case hw => rfl
      case hv => intro w' hS; go_simp; first | done | rfl
      intro K hK
      go_simp
      refine hK _ ?_
      clear hK K
      apply wpPlan_val
      case ho => rfl
      case hst => rfl
      case hw => rfl
      case hv => intro w' hS; obtain ⟨c0, c1, c2, c3, c4, f0, f1, f2, f3, f4⟩ := five_cells hS.1; have hcj := hS.2; go_simp; first | done | rfl
      intro K hK
      go_simp
      refine hK _ ?_
      clear hK K
      apply wpPlan_val
      case ho => rfl
      case hst => rfl
      case hw => rfl
      case hv => intro w' hS; exact exec_add _ _ _ _ rfl (ps ++ pa) pp rfl rfl (by first | omega | (simp only [List.length_append]; omega))
      intro K hK
      go_simp
      refine hK _ ?_
      clear hK K
      apply wpPlan_val
      case ho => rfl
      case hst => rfl
      case hw => rfl
      case hv => intro w' hS; go_simp; first | done | rfl
      intro K hK
      go_simp
      refine hK _ ?_
      clear hK K
      apply wpPlan_val
      case ho => rfl
      case hst => rfl
      case hw => rfl
      case hv => intro w' hS; obtain ⟨c0, c1, c2, c3, c4, f0, f1, f2, f3, f4⟩ := five_cells hS.1; have hcj := hS.2; go_simp; first | done | rfl
      intro K hK
      go_simp
      refine hK _ ?_
      clear hK K
      apply wpPlan_val
      case ho => rfl
      case hst => rfl
      case hw => rfl
      case hv => intro w' hS; exact exec_add _ _ _ _ rfl (ps ++ (pa ++ pp)) pq rfl rfl (by first | omega | (simp only [List.length_append]; omega))
      intro K hK
      go_simp
      refine hK _ ?_
      clear hK K
      apply wpPlan_val
      case ho => rfl
      case hst => rfl
      case hw => rfl
      case hv => intro w' hS; go_simp; first | done | rfl
      intro K hK
      go_simp
      refine hK _ ?_
      clear hK K
      apply wpPlan_val
      case ho => rfl
      case hst => rfl
      case hw => rfl
      case hv => intro w' hS; obtain ⟨c0, c1, c2, c3, c4, f0, f1, f2, f3, f4⟩ := five_cells hS.1; have hcj := hS.2; go_simp; first | done | rfl
      intro K hK
      go_simp
      refine hK _ ?_
      clear hK K
      apply wpPlan_val
      case ho => rfl
      case hst => rfl
      case hw => rfl
      case hv => intro w' hS; exact exec_add _ _ _ _ rfl (ps ++ (pa ++ (pp ++ pq))) pf rfl rfl (by first | omega | (simp only [List.length_append]; omega))
      intro K hK
      go_simp
      refine hK _ ?_
      clear hK K
      apply wpPlan_val
      case ho => rfl
      case hst => rfl
      case hw => rfl
      case hv => intro w' hS; go_simp; first | done | rfl
      intro K hK
      go_simp
      refine hK _ ?_
      clear hK K
      apply wpPlan_val
      case ho => rfl
      case hst => rfl
      case hw => rfl
      case hv => intro w' hS; go_simp; first | done | rfl
      intro K hK
      go_simp
      refine hK _ ?_
      clear hK K
      apply wpPlan_val
      case ho => rfl
      case hst => rfl
      case hw => rfl
      case hv => intro w' hS; go_simp; first | done | rfl
      intro K hK
      go_simp
      refine hK _ ?_
      clear hK K
      apply wpPlan_val
      case ho => rfl
      case hst => rfl
      case hw => rfl
      case hv => intro w' hS; obtain ⟨c0, c1, c2, c3, c4, f0, f1, f2, f3, f4⟩ := five_cells hS.1; have hcj := hS.2; go_simp; first | done | rfl
      intro K hK
      go_simp
      refine hK _ ?_
      clear hK K
      apply wpPlan_val
      case ho => rfl
      case hst => rfl
      case hw => rfl
      case hv => intro w' hS; go_simp; first | done | rfl
      intro K hK
      go_simp
      refine hK _ ?_
      clear hK K
      apply wpPlan_val
      case ho => rfl
      case hst => rfl
      case hw => rfl
      case hv => intro w' hS; go_simp; first | done | rfl
      intro K hK
      go_simp
      refine hK _ ?_
      clear hK K
      refine wpPlan_nil ?_
      simp only [Qn]
      clear hcc
      go_wp2_with fail
      go_roundw
      case rel => exact ⟨j + 1, by omega, by go_num, S4.out⟩
      case measure => simp [intOf]; omega
    · go_wp2_with fail
      go_ret
      exact ⟨rfl, S1.out.2.2⟩
end Go.Proofs.Ytmelcnnpjooocaa
