/- triadref10.Split, a part. -/
import Derived.Test.YtmelcnnpjooocaaIriT0
namespace Go.Proofs.Ytmelcnnpjooocaa
open Go.RowKit
set_option linter.unusedVariables false

set_option maxRecDepth 100000 in
set_option maxHeartbeats 16000000 in
theorem xSplit_ge (l : List UInt8) (w : World) (hl : l.length ≤ 1000000) (hyes : ¬ (up [58, 47, 63, 35] l ≠ 0 ∧ hp [58] (l.drop (up [58, 47, 63, 35] l)) = true)) (h0 : ¬ up [58, 47, 63, 35] l = 0) (hlt : ¬ up [58, 47, 63, 35] l < l.length) :
    Calls Try.prog 10 #[.string (B l)] w fun e w' => e = .returned (split l).val ∧ Below w.heap.size w w' := by
  go_enter Try.func10, Try.ntmps10
  go_wp2_with fail
  have hS := sp_start w
  unfold E5 at hS
  generalize ((w.alloc (Obj.cells #[.string ⟨#[]⟩, .string ⟨#[]⟩, .string ⟨#[]⟩, .string ⟨#[]⟩, .string ⟨#[]⟩] 26)).alloc (Obj.cells #[.string ⟨#[]⟩, .string ⟨#[]⟩, .string ⟨#[]⟩, .string ⟨#[]⟩, .string ⟨#[]⟩] 26)) = w1 at hS ⊢
  have S1 := hid hS
  clear hS
  refine (upTo0_any l [58, 47, 63, 35] _ hl (by decide)).mono ?_; rintro e1 wx ⟨rfl, hw⟩
  subst hw
  have hn := up_le [58, 47, 63, 35] l
  generalize hN : up [58, 47, 63, 35] l = n at hn hyes h0 hlt ⊢
  have HN := hid hN
  clear hN
  have HS2 : Hid ((spS l).2 = l) := hid (by unfold spS; rw [HN.out, if_neg hyes])
  have S2 : Hid (SpAt w.heap.size w w1 (w.heap.size + 1) (spS l).1 [] [] [] []) := hid (by unfold spS; rw [HN.out, if_neg hyes]; exact S1.out)
  clear S1
  have h0' : (0 : Int) < n := by omega
  have hnl : ¬ ((n : Int) < (l.length : Int)) := by omega
  clear hyes HN h0
  go_wp2_with fail
  all_goals
    first
      | have H2 : Hid (hp [47, 47] (spS l).2 = true) := hid (by rw [HS2.out]; assumption)
      | have H2 : Hid (hp [47, 47] (spS l).2 = false) := hid (by rw [HS2.out]; first | assumption | (apply Bool.eq_false_iff.2; intro h; have h5 := hp_length h; simp at h5; omega))
    rw [← HS2.out]
    clear HS2
  all_goals
    rename World => wA
    generalize hs1 : (spS l).2 = s1 at S2 H2 ⊢
    generalize hp0 : (spS l).1 = p0 at S2 ⊢
    have HS1 := hid hs1
    have HP0 := hid hp0
    have hl1 : s1.length ≤ 1000000 := by have := cat_len (spS_cat l); rw [hs1] at this; omega
    clear hs1 hp0 hl
    first
    | have H2f : hp [47, 47] s1 = false := H2.out
      clear H2f
      have HA : Hid (spA s1 = ([], s1)) := hid (by unfold spA; rw [if_neg (by rw [H2.out]; simp)])
      have S4 := hid (show SpAt w.heap.size w _ (w.heap.size + 1) p0 (spA s1).1 [] [] [] by rw [HA.out]; exact S2.out)
      have HS2 : Hid ((spA s1).2 = s1) := hid (by rw [HA.out])
      clear S2 HA H2
      rw [← HS2.out]
      clear HS2
    | have H2t : hp [47, 47] s1 = true := H2.out
      have hlen := hp_length H2t
      clear H2t
      refine (upTo_any s1 [47, 63, 35] 2 _ hlen hl1 (by decide)).mono ?_; rintro e1 wx ⟨rfl, hw⟩
      subst hw
      have hn := up_le [47, 63, 35] (s1.drop 2)
      rw [List.length_drop] at hn
      have HA : Hid (spA s1 = (s1.take (2 + up [47, 63, 35] (s1.drop 2)), s1.drop (2 + up [47, 63, 35] (s1.drop 2)))) := hid (by unfold spA; rw [if_pos H2.out])
      have hk : 2 + up [47, 63, 35] (s1.drop 2) ≤ s1.length := by have h6 : 2 ≤ s1.length := hlen; omega
      generalize 2 + up [47, 63, 35] (s1.drop 2) = k at HA hk
      clear hn hlen
      obtain ⟨c0, c1, c2, c3, c4, f0, f1, f2, f3, f4⟩ := five_cells S2.out.out
      go_wp2_with fail
      refine wp_region_plan (fun _ => True) (fun j => decide (j < 7)) (fun _ => false)
        (.of [0, 1, 2, 3, 4, 5, 6, 7, 8]) (by kernel_rfl) (by kernel_rfl) rfl (by kernel_rfl) (by kernel_rfl) trivial ?_
      apply wpPlan_val
      case ho => rfl
      case hst => rfl
      case hw => rfl
      case hv => intro w' hS; go_simp; first | done | rfl
      intro K hK
      go_simp
      refine hK _ ?_
      clear hK K
      apply wpPlan_val
      case ho => rfl
      case hst => rfl
      case hw => rfl
      case hv => intro w' hS; go_simp; first | done | rfl
      intro K hK
      go_simp
      refine hK _ ?_
      clear hK K
      apply wpPlan_val
      case ho => rfl
      case hst => rfl
      case hw => rfl
      case hv => intro w' hS; exact exec_to 9 _ _ rfl Try.underlying9 s1 k rfl rfl hk
      intro K hK
      go_simp
      refine hK _ ?_
      clear hK K
      apply wpPlan_val
      case ho => rfl
      case hst => rfl
      case hw => rfl
      case hv => intro w' hS; go_simp; first | done | rfl
      intro K hK
      go_simp
      refine hK _ ?_
      clear hK K
      apply wpPlan_val
      case ho => rfl
      case hst => rfl
      case hw => rfl
      case hv => intro w' hS; go_simp; first | done | rfl
      intro K hK
      go_simp
      refine hK _ ?_
      clear hK K
      apply wpPlan_val
      case ho => rfl
      case hst => rfl
      case hw => rfl
      case hv => intro w' hS; exact exec_from 9 _ _ rfl Try.underlying9 s1 k rfl rfl hk
      intro K hK
      go_simp
      refine hK _ ?_
      clear hK K
      apply wpPlan_val
      case ho => rfl
      case hst => rfl
      case hw => rfl
      case hv => intro w' hS; go_simp; first | done | rfl
      intro K hK
      go_simp
      refine hK _ ?_
      clear hK K
      refine wpPlan_list rfl rfl rfl (fun K hK => ?_)
      refine wpList_step (fun K2 hK2 => ?_)
      go_simp
      refine hK2 _ _ ?_
      clear hK2 K2
      simp only [wpList]
      refine hK _ _ (fun _ => trivial) ?_
      clear hK K
      refine wpPlan_list rfl rfl rfl (fun K hK => ?_)
      refine wpList_step (fun K2 hK2 => ?_)
      go_simp
      refine hK2 _ _ ?_
      clear hK2 K2
      simp only [wpList]
      refine hK _ _ (fun _ => trivial) ?_
      clear hK K
      refine wpPlan_nil ?_
      simp only [Qn]
      have S4 : Hid (SpAt w.heap.size w (wA.setCell ⟨w.heap.size + 1, 1, none⟩ (.string (B (s1.take k)))).drew (w.heap.size + 1) p0 (spA s1).1 [] [] []) := hid (by rw [HA.out]; exact (S2.out.set 1 (s1.take k) p0 _ _ _ _ rfl).drew)
      generalize (wA.setCell ⟨w.heap.size + 1, 1, none⟩ (.string (B (s1.take k)))).drew = wB at S4 ⊢
      have HS2 : Hid ((spA s1).2 = s1.drop k) := hid (by rw [HA.out])
      clear S2 HA H2 c0 c1 c2 c3 c4 f0 f1 f2 f3 f4
      go_wp2_with fail
      rw [← HS2.out]
      clear HS2 hk
  all_goals
    rename World => wC
    generalize hs2 : (spA s1).2 = s2 at S4 ⊢
    generalize ha1 : (spA s1).1 = a1 at S4 ⊢
    have HS2 := hid hs2
    have HA1 := hid ha1
    have hl2 : s2.length ≤ 1000000 := by have := cat_len (spA_cat s1); rw [hs2] at this; omega
    clear hs2 ha1 hl1
    refine (upTo0_any s2 [63, 35] _ hl2 (by decide)).mono ?_; rintro e1 wx ⟨rfl, hw⟩
    subst hw
    have hk := up_le [63, 35] s2
    have HP2 : Hid (spP s2 = (s2.take (up [63, 35] s2), s2.drop (up [63, 35] s2))) := hid rfl
    generalize up [63, 35] s2 = k at hk HP2 ⊢
    obtain ⟨c0, c1, c2, c3, c4, f0, f1, f2, f3, f4⟩ := five_cells S4.out.out
    go_wp2_with fail
    refine wp_region_plan (fun _ => True) (fun j => decide (j < 7)) (fun _ => false)
      (.of [0, 1, 2, 3, 4, 5, 6, 7, 8]) (by kernel_rfl) (by kernel_rfl) rfl (by kernel_rfl) (by kernel_rfl) trivial ?_
    apply wpPlan_val
    case ho => rfl
    case hst => rfl
    case hw => rfl
    case hv => intro w' hS; go_simp; first | done | rfl
    intro K hK
    go_simp
    refine hK _ ?_
    clear hK K
    apply wpPlan_val
    case ho => rfl
    case hst => rfl
    case hw => rfl
    case hv => intro w' hS; go_simp; first | done | rfl
    intro K hK
    go_simp
    refine hK _ ?_
    clear hK K
    apply wpPlan_val
    case ho => rfl
    case hst => rfl
    case hw => rfl
    case hv => intro w' hS; exact exec_to 9 _ _ rfl Try.underlying9 s2 k rfl rfl hk
    intro K hK
    go_simp
    refine hK _ ?_
    clear hK K
    apply wpPlan_val
    case ho => rfl
    case hst => rfl
    case hw => rfl
    case hv => intro w' hS; go_simp; first | done | rfl
    intro K hK
    go_simp
    refine hK _ ?_
    clear hK K
    apply wpPlan_val
    case ho => rfl
    case hst => rfl
    case hw => rfl
    case hv => intro w' hS; go_simp; first | done | rfl
    intro K hK
    go_simp
    refine hK _ ?_
    clear hK K
    apply wpPlan_val
    case ho => rfl
    case hst => rfl
    case hw => rfl
    case hv => intro w' hS; exact exec_from 9 _ _ rfl Try.underlying9 s2 k rfl rfl hk
    intro K hK
    go_simp
    refine hK _ ?_
    clear hK K
    apply wpPlan_val
    case ho => rfl
    case hst => rfl
    case hw => rfl
    case hv => intro w' hS; go_simp; first | done | rfl
    intro K hK
    go_simp
    refine hK _ ?_
    clear hK K
    refine wpPlan_list rfl rfl rfl (fun K hK => ?_)
    refine wpList_step (fun K2 hK2 => ?_)
    go_simp
    refine hK2 _ _ ?_
    clear hK2 K2
    simp only [wpList]
    refine hK _ _ (fun _ => trivial) ?_
    clear hK K
    refine wpPlan_list rfl rfl rfl (fun K hK => ?_)
    refine wpList_step (fun K2 hK2 => ?_)
    go_simp
    refine hK2 _ _ ?_
    clear hK2 K2
    simp only [wpList]
    refine hK _ _ (fun _ => trivial) ?_
    clear hK K
    refine wpPlan_nil ?_
    simp only [Qn]
    have S6 : Hid (SpAt w.heap.size w (wC.setCell ⟨w.heap.size + 1, 2, none⟩ (.string (B (s2.take k)))).drew (w.heap.size + 1) p0 a1 (s2.take k) [] []) := hid (S4.out.set 2 (s2.take k) p0 a1 _ _ _ rfl).drew
    generalize (wC.setCell ⟨w.heap.size + 1, 2, none⟩ (.string (B (s2.take k)))).drew = wD at S6 ⊢
    have hl3 : (s2.drop k).length ≤ 1000000 := by rw [List.length_drop]; omega
    clear S4 hk c0 c1 c2 c3 c4 f0 f1 f2 f3 f4
    generalize s2.take k = pa at S6 HP2 ⊢
    generalize s2.drop k = s3 at hl3 HP2 ⊢
    obtain ⟨c0, c1, c2, c3, c4, f0, f1, f2, f3, f4⟩ := five_cells S6.out.out
    obtain ⟨d0, d1, d2, d3, d4, g0, g1, g2, g3, g4⟩ := five_cells S6.out.res
    rcases Bool.eq_false_or_eq_true (hp [63] s3) with h2 | h2
    · have hs4 : spQ s3 = (s3.take (up [35] s3), s3.drop (up [35] s3)) := by unfold spQ; rw [if_pos h2]
      have h3 := hp_one.1 h2
      have hlt : 0 < s3.length := (List.getElem?_eq_some_iff.1 h3).1
      have hget : s3[0]'hlt = 63 := (List.getElem?_eq_some_iff.1 h3).2
      have HQ := hid hs4
      clear hs4 h2 h3
      go_wp2_with fail
      refine (upTo0_any s3 [35] _ hl3 (by decide)).mono ?_; rintro e1 wx ⟨rfl, hw⟩
      subst hw
      have hk := up_le [35] s3
      generalize up [35] s3 = k at hk HQ ⊢
      clear hget hlt
      go_wp2_with fail
      refine wp_region_plan (fun _ => True) (fun j => decide (j < 7)) (fun _ => false)
        (.of [0, 1, 2, 3, 4, 5, 6, 7, 8]) (by kernel_rfl) (by kernel_rfl) rfl (by kernel_rfl) (by kernel_rfl) trivial ?_
      apply wpPlan_val
      case ho => rfl
      case hst => rfl
      case hw => rfl
      case hv => intro w' hS; go_simp; first | done | rfl
      intro K hK
      go_simp
      refine hK _ ?_
      clear hK K
      apply wpPlan_val
      case ho => rfl
      case hst => rfl
      case hw => rfl
      case hv => intro w' hS; go_simp; first | done | rfl
      intro K hK
      go_simp
      refine hK _ ?_
      clear hK K
      apply wpPlan_val
      case ho => rfl
      case hst => rfl
      case hw => rfl
      case hv => intro w' hS; exact exec_to 9 _ _ rfl Try.underlying9 s3 k rfl rfl hk
      intro K hK
      go_simp
      refine hK _ ?_
      clear hK K
      apply wpPlan_val
      case ho => rfl
      case hst => rfl
      case hw => rfl
      case hv => intro w' hS; go_simp; first | done | rfl
      intro K hK
      go_simp
      refine hK _ ?_
      clear hK K
      apply wpPlan_val
      case ho => rfl
      case hst => rfl
      case hw => rfl
      case hv => intro w' hS; go_simp; first | done | rfl
      intro K hK
      go_simp
      refine hK _ ?_
      clear hK K
      apply wpPlan_val
      case ho => rfl
      case hst => rfl
      case hw => rfl
      case hv => intro w' hS; exact exec_from 9 _ _ rfl Try.underlying9 s3 k rfl rfl hk
      intro K hK
      go_simp
      refine hK _ ?_
      clear hK K
      apply wpPlan_val
      case ho => rfl
      case hst => rfl
      case hw => rfl
      case hv => intro w' hS; go_simp; first | done | rfl
      intro K hK
      go_simp
      refine hK _ ?_
      clear hK K
      refine wpPlan_list rfl rfl rfl (fun K hK => ?_)
      refine wpList_step (fun K2 hK2 => ?_)
      go_simp
      refine hK2 _ _ ?_
      clear hK2 K2
      simp only [wpList]
      refine hK _ _ (fun _ => trivial) ?_
      clear hK K
      refine wpPlan_list rfl rfl rfl (fun K hK => ?_)
      refine wpList_step (fun K2 hK2 => ?_)
      go_simp
      refine hK2 _ _ ?_
      clear hK2 K2
      simp only [wpList]
      refine hK _ _ (fun _ => trivial) ?_
      clear hK K
      refine wpPlan_nil ?_
      simp only [Qn]
      have S7 : Hid (SpAt w.heap.size w (wD.setCell ⟨w.heap.size + 1, 3, none⟩ (.string (B (s3.take k)))).drew (w.heap.size + 1) p0 a1 pa (s3.take k) []) := hid (S6.out.set 3 (s3.take k) p0 a1 pa _ _ rfl).drew
      generalize (wD.setCell ⟨w.heap.size + 1, 3, none⟩ (.string (B (s3.take k)))).drew = wE at S7 ⊢
      clear S6 hk c0 c1 c2 c3 c4 f0 f1 f2 f3 f4 d0 d1 d2 d3 d4 g0 g1 g2 g3 g4
      generalize s3.take k = qu at HQ S7 ⊢
      generalize s3.drop k = s4 at HQ ⊢
      obtain ⟨c0, c1, c2, c3, c4, f0, f1, f2, f3, f4⟩ := five_cells S7.out.out
      obtain ⟨d0, d1, d2, d3, d4, g0, g1, g2, g3, g4⟩ := five_cells S7.out.res
      go_wp2_with fail
      have hfin := (S7.out.set 4 s4 p0 a1 pa qu s4 rfl).fin
      refine bodyPost_ret (results_cell_row rfl _ _ w.heap.size 26 _ (0, 0) _ rfl hfin.1 Try.underlying26 rfl (by kernel_rfl)) rfl ?_
      refine ⟨?_, hfin.2⟩
      unfold split
      rw [HP0.out, HS1.out, HA1.out, HS2.out, HP2.out, HQ.out]
      rfl
    · have hs4 : spQ s3 = ([], s3) := by unfold spQ; rw [if_neg (by simp [h2])]
      have HQ := hid hs4
      have H2 := hid h2
      clear hs4 h2
      by_cases hlt : 0 < s3.length
      case' pos =>
        obtain ⟨c, hc⟩ : ∃ c, s3[0]'hlt = c := ⟨_, rfl⟩
        have hne : ¬ ((c.toNat : Int) = 63) := fun h => by
          have h7 : c = 63 := UInt8.toNat_inj.1 (by show c.toNat = 63; omega)
          have h8 := H2.out
          rw [hp_one.2 (by rw [List.getElem?_eq_getElem hlt, hc, h7])] at h8
          cases h8
      case' neg =>
        have hlt0 : s3.length = 0 := by omega
      all_goals
        go_wp2_with fail
        have hfin := (S6.out.set 4 s3 p0 a1 pa [] s3 rfl).fin
        refine bodyPost_ret (results_cell_row rfl _ _ w.heap.size 26 _ (0, 0) _ rfl hfin.1 Try.underlying26 rfl (by kernel_rfl)) rfl ?_
        refine ⟨?_, hfin.2⟩
        unfold split
        rw [HP0.out, HS1.out, HA1.out, HS2.out, HP2.out, HQ.out]
        rfl
end Go.Proofs.Ytmelcnnpjooocaa
