/- triadref10.dots. -/
import Derived.Test.YtmelcnnpjooocaaIriD
namespace Go.Proofs.Ytmelcnnpjooocaa
open Go.RowKit
set_option linter.unusedVariables false


def szOf (v : Value) : Nat := match v with | .string b => b.size | _ => 0

set_option maxRecDepth 100000 in
set_option maxHeartbeats 16000000 in
theorem dots_any (s0 : List UInt8) (w : World) (hl : s0.length ≤ 1000000) :
    Calls Try.prog 20 #[.string (B s0)] w fun e w' => e = .returned (.string (B (dots s0))) ∧ Below w.heap.size w w' := by
  go_enter Try.func20, Try.ntmps20
  go_wp2_with fail
  go_loopw [0, 3] (fun v0 v3 wr => ∃ s out : List UInt8, v0 = .string (B s) ∧ v3 = .string (B out) ∧ Dt s0 s out ∧ Below w.heap.size w wr) (fun v0 _ _ => szOf v0)
  case atStart => exact ⟨s0, [], rfl, rfl, Dt.start s0, Below.refl _ _⟩
  case round =>
    obtain ⟨s, out, rfl, rfl, hdt, hb⟩ := hrel
    have HD := hid hdt
    have BB := hid hb
    have hls : out.length + s.length ≤ 1000000 := by have := hdt.2; omega
    have hlo : out.length ≤ 1000000 := by omega
    clear hdt hb
    by_cases hne : s = []
    · subst hne
      go_wp2_with fail
      go_ret
      rw [HD.out.done]
      exact ⟨rfl, BB.out⟩
    · have b0 := beq_no hne
      have HNE := hid hne
      clear hne
      rcases Bool.eq_false_or_eq_true (hp [46, 46, 47] s) with e1 | e1
      · have E1 := hid e1
        have h3 := hp_length e1
        have h4 : 3 ≤ s.length := h3
        have h5 : (3 : Int) ≤ (s.length : Int) := by omega
        clear e1 h3
        have hd : dstep s out = (s.drop 3, out) := by unfold dstep; rw [if_pos E1.out]
        have ST := hid (HD.out.step HNE.out hd)
        clear hd
        go_wp2_with fail
        refine (begins_any s [46, 46, 47] _ (by decide)).mono ?_; rintro e1 wx ⟨rfl, hw⟩
        subst hw
        rw [E1.out]
        go_wp2_with fail
        go_roundw
        case rel => exact ⟨_, _, rfl, rfl, ST.out.1, BB.out⟩
        case measure => exact ST.out.2
      · have E1 := hid e1
        clear e1
        rcases Bool.eq_false_or_eq_true (hp [46, 47] s) with e2 | e2
        · have E2 := hid e2
          have h3 := hp_length e2
          have h4 : 2 ≤ s.length := h3
          have h5 : (2 : Int) ≤ (s.length : Int) := by omega
          clear e2 h3
          have hd : dstep s out = (s.drop 2, out) := by unfold dstep; rw [if_neg (by rw [E1.out]; simp), if_pos E2.out]
          have ST := hid (HD.out.step HNE.out hd)
          clear hd
          go_wp2_with fail
          refine (begins_any s [46, 46, 47] _ (by decide)).mono ?_; rintro e1 wx ⟨rfl, hw⟩
          subst hw
          rw [E1.out]
          go_wp2_with fail
          refine (begins_any s [46, 47] _ (by decide)).mono ?_; rintro e1 wx ⟨rfl, hw⟩
          subst hw
          rw [E2.out]
          go_wp2_with fail
          go_roundw
          case rel => exact ⟨_, _, rfl, rfl, ST.out.1, BB.out⟩
          case measure => exact ST.out.2
        · have E2 := hid e2
          clear e2
          rcases Bool.eq_false_or_eq_true (hp [47, 46, 47] s) with e3 | e3
          · have E3 := hid e3
            have h3 := hp_length e3
            have h4 : 3 ≤ s.length := h3
            have h5 : (2 : Int) ≤ (s.length : Int) := by omega
            clear e3 h3
            have hd : dstep s out = (s.drop 2, out) := by unfold dstep; rw [if_neg (by rw [E1.out]; simp), if_neg (by rw [E2.out]; simp), if_pos E3.out]
            have ST := hid (HD.out.step HNE.out hd)
            clear hd
            go_wp2_with fail
            refine (begins_any s [46, 46, 47] _ (by decide)).mono ?_; rintro e1 wx ⟨rfl, hw⟩
            subst hw
            rw [E1.out]
            go_wp2_with fail
            refine (begins_any s [46, 47] _ (by decide)).mono ?_; rintro e1 wx ⟨rfl, hw⟩
            subst hw
            rw [E2.out]
            go_wp2_with fail
            refine (begins_any s [47, 46, 47] _ (by decide)).mono ?_; rintro e1 wx ⟨rfl, hw⟩
            subst hw
            rw [E3.out]
            go_wp2_with fail
            go_roundw
            case rel => exact ⟨_, _, rfl, rfl, ST.out.1, BB.out⟩
            case measure => exact ST.out.2
          · have E3 := hid e3
            clear e3
            by_cases e4 : s = [47, 46]
            · have E4 := hid e4
              have b4 := beq_yes e4
              clear e4
              have hd : dstep s out = ([47], out) := by unfold dstep; rw [if_neg (by rw [E1.out]; simp), if_neg (by rw [E2.out]; simp), if_neg (by rw [E3.out]; simp), if_pos E4.out]
              have ST := hid (HD.out.step HNE.out hd)
              clear hd
              go_wp2_with fail
              refine (begins_any s [46, 46, 47] _ (by decide)).mono ?_; rintro e1 wx ⟨rfl, hw⟩
              subst hw
              rw [E1.out]
              go_wp2_with fail
              refine (begins_any s [46, 47] _ (by decide)).mono ?_; rintro e1 wx ⟨rfl, hw⟩
              subst hw
              rw [E2.out]
              go_wp2_with fail
              refine (begins_any s [47, 46, 47] _ (by decide)).mono ?_; rintro e1 wx ⟨rfl, hw⟩
              subst hw
              rw [E3.out]
              go_wp2_with fail
              go_roundw
              case rel => exact ⟨_, _, rfl, rfl, ST.out.1, BB.out⟩
              case measure => exact ST.out.2
            · have E4 := hid e4
              have b4 := beq_no e4
              clear e4
              rcases Bool.eq_false_or_eq_true (hp [47, 46, 46, 47] s) with e5 | e5
              · have E5 := hid e5
                have h3 := hp_length e5
                have h4 : 4 ≤ s.length := h3
                have h5 : (3 : Int) ≤ (s.length : Int) := by omega
                clear e5 h3
                have hd : dstep s out = (s.drop 3, back out) := by unfold dstep; rw [if_neg (by rw [E1.out]; simp), if_neg (by rw [E2.out]; simp), if_neg (by rw [E3.out]; simp), if_neg E4.out, if_pos E5.out]
                have ST := hid (HD.out.step HNE.out hd)
                clear hd
                go_wp2_with fail
                refine (begins_any s [46, 46, 47] _ (by decide)).mono ?_; rintro e1 wx ⟨rfl, hw⟩
                subst hw
                rw [E1.out]
                go_wp2_with fail
                refine (begins_any s [46, 47] _ (by decide)).mono ?_; rintro e1 wx ⟨rfl, hw⟩
                subst hw
                rw [E2.out]
                go_wp2_with fail
                refine (begins_any s [47, 46, 47] _ (by decide)).mono ?_; rintro e1 wx ⟨rfl, hw⟩
                subst hw
                rw [E3.out]
                go_wp2_with fail
                refine (begins_any s [47, 46, 46, 47] _ (by decide)).mono ?_; rintro e1 wx ⟨rfl, hw⟩
                subst hw
                rw [E5.out]
                go_wp2_with fail
                have C1 := hid (turn (cut_any out wr.drew hlo))
                refine wp_region_still_tail 4 (by kernel_rfl) (by kernel_rfl) ?_
                simp only [List.take_succ_cons, List.take_zero, List.drop_succ_cons, List.drop_zero]
                repeat still_step
                still_call C1.out
                repeat still_step
                refine wpStill_nil ?_
                go_wp2_with fail
                go_roundw
                case rel => exact ⟨_, _, rfl, rfl, ST.out.1, (below_drewN BB.out 1)⟩
                case measure => exact ST.out.2
              · have E5 := hid e5
                clear e5
                by_cases e6 : s = [47, 46, 46]
                · have E6 := hid e6
                  have b6 := beq_yes e6
                  clear e6
                  have hd : dstep s out = ([47], back out) := by unfold dstep; rw [if_neg (by rw [E1.out]; simp), if_neg (by rw [E2.out]; simp), if_neg (by rw [E3.out]; simp), if_neg E4.out, if_neg (by rw [E5.out]; simp), if_pos E6.out]
                  have ST := hid (HD.out.step HNE.out hd)
                  clear hd
                  go_wp2_with fail
                  refine (begins_any s [46, 46, 47] _ (by decide)).mono ?_; rintro e1 wx ⟨rfl, hw⟩
                  subst hw
                  rw [E1.out]
                  go_wp2_with fail
                  refine (begins_any s [46, 47] _ (by decide)).mono ?_; rintro e1 wx ⟨rfl, hw⟩
                  subst hw
                  rw [E2.out]
                  go_wp2_with fail
                  refine (begins_any s [47, 46, 47] _ (by decide)).mono ?_; rintro e1 wx ⟨rfl, hw⟩
                  subst hw
                  rw [E3.out]
                  go_wp2_with fail
                  refine (begins_any s [47, 46, 46, 47] _ (by decide)).mono ?_; rintro e1 wx ⟨rfl, hw⟩
                  subst hw
                  rw [E5.out]
                  go_wp2_with fail
                  refine (cut_any out _ hlo).mono ?_; rintro e1 wx ⟨rfl, hw⟩
                  subst hw
                  go_wp2_with fail
                  go_roundw
                  case rel => exact ⟨_, _, rfl, rfl, ST.out.1, BB.out⟩
                  case measure => exact ST.out.2
                · have E6 := hid e6
                  have b6 := beq_no e6
                  clear e6
                  by_cases e7 : s = [46]
                  · have E7 := hid e7
                    have b7 := beq_yes e7
                    clear e7
                    have hd : dstep s out = ([], out) := by unfold dstep; rw [if_neg (by rw [E1.out]; simp), if_neg (by rw [E2.out]; simp), if_neg (by rw [E3.out]; simp), if_neg E4.out, if_neg (by rw [E5.out]; simp), if_neg E6.out, if_pos (.inl E7.out)]
                    have ST := hid (HD.out.step HNE.out hd)
                    clear hd
                    go_wp2_with fail
                    refine (begins_any s [46, 46, 47] _ (by decide)).mono ?_; rintro e1 wx ⟨rfl, hw⟩
                    subst hw
                    rw [E1.out]
                    go_wp2_with fail
                    refine (begins_any s [46, 47] _ (by decide)).mono ?_; rintro e1 wx ⟨rfl, hw⟩
                    subst hw
                    rw [E2.out]
                    go_wp2_with fail
                    refine (begins_any s [47, 46, 47] _ (by decide)).mono ?_; rintro e1 wx ⟨rfl, hw⟩
                    subst hw
                    rw [E3.out]
                    go_wp2_with fail
                    refine (begins_any s [47, 46, 46, 47] _ (by decide)).mono ?_; rintro e1 wx ⟨rfl, hw⟩
                    subst hw
                    rw [E5.out]
                    go_wp2_with fail
                    go_roundw
                    case rel => exact ⟨_, _, rfl, rfl, ST.out.1, BB.out⟩
                    case measure => exact ST.out.2
                  · by_cases e8 : s = [46, 46]
                    · have E7 := hid e8
                      have b8 := beq_yes e8
                      have b7 := beq_no e7
                      clear e7 e8
                      have hd : dstep s out = ([], out) := by unfold dstep; rw [if_neg (by rw [E1.out]; simp), if_neg (by rw [E2.out]; simp), if_neg (by rw [E3.out]; simp), if_neg E4.out, if_neg (by rw [E5.out]; simp), if_neg E6.out, if_pos (.inr E7.out)]
                      have ST := hid (HD.out.step HNE.out hd)
                      clear hd
                      go_wp2_with fail
                      refine (begins_any s [46, 46, 47] _ (by decide)).mono ?_; rintro e1 wx ⟨rfl, hw⟩
                      subst hw
                      rw [E1.out]
                      go_wp2_with fail
                      refine (begins_any s [46, 47] _ (by decide)).mono ?_; rintro e1 wx ⟨rfl, hw⟩
                      subst hw
                      rw [E2.out]
                      go_wp2_with fail
                      refine (begins_any s [47, 46, 47] _ (by decide)).mono ?_; rintro e1 wx ⟨rfl, hw⟩
                      subst hw
                      rw [E3.out]
                      go_wp2_with fail
                      refine (begins_any s [47, 46, 46, 47] _ (by decide)).mono ?_; rintro e1 wx ⟨rfl, hw⟩
                      subst hw
                      rw [E5.out]
                      go_wp2_with fail
                      go_roundw
                      case rel => exact ⟨_, _, rfl, rfl, ST.out.1, BB.out⟩
                      case measure => exact ST.out.2
                    · have E7 := hid e7
                      have E8 := hid e8
                      have b7 := beq_no e7
                      have b8 := beq_no e8
                      clear e7 e8
                      have hd : dstep s out = (s.drop (1 + up [47] (s.drop 1)), out ++ s.take (1 + up [47] (s.drop 1))) := by unfold dstep; rw [if_neg (by rw [E1.out]; simp), if_neg (by rw [E2.out]; simp), if_neg (by rw [E3.out]; simp), if_neg E4.out, if_neg (by rw [E5.out]; simp), if_neg E6.out, if_neg (by rintro (h | h); exact E7.out h; exact E8.out h)]
                      have ST := hid (HD.out.step HNE.out hd)
                      clear hd
                      have h1s : 1 ≤ s.length := List.length_pos_iff.2 HNE.out
                      go_wp2_with fail
                      refine (begins_any s [46, 46, 47] _ (by decide)).mono ?_; rintro e1 wx ⟨rfl, hw⟩
                      subst hw
                      rw [E1.out]
                      go_wp2_with fail
                      refine (begins_any s [46, 47] _ (by decide)).mono ?_; rintro e1 wx ⟨rfl, hw⟩
                      subst hw
                      rw [E2.out]
                      go_wp2_with fail
                      refine (begins_any s [47, 46, 47] _ (by decide)).mono ?_; rintro e1 wx ⟨rfl, hw⟩
                      subst hw
                      rw [E3.out]
                      go_wp2_with fail
                      refine (begins_any s [47, 46, 46, 47] _ (by decide)).mono ?_; rintro e1 wx ⟨rfl, hw⟩
                      subst hw
                      rw [E5.out]
                      go_wp2_with fail
                      refine (upTo_any s [47] 1 _ h1s (by omega) (by decide)).mono ?_; rintro e1 w5 ⟨rfl, hw⟩
                      subst hw
                      have hun := up_le [47] (s.drop 1)
                      rw [List.length_drop] at hun
                      have hkn : 1 + up [47] (s.drop 1) ≤ s.length := by omega
                      generalize 1 + up [47] (s.drop 1) = n at hkn ST ⊢
                      clear hun
                      go_wp2_with fail
                      refine wp_region_plan (fun _ => True) (fun j => decide (j < 8)) (fun _ => false)
                        (.of [0, 1, 2, 3, 4, 5, 6, 7, 8, 9]) (by kernel_rfl) (by kernel_rfl) rfl (by kernel_rfl) (by kernel_rfl) trivial ?_
                      apply wpPlan_val
                      case ho => rfl
                      case hst => rfl
                      case hw => rfl
                      case hv => intro w' hS; go_simp; first | done | rfl
                      intro K hK
                      go_simp
                      refine hK _ ?_
                      clear hK K
                      apply wpPlan_val
                      case ho => rfl
                      case hst => rfl
                      case hw => rfl
                      case hv => intro w' hS; go_simp; first | done | rfl
                      intro K hK
                      go_simp
                      refine hK _ ?_
                      clear hK K
                      apply wpPlan_val
                      case ho => rfl
                      case hst => rfl
                      case hw => rfl
                      case hv => intro w' hS; go_simp; first | done | rfl
                      intro K hK
                      go_simp
                      refine hK _ ?_
                      clear hK K
                      apply wpPlan_val
                      case ho => rfl
                      case hst => rfl
                      case hw => rfl
                      case hv => intro w' hS; exact exec_to 9 _ _ rfl Try.underlying9 s n rfl rfl hkn
                      intro K hK
                      go_simp
                      refine hK _ ?_
                      clear hK K
                      apply wpPlan_val
                      case ho => rfl
                      case hst => rfl
                      case hw => rfl
                      case hv => intro w' hS; exact exec_add _ _ _ _ rfl out (s.take n) rfl rfl (by rw [List.length_take]; omega)
                      intro K hK
                      go_simp
                      refine hK _ ?_
                      clear hK K
                      apply wpPlan_val
                      case ho => rfl
                      case hst => rfl
                      case hw => rfl
                      case hv => intro w' hS; go_simp; first | done | rfl
                      intro K hK
                      go_simp
                      refine hK _ ?_
                      clear hK K
                      apply wpPlan_val
                      case ho => rfl
                      case hst => rfl
                      case hw => rfl
                      case hv => intro w' hS; go_simp; first | done | rfl
                      intro K hK
                      go_simp
                      refine hK _ ?_
                      clear hK K
                      apply wpPlan_val
                      case ho => rfl
                      case hst => rfl
                      case hw => rfl
                      case hv => intro w' hS; exact exec_from 9 _ _ rfl Try.underlying9 s n rfl rfl hkn
                      intro K hK
                      go_simp
                      refine hK _ ?_
                      clear hK K
                      refine wpPlan_list rfl rfl rfl (fun K hK => ?_)
                      refine wpList_step (fun K2 hK2 => ?_)
                      go_simp
                      refine hK2 _ _ ?_
                      clear hK2 K2
                      simp only [wpList]
                      refine hK _ _ (fun _ => trivial) ?_
                      clear hK K
                      refine wpPlan_list rfl rfl rfl (fun K hK => ?_)
                      refine wpList_step (fun K2 hK2 => ?_)
                      go_simp
                      refine hK2 _ _ ?_
                      clear hK2 K2
                      simp only [wpList]
                      refine hK _ _ (fun _ => trivial) ?_
                      clear hK K
                      refine wpPlan_nil ?_
                      simp only [Qn]
                      go_wp2_with fail
                      go_roundw
                      case rel => exact ⟨_, _, rfl, rfl, ST.out.1, (below_drewN BB.out 1)⟩
                      case measure => exact ST.out.2
end Go.Proofs.Ytmelcnnpjooocaa
