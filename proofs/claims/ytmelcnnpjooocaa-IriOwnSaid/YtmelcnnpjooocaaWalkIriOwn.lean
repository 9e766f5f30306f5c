/- triadlaw10.IriOwn: the walk. -/
import Derived.Test.YtmelcnnpjooocaaIriL
namespace Go.Proofs.Ytmelcnnpjooocaa
open Go.RowKit
set_option linter.unusedVariables false

theorem own_sc (t : List UInt8) : (split (115 :: 58 :: t)).sc = [115, 58] := by
  have h1 : up [58, 47, 63, 35] (115 :: 58 :: t) = 1 := by
    unfold up
    rw [List.takeWhile_cons, show (![58, 47, 63, 35].contains (115 : UInt8)) = true from rfl, if_pos rfl, List.takeWhile_cons, show (![58, 47, 63, 35].contains (58 : UInt8)) = false from rfl]
    rfl
  unfold split spS
  rw [h1, if_pos ⟨by decide, rfl⟩]
  rfl
theorem own_one (x y t : List UInt8) : resolve x (115 :: 58 :: t) = resolve y (115 :: 58 :: t) := by
  have h : (split (115 :: 58 :: t)).sc ≠ [] := by rw [own_sc]; simp
  unfold resolve
  rw [if_pos h, if_pos h]
theorem own_frag (t : List UInt8) : split (35 :: t) = ⟨[], [], [], [], 35 :: t⟩ := by
  have h1 : up [58, 47, 63, 35] (35 :: t) = 0 := by
    unfold up
    rw [List.takeWhile_cons, show (![58, 47, 63, 35].contains (35 : UInt8)) = false from rfl]
    rfl
  have h2 : up [63, 35] (35 :: t) = 0 := by
    unfold up
    rw [List.takeWhile_cons, show (![63, 35].contains (35 : UInt8)) = false from rfl]
    rfl
  have s1 : spS (35 :: t) = ([], 35 :: t) := by unfold spS; rw [h1, if_neg (fun h => h.1 rfl)]
  have s2 : spA (35 :: t) = ([], 35 :: t) := by
    unfold spA
    rw [if_neg]
    unfold hp
    intro h
    have h3 := eq_of_beq h
    simp at h3
  have s3 : spP (35 :: t) = ([], 35 :: t) := by unfold spP; rw [h2]; rfl
  have s4 : spQ (35 :: t) = ([], 35 :: t) := by
    unfold spQ
    rw [if_neg]
    intro h
    have h3 := hp_one.1 h
    simp at h3
  unfold split
  rw [s1, s2, s3, s4]
theorem own_two (x t a b c d e : List UInt8) (h : split x = ⟨a, b, c, d, e⟩) : resolve x (35 :: t) = a ++ (b ++ (c ++ (d ++ 35 :: t))) := by
  rw [resolve_eq, own_frag, h]
  simp [resolveP]

set_option maxRecDepth 100000 in
set_option maxHeartbeats 8000000 in
theorem iriOwn_walk (a0 : Option Addr) (len0 cap0 : Nat) (z0 : List Int) (a1 : Option Addr) (len1 cap1 : Nat) (z1 : List Int) (a2 : Option Addr) (len2 cap2 : Nat) (z2 : List Int) (a3 : ByteArray) (w : World) (w0 : IsRow .i64 w a0 len0 cap0 z0) (w1 : IsRow .i64 w a1 len1 cap1 z1) (w2 : IsRow .i64 w a2 len2 cap2 z2) (w3 : a3.size ≤ maxLen) :
    Calls Try.prog 6 #[.slice a0 len0 cap0, .slice a1 len1 cap1, .slice a2 len2 cap2, .string a3] w fun e w' => e = .returned (.bool true) ∧ Below w.heap.size w w' := by
  obtain ⟨lw, rfl⟩ : ∃ l, a3 = B l := ⟨_, B_of a3⟩
  rw [B_size] at w3
  simp only [maxLen] at w3
  have HR0 := hid w0
  have HR1 := hid w1
  have HR2 := hid w2
  clear w0 w1 w2
  by_cases h10 : lw.length ≤ 10
  case neg =>
    go_enter Try.func6, Try.ntmps6
    go_wp2_with fail
    refine (known10_any _).mono ?_; rintro e1 w4 ⟨rfl, hb2⟩
    have B2 := hid hb2
    clear hb2
    go_wp2_with fail
    go_ret
    exact ⟨rfl, B2.out⟩
  go_enter Try.func6, Try.ntmps6
  go_wp2_with fail
  refine (known10_any _).mono ?_; rintro e1 w4 ⟨rfl, hb2⟩
  have B2 := hid hb2
  clear hb2
  go_wp2_with fail
  go_loopw [9] (fun i wr => ∃ j : Nat, j ≤ lw.length ∧ i = .int .i64 j ∧ wr = w4) (fun i _ => lw.length + 1 - (intOf i).toNat)
  case atStart => exact ⟨0, Nat.zero_le _, rfl, rfl⟩
  case round =>
    obtain ⟨j, hj, rfl, hw⟩ := hrel
    subst hw
    by_cases hlt : j < lw.length
    · obtain ⟨c, hc⟩ : ∃ c, lw[j]'hlt = c := ⟨_, rfl⟩
      by_cases hc1 : (c.toNat : Int) < 97
      · go_wp2_with fail
        go_ret
        exact ⟨rfl, B2.out⟩
      · by_cases hc2 : (122 : Int) < (c.toNat : Int)
        · go_wp2_with fail
          go_ret
          exact ⟨rfl, B2.out⟩
        · go_wp2_with fail
          go_roundw
          case rel => exact ⟨j + 1, by omega, by go_num, (by first | exact rfl | exact trivial)⟩
          case measure => simp [intOf]; omega
    · clear hj
      go_wp2_with fail
      refine (ref_any a0 len0 cap0 z0 _ (HR0.out.below B2.out)).mono ?_; rintro e1 w5 ⟨ln, hln, rfl, hb3⟩
      have B3 := hid (B2.out.trans (hb3.mono B2.out.size))
      clear hb3 B2
      go_wp2_with fail
      refine (ref_any a1 len1 cap1 z1 _ (HR1.out.below B3.out)).mono ?_; rintro e1 w6 ⟨lx, hlx, rfl, hb3⟩
      have B4 := hid (B3.out.trans (hb3.mono B3.out.size))
      clear hb3 B3
      go_wp2_with fail
      have hlen := split_len lx
      generalize hp : split lx = P at hlen
      obtain ⟨ps, pa, pp, pq, pf⟩ := P
      simp only at hlen
      have HP := hid hp
      clear hp
      refine (xSplit_agg lx ⟨ps, pa, pp, pq, pf⟩ HP.out _ (by omega)).mono ?_; rintro e1 w7 ⟨rfl, hb3⟩
      have B5 := hid (B4.out.trans (hb3.mono B4.out.size))
      clear hb3 B4
      go_wp2_with fail
      have hv : V5p (w7.alloc (Obj.cells #[.string (B ps), .string (B pa), .string (B pp), .string (B pq), .string (B pf)] 26)) w7.heap.size ⟨ps, pa, pp, pq, pf⟩ := heap_alloc_new w7 _
      have hb6 := B5.out.alloc B5.out.size (Obj.cells #[.string (B ps), .string (B pa), .string (B pp), .string (B pq), .string (B pf)] 26)
      generalize w7.alloc (Obj.cells #[.string (B ps), .string (B pa), .string (B pp), .string (B pq), .string (B pf)] 26) = w8 at hv hb6 ⊢
      have V3 := hid hv
      have B6 := hid hb6
      clear hv hb6 B5
      generalize w7.heap.size = g7 at V3 ⊢
      refine wp_region_plan (fun w' => V5p w' g7 ⟨ps, pa, pp, pq, pf⟩) (fun j => !([2, 4, 6, 12].contains j)) (fun _ => false)
        (.of [0, 1, 3, 5, 2, 4, 6, 7, 8, 9, 10, 11, 13, 14, 15, 16, 17, 18, 19, 20, 21, 22, 23, 24, 25, 26, 12, 27, 28, 29]) (by kernel_rfl) (by kernel_rfl) rfl (by kernel_rfl) (by kernel_rfl) V3.out ?_
      apply wpPlan_val
      case ho => rfl
      case hst => rfl
      case hw => rfl
      case hv => intro w' hS; go_simp; first | done | rfl
      intro K hK
      go_simp
      refine hK _ ?_
      clear hK K
      apply wpPlan_val
      case ho => rfl
      case hst => rfl
      case hw => rfl
      case hv => intro w' hS; go_simp; first | done | rfl
      intro K hK
      go_simp
      refine hK _ ?_
      clear hK K
      apply wpPlan_val
      case ho => rfl
      case hst => rfl
      case hw => rfl
      case hv => intro w' hS; go_simp; first | done | rfl
      intro K hK
      go_simp
      refine hK _ ?_
      clear hK K
      apply wpPlan_val
      case ho => rfl
      case hst => rfl
      case hw => rfl
      case hv => intro w' hS; go_simp; first | done | rfl
      intro K hK
      go_simp
      refine hK _ ?_
      clear hK K
      refine wpPlan_list rfl rfl rfl (fun K hK => ?_)
      refine wpList_step (fun K2 hK2 => ?_)
      go_simp
      refine (iResolve_any lx (115 :: 58 :: ln) _ (by omega) (by simp only [List.length_cons]; omega)).mono ?_
      rintro e1 w9 ⟨rfl, hb7⟩
      have V4 : Hid (V5p w9 g7 ⟨ps, pa, pp, pq, pf⟩) := hid (V5p.new (w := w8.drew) V3.out hb7)
      have B7 := hid ((below_drewN B6.out 1).trans (hb7.mono (below_drewN B6.out 1).size))
      clear hb7
      go_simp
      refine hK2 _ _ ?_
      clear hK2 K2
      simp only [wpList]
      refine hK _ _ (fun _ => V4.out) ?_
      clear hK K
      refine wpPlan_list rfl rfl rfl (fun K hK => ?_)
      refine wpList_step (fun K2 hK2 => ?_)
      go_simp
      refine (ref_any a2 len2 cap2 z2 _ (HR2.out.below B7.out)).mono ?_
      rintro e1 w10 ⟨lb, hlb, rfl, hb7⟩
      have V5 : Hid (V5p w10 g7 ⟨ps, pa, pp, pq, pf⟩) := hid (V5p.new (w := w9) V4.out hb7)
      have B8 := hid (B7.out.trans (hb7.mono B7.out.size))
      clear hb7
      go_simp
      refine hK2 _ _ ?_
      clear hK2 K2
      simp only [wpList]
      refine hK _ _ (fun _ => V5.out) ?_
      clear hK K
      refine wpPlan_list rfl rfl rfl (fun K hK => ?_)
      refine wpList_step (fun K2 hK2 => ?_)
      go_simp
      refine (iResolve_any lb (115 :: 58 :: ln) _ (by omega) (by simp only [List.length_cons]; omega)).mono ?_
      rintro e1 w11 ⟨rfl, hb7⟩
      rw [own_one lb lx ln]
      have V6 : Hid (V5p w11 g7 ⟨ps, pa, pp, pq, pf⟩) := hid (V5p.new (w := w10) V5.out hb7)
      have B9 := hid (B8.out.trans (hb7.mono B8.out.size))
      clear hb7
      go_simp
      refine hK2 _ _ ?_
      clear hK2 K2
      simp only [wpList]
      refine hK _ _ (fun _ => V6.out) ?_
      clear hK K
      apply wpPlan_val
      case ho => rfl
      case hst => rfl
      case hw => rfl
      case hv => intro w' hS; go_simp; first | done | rfl
      intro K hK
      go_simp
      refine hK _ ?_
      clear hK K
      apply wpPlan_val
      case ho => rfl
      case hst => rfl
      case hw => rfl
      case hv => intro w' hS; go_simp; first | done | rfl
      intro K hK
      go_simp
      refine hK _ ?_
      clear hK K
      apply wpPlan_val
      case ho => rfl
      case hst => rfl
      case hw => rfl
      case hv => intro w' hS; go_simp; first | done | rfl
      intro K hK
      go_simp
      refine hK _ ?_
      clear hK K
      apply wpPlan_val
      case ho => rfl
      case hst => rfl
      case hw => rfl
      case hv => intro w' hS; go_simp; first | done | rfl
      intro K hK
      go_simp
      refine hK _ ?_
      clear hK K
      apply wpPlan_val
      case ho => rfl
      case hst => rfl
      case hw => rfl
      case hv => intro w' hS; exact exec_add _ _ _ _ rfl ([35]) (lw) rfl rfl (by first | omega | (simp; done) | (simp; omega))
      intro K hK
      go_simp
      refine hK _ ?_
      clear hK K
      apply wpPlan_val
      case ho => rfl
      case hst => rfl
      case hw => rfl
      case hv => intro w' hS; go_simp; first | done | rfl
      intro K hK
      go_simp
      refine hK _ ?_
      clear hK K
      apply wpPlan_val
      case ho => rfl
      case hst => rfl
      case hw => rfl
      case hv => intro w' hS; obtain ⟨c0, c1, c2, c3, c4, f0, f1, f2, f3, f4⟩ := five_cells hS; go_simp; first | done | rfl
      intro K hK
      go_simp
      refine hK _ ?_
      clear hK K
      apply wpPlan_val
      case ho => rfl
      case hst => rfl
      case hw => rfl
      case hv => intro w' hS; go_simp; first | done | rfl
      intro K hK
      go_simp
      refine hK _ ?_
      clear hK K
      apply wpPlan_val
      case ho => rfl
      case hst => rfl
      case hw => rfl
      case hv => intro w' hS; obtain ⟨c0, c1, c2, c3, c4, f0, f1, f2, f3, f4⟩ := five_cells hS; go_simp; first | done | rfl
      intro K hK
      go_simp
      refine hK _ ?_
      clear hK K
      apply wpPlan_val
      case ho => rfl
      case hst => rfl
      case hw => rfl
      case hv => intro w' hS; exact exec_add _ _ _ _ rfl (ps) (pa) rfl rfl (by first | omega | (simp; done) | (simp; omega))
      intro K hK
      go_simp
      refine hK _ ?_
      clear hK K
      apply wpPlan_val
      case ho => rfl
      case hst => rfl
      case hw => rfl
      case hv => intro w' hS; go_simp; first | done | rfl
      intro K hK
      go_simp
      refine hK _ ?_
      clear hK K
      apply wpPlan_val
      case ho => rfl
      case hst => rfl
      case hw => rfl
      case hv => intro w' hS; obtain ⟨c0, c1, c2, c3, c4, f0, f1, f2, f3, f4⟩ := five_cells hS; go_simp; first | done | rfl
      intro K hK
      go_simp
      refine hK _ ?_
      clear hK K
      apply wpPlan_val
      case ho => rfl
      case hst => rfl
      case hw => rfl
      case hv => intro w' hS; exact exec_add _ _ _ _ rfl (ps ++ pa) (pp) rfl rfl (by first | omega | (simp; done) | (simp; omega))
      intro K hK
      go_simp
      refine hK _ ?_
      clear hK K
      apply wpPlan_val
      case ho => rfl
      case hst => rfl
      case hw => rfl
      case hv => intro w' hS; go_simp; first | done | rfl
      intro K hK
      go_simp
      refine hK _ ?_
      clear hK K
      apply wpPlan_val
      case ho => rfl
      case hst => rfl
      case hw => rfl
      case hv => intro w' hS; obtain ⟨c0, c1, c2, c3, c4, f0, f1, f2, f3, f4⟩ := five_cells hS; go_simp; first | done | rfl
      intro K hK
      go_simp
      refine hK _ ?_
      clear hK K
      apply wpPlan_val
      case ho => rfl
      case hst => rfl
      case hw => rfl
      case hv => intro w' hS; exact exec_add _ _ _ _ rfl (ps ++ (pa ++ pp)) (pq) rfl rfl (by first | omega | (simp; done) | (simp; omega))
      intro K hK
      go_simp
      refine hK _ ?_
      clear hK K
      apply wpPlan_val
      case ho => rfl
      case hst => rfl
      case hw => rfl
      case hv => intro w' hS; exact exec_add _ _ _ _ rfl (ps ++ (pa ++ (pp ++ pq))) ([35]) rfl rfl (by first | omega | (simp; done) | (simp; omega))
      intro K hK
      go_simp
      refine hK _ ?_
      clear hK K
      apply wpPlan_val
      case ho => rfl
      case hst => rfl
      case hw => rfl
      case hv => intro w' hS; go_simp; first | done | rfl
      intro K hK
      go_simp
      refine hK _ ?_
      clear hK K
      apply wpPlan_val
      case ho => rfl
      case hst => rfl
      case hw => rfl
      case hv => intro w' hS; exact exec_add _ _ _ _ rfl (ps ++ (pa ++ (pp ++ (pq ++ [35])))) (lw) rfl rfl (by first | omega | (simp; done) | (simp; omega))
      intro K hK
      go_simp
      refine hK _ ?_
      clear hK K
      refine wpPlan_list rfl rfl rfl (fun K hK => ?_)
      refine wpList_step (fun K2 hK2 => ?_)
      go_simp
      refine (iResolve_any lx (35 :: lw) _ (by omega) (by simp only [List.length_cons]; omega)).mono ?_
      rintro e1 w12 ⟨rfl, hb7⟩
      rw [own_two lx lw _ _ _ _ _ HP.out]
      have V7 : Hid (V5p w12 g7 ⟨ps, pa, pp, pq, pf⟩) := hid (V5p.new (w := w11) V6.out hb7)
      have B10 := hid (B9.out.trans (hb7.mono B9.out.size))
      clear hb7
      go_simp
      refine hK2 _ _ ?_
      clear hK2 K2
      simp only [wpList]
      refine hK _ _ (fun _ => V7.out) ?_
      clear hK K
      apply wpPlan_val
      case ho => rfl
      case hst => rfl
      case hw => rfl
      case hv => intro w' hS; go_simp; first | done | rfl
      intro K hK
      go_simp
      refine hK _ ?_
      clear hK K
      apply wpPlan_val
      case ho => rfl
      case hst => rfl
      case hw => rfl
      case hv => intro w' hS; go_simp; first | done | rfl
      intro K hK
      go_simp
      refine hK _ ?_
      clear hK K
      apply wpPlan_val
      case ho => rfl
      case hst => rfl
      case hw => rfl
      case hv => intro w' hS; go_simp; first | done | rfl
      intro K hK
      go_simp
      refine hK _ ?_
      clear hK K
      refine wpPlan_nil ?_
      simp only [Qn]
      go_wp2_with fail
      go_ret
      exact ⟨rfl, B10.out⟩
end Go.Proofs.Ytmelcnnpjooocaa
