/- triadref16: common, Minus (printed by gen_solrmin.py). -/
import Derived.Test.YtkhdadbbgfjcgaaSolRb
namespace Go.Proofs.Ytkhdadbbgfjcgaa
open Go.RowKit
set_option linter.unusedVariables false

theorem hit_getP {b : Sl} {v : List UInt8} (ha : Asc b) : hitB b v = (getP b v).isSome := by
  rw [getP_rk ha]
  cases h : hitB b v with
  | true =>
    obtain ⟨h1, h2⟩ := hitB_iff.1 h
    rw [dif_pos h1, if_pos h2]; rfl
  | false =>
    by_cases h1 : rk b v < b.length
    · by_cases h2 : (b[rk b v]).1 = v
      · rw [hitB_iff.2 ⟨h1, h2⟩] at h; cases h
      · rw [dif_pos h1, if_neg h2]; rfl
    · rw [dif_neg h1]; rfl

set_option maxRecDepth 100000 in
set_option maxHeartbeats 4000000 in
theorem common_any (a b : Sl) (va vb : Value) (w : World) (ha : SolAt w va a) (hb : SolAt w vb b) (hab : Asc b) (hal : a.length ≤ 100000) (hbl : b.length ≤ 100000) :
    Calls Try.prog 50 #[va, vb] w fun e w' => e = .returned (.bool (sharesP a b)) ∧ Below w.heap.size w w' := by
  obtain ⟨p, c, rfl⟩ := ha.shape
  have HA := hid ha
  have HBB := hid hb
  have HAB := hid hab
  clear ha hb hab
  go_enter Try.func50, Try.ntmps50
  go_wp2_with fail
  go_loopw [5] (fun vi wr => ∃ i : Nat, vi = .int .i64 i ∧ i ≤ a.length ∧ Hid ((a.take i).any (fun p => hitB b p.1) = false) ∧ Hid (Below w.heap.size w wr)) (fun vi _ => a.length + 1 - (intOf vi).toNat)
  case atStart => exact ⟨0, rfl, Nat.zero_le _, rfl, Below.refl _ _⟩
  case round =>
    obtain ⟨i, rfl, hi, HN, HW⟩ := hrel
    have hsz := HW.out.size
    by_cases hlt : i < a.length
    · have hlt2 : (i : Int) < (a.length : Int) := by omega
      obtain ⟨g, off, rfl, c0, c1, c2, c3, c4⟩ := (HA.out.new HW.out).at hlt
      have HTK := hid (show (a.take (i + 1)).any (fun p => hitB b p.1) = hitB b (a[i]).1 by
        rw [List.take_add_one, List.getElem?_eq_getElem hlt, List.any_append, HN.out]; simp)
      have HSH := hid (show hitB b (a[i]).1 = true → sharesP a b = true from fun h => List.any_eq_true.2 ⟨a[i], List.getElem_mem hlt, h⟩)
      obtain ⟨q, hq⟩ : ∃ q, a[i] = q := ⟨_, rfl⟩
      rw [hq] at c0 c1 c2 c3 c4 HTK HSH
      clear hq
      go_wp2_with fail
      refine (rGet_any b vb q.1 wr (HBB.out.new HW.out) hbl).mono ?_
      rintro e1 w1 ⟨rfl, hb1⟩
      have HW1 := hid (HW.out.trans (hb1.mono hsz))
      clear hb1 c0 c1 c2 c3 c4
      have hgt : tv (getT b q.1) = .agg #[.int .i64 (getT b q.1).1, .string (B (getT b q.1).2.1), .string (B (getT b q.1).2.2.1), .string (B (getT b q.1).2.2.2)] := rfl
      rw [hgt, ← hit_getP HAB.out]
      clear hgt
      generalize getT b q.1 = o at *
      cases hh : hitB b q.1 with
      | true =>
        have HS1 := hid (HSH.out hh)
        clear hh
        have HW2 := hid (HW1.out.trans ((Below.refl w1.heap.size w1).alloc (Nat.le_refl _) (Obj.cells (tc o).toArray TT) |>.mono HW1.out.size))
        go_wp2_with fail
        go_ret
        exact ⟨by rw [HS1.out]; rfl, HW2.out⟩
      | false =>
        rw [hh] at HTK
        clear hh
        have HW2 := hid (HW1.out.trans ((Below.refl w1.heap.size w1).alloc (Nat.le_refl _) (Obj.cells (tc o).toArray TT) |>.mono HW1.out.size))
        go_wp2_with fail
        case roundEnd => exact ⟨⟨i + 1, by go_num, by omega, HTK, HW2⟩, by simp [intOf]; omega⟩
    · have hlt2 : ¬ (i : Int) < (a.length : Int) := by omega
      rw [List.take_of_length_le (by omega)] at HN
      go_wp2_with fail
      go_ret
      have hs : sharesP a b = false := HN.out
      exact ⟨by rw [hs]; rfl, HW.out⟩

theorem foes_succ {s : Sl} {b : List Sl} {j : Nat} (h : j < b.length) : foesP s (b.take (j + 1)) = (foesP s (b.take j) || foeP s b[j]) := by
  unfold foesP
  rw [List.take_add_one, List.getElem?_eq_getElem h, List.any_append]
  simp

set_option maxRecDepth 100000 in
set_option maxHeartbeats 8000000 in
theorem rMinus_any (a b : List Sl) (va vb : Value) (w : World) (n m : Nat) (ha : SolsAt w va a) (hb : SolsAt w vb b) (oa : ∀ x ∈ a, OkS n x) (ob : ∀ x ∈ b, OkS m x) (hn : n + m ≤ 200) (hal : a.length ≤ 100000) (hbl : b.length ≤ 100000) :
    Calls Try.prog 28 #[va, vb] w fun e w' => ∃ p c, e = .returned (.slice p (minP a b).length c) ∧ OwnL w.heap.size w' (.slice p (minP a b).length c) (srt textP (minP a b)) ∧ Below w.heap.size w w' := by
  obtain ⟨pa, ca, rfl⟩ := ha.shape
  obtain ⟨pb, cb, rfl⟩ := hb.shape
  have HA := hid ha
  have HBB := hid hb
  have OA := hid oa
  have OB := hid ob
  clear ha hb oa ob
  go_enter Try.func28, Try.ntmps28
  go_wp2_with fail
  go_loopw [5, 6] (fun vo vi wr => ∃ (i q : Nat) (p1 : Option Addr) (c1 : Nat) (M : List Sl), vo = .slice p1 q c1 ∧ vi = .int .i64 i ∧ i ≤ a.length ∧ q ≤ i ∧ Hid (M = minP (a.take i) b) ∧ Hid (M.length = q) ∧ Hid (OwnL w.heap.size wr (.slice p1 q c1) M) ∧ Hid (Below w.heap.size w wr)) (fun vo vi _ => a.length + 1 - (intOf vi).toNat)
  case atStart => exact ⟨0, 0, none, 0, [], rfl, rfl, Nat.zero_le _, Nat.zero_le _, rfl, rfl, OwnL.nil _ _, Below.refl _ _⟩
  case round =>
    obtain ⟨i, q, p1, c1, M, rfl, rfl, hi, hqi, HM, HQ, HO, HB⟩ := hrel
    by_cases hlt : i < a.length
    · have hlt2 : (i : Int) < (a.length : Int) := by omega
      obtain ⟨ga, oa, u, rfl, hca0, hsu0⟩ := HA.out.get hlt
      obtain ⟨pu, cu, rfl⟩ := hsu0.shape
      have HMS := hid (min_succ (b := b) hlt)
      have HOS := hid (OA.out _ (List.getElem_mem hlt))
      have HA0 := hid (And.intro (World.block_lt_of_cell? w _ hca0) (And.intro hca0 hsu0))
      clear hca0 hsu0
      generalize a[i] = s at *
      go_wp2_with fail
      go_loopw [7, 8] (fun vg vj wr => ∃ (j : Nat) (mt : Bool), vg = .bool mt ∧ vj = .int .i64 j ∧ j ≤ b.length ∧ Hid (mt = foesP s (b.take j)) ∧ Hid (OwnL w.heap.size wr (.slice p1 q c1) M ∧ Below w.heap.size w wr)) (fun vg vj _ => b.length + 1 - (intOf vj).toNat)
      case atStart => exact ⟨0, false, rfl, rfl, Nat.zero_le _, rfl, ⟨HO.out, HB.out⟩⟩
      case round =>
        clear HO HB
        obtain ⟨j, mt, rfl, rfl, hj, HMT, HOB⟩ := hrel
        have HO := hid HOB.out.1
        have HB := hid HOB.out.2
        clear HOB
        have hsz := HB.out.size
        have hca : wr.cell? ⟨ga, oa + i, none⟩ = some (.slice pu s.length cu) := (HB.out.cell (p := ⟨ga, oa + i, none⟩) HA0.out.1).trans HA0.out.2.1
        have HSS := hid (HA0.out.2.2.new HB.out)
        by_cases hjl : j < b.length
        · have hjl2 : (j : Int) < (b.length : Int) := by omega
          obtain ⟨gb, ob, v, rfl, hcb, hsx⟩ := (HBB.out.new HB.out).get hjl
          have HSX := hid hsx
          have HOX := hid (OB.out _ (List.getElem_mem hjl))
          have HTS := hid (foes_succ (s := s) hjl)
          have HCC := hid (And.intro hca hcb)
          have HGL := hid (And.intro (World.block_lt_of_cell? wr _ hca) (World.block_lt_of_cell? wr _ hcb))
          clear hsx hca hcb
          generalize b[j] = x at *
          go_wp2_with fail
          refine wp_region_plan2 (fun w' => w'.cell? ⟨ga, oa + i, none⟩ = some (.slice pu s.length cu) ∧ w'.cell? ⟨gb, ob + j, none⟩ = some v) (fun j => !([8].contains j)) (fun j => [3, 7].contains j) (fun j => [8].contains j)
            [0, 1, 2, 3, 4, 5, 6, 7, 8, 9, 10, 11, 12, 13] (by kernel_rfl) (by kernel_rfl) rfl (by kernel_rfl) (by kernel_rfl) HCC.out ?_
          iterate 8 (apply wpPlan2_val; (case ho => rfl); (case hst => rfl); (case hw => rfl); (case hv => intro w' hS; first | (obtain ⟨ca, cb⟩ := hS rfl; go_simp; first | done | rfl) | (clear hS; go_simp; first | done | rfl)); intro K hK; go_simp; refine hK _ ?_; clear hK K)
          refine wpPlan2_list rfl rfl rfl (fun K hK => ?_)
          refine wpList_step (fun K2 hK2 => ?_)
          go_simp
          refine (rMeet_any s x (.slice pu s.length cu) v wr.drew n m HSS.out HSX.out HOS.out HOX.out hn).mono ?_
          rintro e1 w1 ⟨p2, c2, rfl, ho1, hb1⟩
          have HO1 := hid (show OwnL w.heap.size w1 (.slice p1 q c1) M from OwnL.new (w := wr.drew) HO.out hb1)
          have HB1 := hid (HB.out.drew.trans (hb1.mono (by have := HB.out.size; simpa using this)))
          have HSS1 := hid (show SolAt w1 (.slice pu s.length cu) s from SolAt.new (w := wr.drew) HSS.out hb1)
          have HSX1 := hid (show SolAt w1 v x from SolAt.new (w := wr.drew) HSX.out hb1)
          have HCC1 := hid (And.intro ((hb1.cell (p := ⟨ga, oa + i, none⟩) (by simpa using HGL.out.1)).trans HCC.out.1) ((hb1.cell (p := ⟨gb, ob + j, none⟩) (by simpa using HGL.out.2)).trans HCC.out.2))
          clear ho1 hb1
          go_simp
          refine hK2 _ _ ?_
          clear hK2 K2
          simp only [wpList]
          refine hK _ _ (fun h => by cases h) ?_
          clear hK K
          iterate 5 (apply wpPlan2_val; (case ho => rfl); (case hst => rfl); (case hw => rfl); (case hv => intro w' hS; first | (obtain ⟨ca, cb⟩ := hS rfl; go_simp; first | done | rfl) | (clear hS; go_simp; first | done | rfl)); intro K hK; go_simp; refine hK _ ?_; clear hK K)
          refine wpPlan2_nil ?_
          simp only [Qn]
          cases mt with
          | true =>
            have HF := hid (show true = foesP s (b.take (j + 1)) by rw [HTS.out, ← HMT.out]; rfl)
            generalize (meetP s x).isSome = is
            go_wp2_with fail
            refine wp_region_plan2 (fun w' => w'.cell? ⟨ga, oa + i, none⟩ = some (.slice pu s.length cu) ∧ w'.cell? ⟨gb, ob + j, none⟩ = some v) (fun j => true) (fun j => [7, 11].contains j) (fun j => [12].contains j)
              [0, 1, 2, 3, 4, 5, 6, 7, 8, 9, 10, 11, 12, 13, 14, 15] (by kernel_rfl) (by kernel_rfl) rfl (by kernel_rfl) (by kernel_rfl) HCC1.out ?_
            iterate 2 (apply wpPlan2_val; (case ho => rfl); (case hst => rfl); (case hw => rfl); (case hv => intro w' hS; first | (obtain ⟨ca, cb⟩ := hS rfl; go_simp; first | done | rfl) | (clear hS; go_simp; first | done | rfl)); intro K hK; go_simp; refine hK _ ?_; clear hK K)
            iterate 12 (apply wpPlan2_off; (case ho => rfl); (case hst => rfl); (case hw => rfl); intro K hK; go_simp; refine hK _ ?_; clear hK K)
            iterate 2 (apply wpPlan2_val; (case ho => rfl); (case hst => rfl); (case hw => rfl); (case hv => intro w' hS; first | (obtain ⟨ca, cb⟩ := hS rfl; go_simp; first | done | rfl) | (clear hS; go_simp; first | done | rfl)); intro K hK; go_simp; refine hK _ ?_; clear hK K)
            refine wpPlan2_nil ?_
            simp only [Qn]
            go_wp2_with fail
            case roundEnd => exact ⟨⟨j + 1, true, rfl, by go_num, by omega, HF, ⟨HO1.out.drew, HB1.out.drew⟩⟩, by simp [intOf]; omega⟩
          | false =>
            cases hm : (meetP s x).isSome with
            | false =>
              have HF := hid (show false = foesP s (b.take (j + 1)) by rw [HTS.out, ← HMT.out]; unfold foeP; rw [hm]; rfl)
              clear hm
              go_wp2_with fail
              refine wp_region_plan2 (fun w' => w'.cell? ⟨ga, oa + i, none⟩ = some (.slice pu s.length cu) ∧ w'.cell? ⟨gb, ob + j, none⟩ = some v) (fun j => true) (fun j => [7, 11].contains j) (fun j => [12].contains j)
                [0, 1, 2, 3, 4, 5, 6, 7, 8, 9, 10, 11, 12, 13, 14, 15] (by kernel_rfl) (by kernel_rfl) rfl (by kernel_rfl) (by kernel_rfl) HCC1.out ?_
              iterate 4 (apply wpPlan2_val; (case ho => rfl); (case hst => rfl); (case hw => rfl); (case hv => intro w' hS; first | (obtain ⟨ca, cb⟩ := hS rfl; go_simp; first | done | rfl) | (clear hS; go_simp; first | done | rfl)); intro K hK; go_simp; refine hK _ ?_; clear hK K)
              iterate 9 (apply wpPlan2_off; (case ho => rfl); (case hst => rfl); (case hw => rfl); intro K hK; go_simp; refine hK _ ?_; clear hK K)
              iterate 3 (apply wpPlan2_val; (case ho => rfl); (case hst => rfl); (case hw => rfl); (case hv => intro w' hS; first | (obtain ⟨ca, cb⟩ := hS rfl; go_simp; first | done | rfl) | (clear hS; go_simp; first | done | rfl)); intro K hK; go_simp; refine hK _ ?_; clear hK K)
              refine wpPlan2_nil ?_
              simp only [Qn]
              go_wp2_with fail
              case roundEnd => exact ⟨⟨j + 1, false, rfl, by go_num, by omega, HF, ⟨HO1.out.drew, HB1.out.drew⟩⟩, by simp [intOf]; omega⟩
            | true =>
              have HF := hid (show sharesP s x = foesP s (b.take (j + 1)) by rw [HTS.out, ← HMT.out]; unfold foeP; rw [hm]; rfl)
              clear hm
              go_wp2_with fail
              refine wp_region_plan2 (fun w' => w'.cell? ⟨ga, oa + i, none⟩ = some (.slice pu s.length cu) ∧ w'.cell? ⟨gb, ob + j, none⟩ = some v) (fun j => !([12].contains j)) (fun j => [7, 11].contains j) (fun j => [12].contains j)
                [0, 1, 2, 3, 4, 5, 6, 7, 8, 9, 10, 11, 12, 13, 14, 15] (by kernel_rfl) (by kernel_rfl) rfl (by kernel_rfl) (by kernel_rfl) HCC1.out ?_
              iterate 12 (apply wpPlan2_val; (case ho => rfl); (case hst => rfl); (case hw => rfl); (case hv => intro w' hS; first | (obtain ⟨ca, cb⟩ := hS rfl; go_simp; first | done | rfl) | (clear hS; go_simp; first | done | rfl)); intro K hK; go_simp; refine hK _ ?_; clear hK K)
              refine wpPlan2_list rfl rfl rfl (fun K hK => ?_)
              refine wpList_step (fun K2 hK2 => ?_)
              go_simp
              refine (common_any s x (.slice pu s.length cu) v w1.drew HSS1.out HSX1.out HOX.out.asc (by have := HOS.out.len; omega) (by have := HOX.out.len; omega)).mono ?_
              rintro e2 w2 ⟨rfl, hb2⟩
              have HOB2 := hid (show OwnL w.heap.size w2 (.slice p1 q c1) M ∧ Below w.heap.size w w2 from ⟨OwnL.new (w := w1.drew) HO1.out hb2, HB1.out.drew.trans (hb2.mono (by have := HB1.out.size; simpa using this))⟩)
              clear hb2
              go_simp
              refine hK2 _ _ ?_
              clear hK2 K2
              simp only [wpList]
              refine hK _ _ (fun h => by cases h) ?_
              clear hK K
              generalize sharesP s x = sh at *
              iterate 3 (apply wpPlan2_val; (case ho => rfl); (case hst => rfl); (case hw => rfl); (case hv => intro w' hS; first | (obtain ⟨ca, cb⟩ := hS rfl; go_simp; first | done | rfl) | (clear hS; go_simp; first | done | rfl)); intro K hK; go_simp; refine hK _ ?_; clear hK K)
              refine wpPlan2_nil ?_
              simp only [Qn]
              go_wp2_with fail
              case roundEnd => exact ⟨⟨j + 1, sh, rfl, by go_num, by omega, HF, HOB2⟩, by simp [intOf]; omega⟩
        · have hjl2 : ¬ (j : Int) < (b.length : Int) := by omega
          rw [List.take_of_length_le (by omega)] at HMT
          cases mt with
          | true =>
            have HF := hid (show minP (a.take (i + 1)) b = M by rw [HMS.out, ← HMT.out, ← HM.out]; simp)
            go_wp2_with fail
            case roundEnd => exact ⟨⟨i + 1, q, p1, c1, M, rfl, by go_num, by omega, by omega, hid HF.out.symm, HQ, HO, HB⟩, by simp [intOf]; omega⟩
          | false =>
            have HF := hid (show minP (a.take (i + 1)) b = M ++ [s] by rw [HMS.out, ← HMT.out, ← HM.out]; simp)
            go_wp2_with (at_builtin; refine wp_keep ?_)
            refine hid ?_
            have hz : Blk (wr.alloc (Obj.cells ([.slice pu s.length cu] : List Value).toArray TL)) wr.heap.size [.slice pu s.length cu] TL := heap_alloc_new wr _
            have hzb := (Below.refl wr.heap.size wr).alloc (Nat.le_refl _) (Obj.cells ([.slice pu s.length cu] : List Value).toArray TL)
            have hoz := HO.out.new hzb
            have hbz := HB.out.trans (hzb.mono HB.out.size)
            have hsz1 := SolsAt.one hz (HSS.out.new hzb)
            obtain ⟨w3, hw3⟩ : ∃ x, wr.alloc (Obj.cells ([.slice pu s.length cu] : List Value).toArray TL) = x := ⟨_, rfl⟩
            rw [hw3] at hz hzb hoz hbz hsz1
            have hw4 : wr.alloc (Obj.cells #[.slice pu s.length cu] TL) = w3 := hw3
            try simp only [hw4]
            try simp only [hw3]
            clear hw3 hw4
            refine wpList_append_sols rfl _ _ rfl w.heap.size _ M rfl hoz _ [s] rfl hsz1 (by rw [HQ.out]; simp; omega) hbz.size ?_
            intro p4 c4 w4 ho4 hb4 _
            have HK4 := hid (show M.length + [s].length = q + 1 by rw [HQ.out]; rfl)
            rw [HK4.out] at ho4 ⊢
            have HO4 := hid ho4
            have HB4 := hid (hbz.trans hb4)
            clear ho4 hb4 hz hzb hoz hbz hsz1
            go_wp2_with fail
            case roundEnd => exact ⟨⟨i + 1, q + 1, p4, c4, M ++ [s], rfl, by go_num, by omega, by omega, hid HF.out.symm, hid (by rw [List.length_append, HQ.out]; rfl), HO4, HB4⟩, by simp [intOf]; omega⟩
    · have hlt2 : ¬ (i : Int) < (a.length : Int) := by omega
      have hsz := HB.out.size
      rw [List.take_of_length_le (by omega)] at HM
      go_wp2_with fail
      refine (rSort_any M _ wr n HO.out.at (by rw [HQ.out]; omega) (by rw [HM.out]; exact fun x hx => OA.out x (List.mem_filter.1 hx).1) (by omega)).mono ?_
      rintro e1 w1 ⟨p2, c2, rfl, ho1, hb1⟩
      have HO1 := hid (ho1.base (B0 := w.heap.size) hsz)
      have HB1 := hid (HB.out.trans (hb1.mono hsz))
      clear ho1 hb1
      go_wp2_with fail
      go_ret
      rw [← HM.out]
      exact ⟨p2, c2, rfl, HO1.out, HB1.out⟩
end Go.Proofs.Ytkhdadbbgfjcgaa
