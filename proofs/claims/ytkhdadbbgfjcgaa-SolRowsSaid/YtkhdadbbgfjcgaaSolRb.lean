/- triadref16: Join, Left (printed by gen_solrjoin.py). -/
import Derived.Test.YtkhdadbbgfjcgaaSolRa
import Derived.Test.YtkhdadbbgfjcgaaSolT
namespace Go.Proofs.Ytkhdadbbgfjcgaa
open Go.RowKit
set_option linter.unusedVariables false

theorem mts_lt (s : Sl) (l : List Sl) (i : Nat) (stay : Bool) : (mts s (l.take i)).length ≤ (rowP stay l s).length := by
  have h := mts_mono s l i
  unfold rowP
  split
  · rename_i h2; exact Nat.le_trans h (by rw [h2.1]; simp)
  · exact h
set_option maxRecDepth 100000 in
set_option maxHeartbeats 8000000 in
theorem rjoin_any (stay : Bool) (a b : List Sl) (va vb : Value) (w : World) (n m : Nat) (ha : SolsAt w va a) (hb : SolsAt w vb b) (oa : ∀ x ∈ a, OkS n x) (ob : ∀ x ∈ b, OkS m x) (hn : n + m ≤ 200) (hal : a.length ≤ 100000) (hbl : b.length ≤ 100000) :
    Calls Try.prog 44 #[va, vb, .bool stay] w (ResJ w.heap.size w (jnP stay a b)) := by
  obtain ⟨pa, ca, rfl⟩ := ha.shape
  obtain ⟨pb, cb, rfl⟩ := hb.shape
  have HA := hid ha
  have HBB := hid hb
  have OA := hid oa
  have OB := hid ob
  clear ha hb oa ob
  go_enter Try.func44, Try.ntmps44
  go_wp2_with fail
  go_loopw [8, 9] (fun vo vi wr => ∃ (i k : Nat) (p1 : Option Addr) (c1 : Nat) (M : List Sl), vo = .slice p1 k c1 ∧ vi = .int .i64 i ∧ i ≤ a.length ∧ k ≤ 2000 ∧ Hid (M = allP stay (a.take i) b) ∧ Hid (M.length = k) ∧ Hid (OwnL w.heap.size wr (.slice p1 k c1) M) ∧ Hid (Below w.heap.size w wr)) (fun vo vi _ => a.length + 1 - (intOf vi).toNat)
  case atStart => exact ⟨0, 0, none, 0, [], rfl, rfl, Nat.zero_le _, Nat.zero_le _, by rw [List.take_zero]; exact rfl, rfl, OwnL.nil _ _, Below.refl _ _⟩
  case round =>
    obtain ⟨i, k, p1, c1, M, rfl, rfl, hi, hk, HM, HK, HO, HB⟩ := hrel
    by_cases hlt : i < a.length
    · have hlt2 : (i : Int) < (a.length : Int) := by omega
      obtain ⟨ga, oa, u, rfl, hca0, hsu0⟩ := HA.out.get hlt
      obtain ⟨pu, cu, rfl⟩ := hsu0.shape
      have HMS := hid (all_succ (stay := stay) (b := b) hlt)
      have HOS := hid (OA.out _ (List.getElem_mem hlt))
      have hmono := all_mono stay a b (i + 1)
      rw [all_succ hlt, List.length_append, ← HM.out, HK.out] at hmono
      have HMO := hid hmono
      have HA0 := hid (And.intro (World.block_lt_of_cell? w _ hca0) (And.intro hca0 hsu0))
      clear hmono hca0 hsu0
      generalize a[i] = s at *
      go_wp2_with fail
      go_loopw [8, 10, 11] (fun vo vm vj wr => ∃ (j q : Nat) (p : Option Addr) (c : Nat) (M2 : List Sl) (mt : Bool), vo = .slice p q c ∧ vm = .bool mt ∧ vj = .int .i64 j ∧ j ≤ b.length ∧ q ≤ 2000 ∧ Hid (M2 = M ++ mts s (b.take j)) ∧ Hid (mt = !(mts s (b.take j)).isEmpty) ∧ Hid (M2.length = q) ∧ Hid (OwnL w.heap.size wr (.slice p q c) M2) ∧ Hid (Below w.heap.size w wr)) (fun vo vm vj _ => b.length + 1 - (intOf vj).toNat)
      case atStart => exact ⟨0, k, p1, c1, M, false, rfl, rfl, rfl, Nat.zero_le _, hk, by rw [List.take_zero]; exact hid (by simp [mts]), rfl, HK, HO, HB⟩
      case round =>
        clear HO HB
        obtain ⟨j, q, p, c, M2, mt, rfl, rfl, rfl, hj, hq, HM2, HMT, HQ, HO, HB⟩ := hrel
        have hsz := HB.out.size
        have hca : wr.cell? ⟨ga, oa + i, none⟩ = some (.slice pu s.length cu) := (HB.out.cell (p := ⟨ga, oa + i, none⟩) HA0.out.1).trans HA0.out.2.1
        have HSS := hid (HA0.out.2.2.new HB.out)
        by_cases hjl : j < b.length
        · have hjl2 : (j : Int) < (b.length : Int) := by omega
          obtain ⟨gb, ob, v, rfl, hcb, hsx⟩ := (HBB.out.new HB.out).get hjl
          have HSX := hid hsx
          have HOX := hid (OB.out _ (List.getElem_mem hjl))
          have HTS := hid (mts_succ (s := s) hjl)
          have HLT := hid (mts_lt s b (j + 1) stay)
          have HCC := hid (And.intro hca hcb)
          clear hsx hca hcb
          generalize b[j] = x at *
          go_wp2_with fail
          refine wp_region_plan2 (fun w' => w'.cell? ⟨ga, oa + i, none⟩ = some (.slice pu s.length cu) ∧ w'.cell? ⟨gb, ob + j, none⟩ = some v) (fun j => !([8].contains j)) (fun j => [3, 7].contains j) (fun j => [8].contains j)
            [0, 1, 2, 3, 4, 5, 6, 7, 8, 9, 10, 11, 12, 13] (by kernel_rfl) (by kernel_rfl) rfl (by kernel_rfl) (by kernel_rfl) HCC.out ?_
          iterate 8 (apply wpPlan2_val; (case ho => rfl); (case hst => rfl); (case hw => rfl); (case hv => intro w' hS; first | (obtain ⟨ca, cb⟩ := hS rfl; go_simp; first | done | rfl) | (clear hS; go_simp; first | done | rfl)); intro K hK; go_simp; refine hK _ ?_; clear hK K)
          refine wpPlan2_list rfl rfl rfl (fun K hK => ?_)
          refine wpList_step (fun K2 hK2 => ?_)
          go_simp
          refine (rMeet_any s x (.slice pu s.length cu) v wr.drew n m HSS.out HSX.out HOS.out HOX.out hn).mono ?_
          rintro e1 w1 ⟨p2, c2, rfl, ho1, hb1⟩
          have HO1 := hid (show OwnL w.heap.size w1 (.slice p q c) M2 from OwnL.new (w := wr.drew) HO.out hb1)
          have HB1 := hid (HB.out.drew.trans (hb1.mono (by have := HB.out.size; simpa using this)))
          have HX := hid ho1
          clear ho1 hb1
          go_simp
          refine hK2 _ _ ?_
          clear hK2 K2
          simp only [wpList]
          refine hK _ _ (fun h => by cases h) ?_
          clear hK K
          iterate 5 (apply wpPlan2_val; (case ho => rfl); (case hst => rfl); (case hw => rfl); (case hv => intro w' hS; first | (obtain ⟨ca, cb⟩ := hS rfl; go_simp; first | done | rfl) | (clear hS; go_simp; first | done | rfl)); intro K hK; go_simp; refine hK _ ?_; clear hK K)
          refine wpPlan2_nil ?_
          simp only [Qn]
          cases hm : meetP s x with
          | none =>
            rw [hm] at HX HTS
            simp only [Option.isSome_none, Option.getD_none]
            clear hm
            have hqq : ¬ (2000 : Int) < (q : Int) := by omega
            go_wp2_with fail
            case roundEnd => exact ⟨⟨j + 1, q, p, c, M2, mt, rfl, rfl, by go_num, by omega, hq, by rw [HTS.out, HM2.out]; exact hid (by simp), by rw [HTS.out, HMT.out]; exact hid (by simp), HQ, HO1, HB1⟩, by simp [intOf]; omega⟩
          | some y =>
            rw [hm] at HX HTS
            simp only [Option.getD_some, Option.isSome_some] at HX ⊢
            clear hm
            go_wp2_with (at_builtin; refine wp_keep ?_)
            refine hid ?_
            have hz : Blk (w1.alloc (Obj.cells ([.slice p2 y.length c2] : List Value).toArray TL)) w1.heap.size [.slice p2 y.length c2] TL := heap_alloc_new w1 _
            have hzb := (Below.refl w1.heap.size w1).alloc (Nat.le_refl _) (Obj.cells ([.slice p2 y.length c2] : List Value).toArray TL)
            have hoz := HO1.out.new hzb
            have hbz := HB1.out.trans (hzb.mono HB1.out.size)
            have hsz1 := SolsAt.one hz ((HX.out.sol).new hzb)
            obtain ⟨w3, hw3⟩ : ∃ x, w1.alloc (Obj.cells ([.slice p2 y.length c2] : List Value).toArray TL) = x := ⟨_, rfl⟩
            rw [hw3] at hz hzb hoz hbz hsz1
            have hw4 : w1.alloc (Obj.cells #[.slice p2 y.length c2] TL) = w3 := hw3
            try simp only [hw4]
            try simp only [hw3]
            clear hw3 hw4
            refine wpList_append_sols rfl _ _ rfl w.heap.size _ M2 rfl hoz _ [y] rfl hsz1 (by rw [HQ.out]; simp; omega) hbz.size ?_
            intro p4 c4 w4 ho4 hb4 _
            have HK4 := hid (show M2.length + [y].length = q + 1 by rw [HQ.out]; rfl)
            rw [HK4.out] at ho4 ⊢
            have HO4 := hid ho4
            have HB4 := hid (hbz.trans hb4)
            clear ho4 hb4 hz hzb hoz hbz hsz1
            by_cases hqq : q + 1 ≤ 2000
            · have hqq2 : ¬ (2000 : Int) < (q : Int) + 1 := by omega
              go_wp2_with fail
              case roundEnd => exact ⟨⟨j + 1, q + 1, p4, c4, M2 ++ [y], true, rfl, rfl, by go_num, by omega, hqq, by rw [HTS.out, HM2.out]; exact hid (by simp), by rw [HTS.out]; exact hid (by simp), hid (by rw [List.length_append, HQ.out]; rfl), HO4, HB4⟩, by simp [intOf]; omega⟩
            · have hqq2 : (2000 : Int) < (q : Int) + 1 := by omega
              have hno : jnP stay a b = none := by
                refine jn_none ?_
                have h1 := HMO.out
                have h2 := HLT.out
                rw [HTS.out, List.length_append] at h2
                have h3 := HQ.out
                rw [HM2.out, List.length_append, HK.out] at h3
                simp at h2
                omega
              have HNO := hid hno
              clear hno
              go_wp2_with fail
              go_ret2
              rw [HNO.out]
              exact ⟨none, 0, rfl, OwnL.nil _ _, HB4.out⟩
        · have hjl2 : ¬ (j : Int) < (b.length : Int) := by omega
          rw [List.take_of_length_le (by omega)] at HM2 HMT
          have hqq : ¬ (2000 : Int) < (q : Int) := by omega
          cases mt with
          | true =>
            have HRW := hid (show rowP stay b s = mts s b by
              unfold rowP
              rw [if_neg (fun h => by have h9 := HMT.out; rw [h.1] at h9; cases h9)])
            cases stay <;>
            · go_wp2_with fail
              case roundEnd => exact ⟨⟨i + 1, q, p, c, M2, rfl, by go_num, by omega, hq, by rw [HMS.out, ← HM.out, HRW.out]; exact HM2, HQ, HO, HB⟩, by simp [intOf]; omega⟩
          | false =>
            have hme : mts s b = [] := by
              cases hh : mts s b with
              | nil => rfl
              | cons z zs => have h9 := HMT.out; rw [hh] at h9; cases h9
            have HME := hid hme
            clear hme
            cases stay with
            | false =>
              have HRW := hid (show rowP false b s = mts s b by unfold rowP; rw [if_neg (by simp)])
              go_wp2_with fail
              case roundEnd => exact ⟨⟨i + 1, q, p, c, M2, rfl, by go_num, by omega, hq, by rw [HMS.out, ← HM.out, HRW.out]; exact HM2, HQ, HO, HB⟩, by simp [intOf]; omega⟩
            | true =>
              have HRW := hid (show rowP true b s = [s] by unfold rowP; rw [if_pos ⟨HME.out, rfl⟩])
              go_wp2_with (at_builtin; refine wp_keep ?_)
              refine hid ?_
              have hz : Blk (wr.alloc (Obj.cells ([.slice pu s.length cu] : List Value).toArray TL)) wr.heap.size [.slice pu s.length cu] TL := heap_alloc_new wr _
              have hzb := (Below.refl wr.heap.size wr).alloc (Nat.le_refl _) (Obj.cells ([.slice pu s.length cu] : List Value).toArray TL)
              have hoz := HO.out.new hzb
              have hbz := HB.out.trans (hzb.mono HB.out.size)
              have hsz1 := SolsAt.one hz ((HSS.out).new hzb)
              obtain ⟨w3, hw3⟩ : ∃ x, wr.alloc (Obj.cells ([.slice pu s.length cu] : List Value).toArray TL) = x := ⟨_, rfl⟩
              rw [hw3] at hz hzb hoz hbz hsz1
              have hw4 : wr.alloc (Obj.cells #[.slice pu s.length cu] TL) = w3 := hw3
              try simp only [hw4]
              try simp only [hw3]
              clear hw3 hw4
              refine wpList_append_sols rfl _ _ rfl w.heap.size _ M2 rfl hoz _ [s] rfl hsz1 (by rw [HQ.out]; simp; omega) hbz.size ?_
              intro p4 c4 w4 ho4 hb4 _
              have HK4 := hid (show M2.length + [s].length = q + 1 by rw [HQ.out]; rfl)
              rw [HK4.out] at ho4 ⊢
              have HO4 := hid ho4
              have HB4 := hid (hbz.trans hb4)
              clear ho4 hb4 hz hzb hoz hbz hsz1
              by_cases hqq3 : q + 1 ≤ 2000
              · have hqq2 : ¬ (2000 : Int) < (q : Int) + 1 := by omega
                go_wp2_with fail
                case roundEnd => exact ⟨⟨i + 1, q + 1, p4, c4, M2 ++ [s], rfl, by go_num, by omega, hqq3, by rw [HMS.out, ← HM.out, HRW.out, HM2.out, HME.out]; exact hid (by simp), hid (by rw [List.length_append, HQ.out]; rfl), HO4, HB4⟩, by simp [intOf]; omega⟩
              · have hqq2 : (2000 : Int) < (q : Int) + 1 := by omega
                have hno : jnP true a b = none := by
                  refine jn_none ?_
                  have h1 := HMO.out
                  rw [HRW.out] at h1
                  have h3 := HQ.out
                  rw [HM2.out, HME.out, List.length_append, HK.out] at h3
                  simp at h1 h3
                  omega
                have HNO := hid hno
                clear hno
                go_wp2_with fail
                go_ret2
                rw [HNO.out]
                exact ⟨none, 0, rfl, OwnL.nil _ _, HB4.out⟩
    · have hlt2 : ¬ (i : Int) < (a.length : Int) := by omega
      have hsz := HB.out.size
      rw [List.take_of_length_le (by omega)] at HM
      have hyes : jnP stay a b = some (srt textP M) := by
        rw [HM.out]; exact jn_some (by rw [← HM.out, HK.out]; exact hk)
      have HY := hid hyes
      clear hyes
      go_wp2_with fail
      refine (rSort_any M _ wr (n + m) HO.out.at (by rw [HK.out]; omega) (by rw [HM.out]; exact all_ok OA.out OB.out) (by omega)).mono ?_
      rintro e1 w1 ⟨p2, c2, rfl, ho1, hb1⟩
      have HO1 := hid (ho1.base (B0 := w.heap.size) hsz)
      have HB1 := hid (HB.out.trans (hb1.mono hsz))
      clear ho1 hb1
      go_wp2_with fail
      go_ret2
      rw [HY.out]
      refine ⟨p2, c2, ?_, ?_, HB1.out⟩
      · simp only [Option.getD_some, srt_len]; rfl
      · simp only [Option.getD_some, srt_len]; exact HO1.out

set_option maxRecDepth 100000 in
theorem rJoin_any (a b : List Sl) (va vb : Value) (w : World) (n m : Nat) (ha : SolsAt w va a) (hb : SolsAt w vb b) (oa : ∀ x ∈ a, OkS n x) (ob : ∀ x ∈ b, OkS m x) (hn : n + m ≤ 200) (hal : a.length ≤ 100000) (hbl : b.length ≤ 100000) :
    Calls Try.prog 23 #[va, vb] w (ResJ w.heap.size w (jnP false a b)) := by
  have HA := hid ha
  have HBB := hid hb
  have OA := hid oa
  have OB := hid ob
  clear ha hb oa ob
  go_enter Try.func23, Try.ntmps23
  go_wp2_with fail
  refine (rjoin_any false a b va vb w n m HA.out HBB.out OA.out OB.out hn hal hbl).mono ?_
  rintro e1 w1 ⟨p, c, rfl, h1, h2⟩
  have HH := hid (And.intro h1 h2)
  obtain ⟨er, her⟩ : ∃ er : Int, (if (jnP false a b).isSome then (0 : Int) else 4) = er := ⟨_, rfl⟩
  rw [her]
  have HER := hid her
  clear h1 h2 her
  go_wp2_with fail
  go_ret2
  exact ⟨p, c, by rw [HER.out]; rfl, HH.out.1, HH.out.2⟩
set_option maxRecDepth 100000 in
theorem rLeft_any (a b : List Sl) (va vb : Value) (w : World) (n m : Nat) (ha : SolsAt w va a) (hb : SolsAt w vb b) (oa : ∀ x ∈ a, OkS n x) (ob : ∀ x ∈ b, OkS m x) (hn : n + m ≤ 200) (hal : a.length ≤ 100000) (hbl : b.length ≤ 100000) :
    Calls Try.prog 25 #[va, vb] w (ResJ w.heap.size w (jnP true a b)) := by
  have HA := hid ha
  have HBB := hid hb
  have OA := hid oa
  have OB := hid ob
  clear ha hb oa ob
  go_enter Try.func25, Try.ntmps25
  go_wp2_with fail
  refine (rjoin_any true a b va vb w n m HA.out HBB.out OA.out OB.out hn hal hbl).mono ?_
  rintro e1 w1 ⟨p, c, rfl, h1, h2⟩
  have HH := hid (And.intro h1 h2)
  obtain ⟨er, her⟩ : ∃ er : Int, (if (jnP true a b).isSome then (0 : Int) else 4) = er := ⟨_, rfl⟩
  rw [her]
  have HER := hid her
  clear h1 h2 her
  go_wp2_with fail
  go_ret2
  exact ⟨p, c, by rw [HER.out]; rfl, HH.out.1, HH.out.2⟩
end Go.Proofs.Ytkhdadbbgfjcgaa
