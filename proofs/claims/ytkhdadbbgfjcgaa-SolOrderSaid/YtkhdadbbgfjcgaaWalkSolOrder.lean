/- SolOrder (printed by gen_solorder.py). -/
import Derived.Test.YtkhdadbbgfjcgaaSolLb
namespace Go.Proofs.Ytkhdadbbgfjcgaa
open Go.RowKit
set_option linter.unusedVariables false

theorem rd_ints {w : World} {a : Option Addr} {len cap : Nat} {zs : List Int} (h : IsRow .i64 w a len cap zs) :
    ∃ xs : List Int, xs.length = len ∧ Rd w 1 (.slice a len cap) xs.length (xs.map (Value.int .i64)) ∧ I64 xs := by
  have hlen : (zs.take len).length = len := by
    rcases h with ⟨rfl, rfl, rfl, rfl⟩ | ⟨x, rfl, hl, hm, hz, hc, _⟩ <;> simp; omega
  have hr := h.rd
  refine ⟨zs.take len, hlen, by rw [hlen]; exact hr, fun x hx => ?_⟩
  rcases h with ⟨rfl, rfl, rfl, rfl⟩ | ⟨y, rfl, hl, hm, hz, hc, hw⟩
  · simp at hx
  · exact i64_of_wf (hw x (List.mem_of_mem_take hx))
theorem cnt_succ {l : List Sl} {s : Sl} {k : Nat} (h : k < l.length) : (l.take (k + 1)).countP (fun y => decide (y = s)) = (l.take k).countP (fun y => decide (y = s)) + (if decide (l[k] = s) then 1 else 0) := by
  rw [List.take_add_one, List.getElem?_eq_getElem h, List.countP_append]
  by_cases hs : l[k] = s <;> simp [hs]

set_option maxRecDepth 100000 in
set_option maxHeartbeats 8000000 in
theorem solOrder_walk (a0 : Option Addr) (len0 cap0 : Nat) (z0 : List Int) (w : World) (w0 : IsRow .i64 w a0 len0 cap0 z0) :
    Calls Try.prog 5 #[.slice a0 len0 cap0] w fun e w' => e = .returned (.bool true) ∧ Below w.heap.size w w' := by
  obtain ⟨xs, hxl, hrd, hx64⟩ := rd_ints w0
  have HR := hid hrd
  have HX := hid hx64
  clear w0 hrd hx64 hxl
  go_enter Try.func5, Try.ntmps5
  go_wp2_with fail
  refine (known_any w).mono ?_; rintro e1 w1 ⟨rfl, hb1⟩
  have HB1 := hid hb1
  have HR1 := hid (HR.out.new hb1)
  clear hb1
  go_wp2_with fail
  refine (some_any xs _ w1 HR1.out HX.out).mono ?_; rintro e2 w2 ⟨pl, cl, rfl, ho2, hb2⟩
  have HB2 := hid (HB1.out.trans (hb2.mono HB1.out.size))
  have HL2 := hid ho2.at
  have hLn := someP_len xs
  have HOK := hid (someP_ok xs)
  clear ho2 hb2
  generalize someP xs = L at *
  go_wp2_with fail
  refine (sort_any L _ w2 4 HL2.out (by omega) HOK.out (by omega)).mono ?_; rintro e3 w3 ⟨px, cx, rfl, ho3, hb3⟩
  have HB3 := hid (HB2.out.trans (hb3.mono HB2.out.size))
  have HL3 := hid (HL2.out.new hb3)
  have HX3 := hid ho3.at
  have HXL := hid (srt_len (key := textP) L)
  have HXO : Hid (∀ s ∈ srt textP L, OkS 4 s) := hid (fun s hs => HOK.out s (mem_srt.1 hs))
  have HSD := hid (sd_srt (key := textP) L)
  have HPE := hid (srt_perm (key := textP) L)
  clear ho3 hb3
  obtain ⟨X, hX⟩ : ∃ X, srt textP L = X := ⟨_, rfl⟩
  rw [hX] at HX3 HXL HXO HSD HPE
  clear hX
  obtain ⟨n, hn⟩ : ∃ n, L.length = n := ⟨_, rfl⟩
  rw [hn] at hLn HXL HX3 HL3
  have HLN := hid hn
  simp only [hn]
  clear hn HL2 HR HR1 HX
  go_wp2_with fail
  go_loopw [5] (fun vi wr => ∃ i : Nat, vi = .int .i64 i ∧ i ≤ n ∧ Hid (Below w3.heap.size w3 wr)) (fun vi _ => n + 1 - (intOf vi).toNat)
  case atStart => exact ⟨0, rfl, Nat.zero_le _, Below.refl _ _⟩
  case round =>
    obtain ⟨i, rfl, hi, HB⟩ := hrel
    by_cases hlt : i < n
    · have hlt2 : (i : Int) < (n : Int) := by omega
      have hiL : i < L.length := by rw [HLN.out]; exact hlt
      have hiX : i < X.length := by rw [HXL.out]; exact hlt
      have HIL := hid (And.intro hiL hiX)
      clear hiL hiX
      obtain ⟨bx, ox, _, hpx, _⟩ := (HX3.out.new HB.out).get HIL.out.2
      obtain ⟨bl, ol, _, hpl, _⟩ := (HL3.out.new HB.out).get HIL.out.1
      subst hpx
      subst hpl
      by_cases h0 : 0 < i
      case' pos =>
        have h02 : (0 : Int) < (i : Int) := by omega
        obtain ⟨j, hj⟩ : ∃ j : Nat, (i : Int) - 1 = (j : Int) := ⟨i - 1, by omega⟩
        have hjX : j < X.length := by have := HIL.out.2; omega
        obtain ⟨bx_, ox_, u, hpx, hcu, hsu⟩ := (HX3.out.new HB.out).get hjX
        obtain ⟨by_, oy, v, hpy, hcv, hsv⟩ := (HX3.out.new HB.out).get HIL.out.2
        cases hpx
        cases hpy
        obtain ⟨s, hs⟩ : ∃ s, X[j] = s := ⟨_, rfl⟩
        obtain ⟨t, ht⟩ : ∃ t, X[i]'HIL.out.2 = t := ⟨_, rfl⟩
        have hle := HSD.out.le HIL.out.2 (show j < i by omega)
        have hos := HXO.out _ (List.getElem_mem hjX)
        have hot := HXO.out _ (List.getElem_mem HIL.out.2)
        rw [hs] at hsu hle hos
        rw [ht] at hsv hle hot
        have hor : (Op.bytesLess (textP s) (textP t) || (textP s == textP t)) = true := by
          cases hb : Op.bytesLess (textP s) (textP t) with
          | true => rfl
          | false => rw [ltB_tri hb hle]; simp
        have HS := hid hsu
        have HT := hid hsv
        have HOS := hid hos
        have HOT := hid hot
        have HCC := hid (And.intro hcu hcv)
        have hjn : (j : Int) < (n : Int) := by omega
        have hjw : IntKind.i64.wrap (j : Int) = (j : Int) := IntWalk.i64_in _ (by omega)
        have hbl : bx < wr.heap.size := World.block_lt_of_cell? wr _ hcu
        clear hsu hsv hcu hcv hle hos hot hs ht hjX
        go_wp2_with fail
        refine wp_region_plan2 (fun w' => w'.cell? ⟨bx, ox + j, none⟩ = some u ∧ w'.cell? ⟨bx, ox + i, none⟩ = some v) (fun j => !([8, 13].contains j)) (fun j => [7, 12].contains j) (fun j => false)
          [0, 1, 2, 3, 4, 5, 6, 7, 9, 10, 11, 12, 8, 13, 14, 15] (by kernel_rfl) (by kernel_rfl) rfl (by kernel_rfl) (by kernel_rfl) HCC.out ?_
        iterate 12 (apply wpPlan2_val; (case ho => rfl); (case hst => rfl); (case hw => rfl); (case hv => intro w' hS; first | (obtain ⟨ca, cb⟩ := hS rfl; go_simp; first | done | rfl) | (clear hS; go_simp; first | done | rfl)); intro K hK; go_simp; refine hK _ ?_; clear hK K)
        refine wpPlan2_list rfl rfl rfl (fun K hK => ?_)
        refine wpList_step (fun K2 hK2 => ?_)
        go_simp
        refine (text_any s u wr.drew 4 HS.out HOS.out (by omega)).mono ?_
        rintro e4 w4 ⟨rfl, hb4⟩
        have HB4 := hid (HB.out.drew.trans (hb4.mono (by have := HB.out.size; simpa using this)))
        have HT4 := hid (HT.out.new (w := wr.drew) hb4)
        have HC4 := hid (And.intro ((hb4.cell (p := ⟨bx, ox + j, none⟩) (by simpa using hbl)).trans HCC.out.1) ((hb4.cell (p := ⟨bx, ox + i, none⟩) (by simpa using hbl)).trans HCC.out.2))
        have hbl4 : bx < w4.heap.size := Nat.lt_of_lt_of_le (by simpa using hbl) hb4.size
        clear hb4
        go_simp
        refine hK2 _ _ ?_
        clear hK2 K2
        simp only [wpList]
        refine hK _ _ (fun _ => HC4.out) ?_
        clear hK K
        refine wpPlan2_list rfl rfl rfl (fun K hK => ?_)
        refine wpList_step (fun K2 hK2 => ?_)
        go_simp
        refine (text_any t v w4 4 HT4.out HOT.out (by omega)).mono ?_
        rintro e5 wq ⟨rfl, hb5⟩
        have HB5 := hid (HB4.out.trans (hb5.mono HB4.out.size))
        have HC5 := hid (And.intro ((hb5.cell (p := ⟨bx, ox + j, none⟩) hbl4).trans HC4.out.1) ((hb5.cell (p := ⟨bx, ox + i, none⟩) hbl4).trans HC4.out.2))
        clear hb5 hbl hbl4
        go_simp
        refine hK2 _ _ ?_
        clear hK2 K2
        simp only [wpList]
        refine hK _ _ (fun _ => HC5.out) ?_
        clear hK K
        iterate 2 (apply wpPlan2_val; (case ho => rfl); (case hst => rfl); (case hw => rfl); (case hv => intro w' hS; first | (obtain ⟨ca, cb⟩ := hS rfl; go_simp; first | done | rfl) | (clear hS; go_simp; first | done | rfl)); intro K hK; go_simp; refine hK _ ?_; clear hK K)
        refine wpPlan2_nil ?_
        simp only [Qn]
        clear HB HB4 HCC HC4 HC5 HS HT HOS HOT HT4 hor
        have HB := HB5
        clear HB5
      case' neg =>
        have h02 : ¬ (0 : Int) < (i : Int) := by omega
        go_wp2_with fail
        refine wp_region_plan2 (fun w' => True) (fun j => true) (fun j => false) (fun j => false)
          [0, 1, 2, 3, 4, 5, 6, 7, 8, 9, 10, 11, 12, 13, 14, 15] (by kernel_rfl) (by kernel_rfl) rfl (by kernel_rfl) (by kernel_rfl) trivial ?_
        iterate 3 (apply wpPlan2_val; (case ho => rfl); (case hst => rfl); (case hw => rfl); (case hv => intro w' hS; first | (obtain ⟨ca, cb⟩ := hS rfl; go_simp; first | done | rfl) | (clear hS; go_simp; first | done | rfl)); intro K hK; go_simp; refine hK _ ?_; clear hK K)
        iterate 12 (apply wpPlan2_off; (case ho => rfl); (case hst => rfl); (case hw => rfl); intro K hK; go_simp; refine hK _ ?_; clear hK K)
        iterate 1 (apply wpPlan2_val; (case ho => rfl); (case hst => rfl); (case hw => rfl); (case hv => intro w' hS; first | (obtain ⟨ca, cb⟩ := hS rfl; go_simp; first | done | rfl) | (clear hS; go_simp; first | done | rfl)); intro K hK; go_simp; refine hK _ ?_; clear hK K)
        refine wpPlan2_nil ?_
        simp only [Qn]
        have HB := hid HB.out.drew
        obtain ⟨wq, hwq⟩ : ∃ wq, wr.drew = wq := ⟨_, rfl⟩
        rw [hwq] at HB ⊢
        clear hwq
      all_goals
        obtain ⟨sI, hsI⟩ : ∃ s, L[i]'HIL.out.1 = s := ⟨_, rfl⟩
        have HSI := hid hsI
        clear hsI
        have HOI := hid (show OkS 4 sI by rw [← HSI.out]; exact HOK.out _ (List.getElem_mem HIL.out.1))
        go_wp2_with fail
        go_loopw [6, 7, 8] (fun va vb vk wr => ∃ a b k : Nat, va = .int .i64 a ∧ vb = .int .i64 b ∧ vk = .int .i64 k ∧ k ≤ n ∧ a ≤ k ∧ b ≤ k ∧ Hid (a = (L.take k).countP (fun y => decide (y = sI))) ∧ Hid (b = (X.take k).countP (fun y => decide (y = sI))) ∧ Hid (Below w3.heap.size w3 wr)) (fun va vb vk _ => n + 1 - (intOf vk).toNat)
        case atStart => exact ⟨0, 0, 0, rfl, rfl, rfl, Nat.zero_le _, Nat.le_refl _, Nat.le_refl _, rfl, rfl, HB⟩
      all_goals
        clear HB
        obtain ⟨a, b, k, rfl, rfl, rfl, hk, hak, hbk, HA, HBB, HB⟩ := hrel
        by_cases hkl : k < n
        · have hkl2 : (k : Int) < (n : Int) := by omega
          have HKL := hid (show k < L.length ∧ k < X.length from ⟨by rw [HLN.out]; exact hkl, by rw [HXL.out]; exact hkl⟩)
          go_wp2_with fail
          obtain ⟨b1_, o1_, u, hpu, hcu, hsu⟩ := (HL3.out.new HB.out).get HKL.out.1
          obtain ⟨b2_, o2_, v, hpv, hcv, hsv⟩ := (HL3.out.new HB.out).get HIL.out.1
          cases hpu
          cases hpv
          obtain ⟨p, hp⟩ : ∃ s, L[k]'HKL.out.1 = s := ⟨_, rfl⟩
          rw [hp] at hsu
          rw [HSI.out] at hsv
          have HSU := hid hsu
          have HSV := hid hsv
          have HOU := hid (show OkS 4 p by rw [← hp]; exact HOK.out _ (List.getElem_mem HKL.out.1))
          have HCp := hid (show (L.take (k + 1)).countP (fun y => decide (y = sI)) = (L.take k).countP (fun y => decide (y = sI)) + (if decide (p = sI) then 1 else 0) by rw [← hp]; exact cnt_succ HKL.out.1)
          have HCC := hid (And.intro hcu hcv)
          clear hsu hsv hcu hcv hp
          refine wp_region_plan2 (fun w' => w'.cell? ⟨bl, ol + k, none⟩ = some u ∧ w'.cell? ⟨bl, ol + i, none⟩ = some v) (fun j => !([8].contains j)) (fun j => [3, 7].contains j) (fun j => [8].contains j)
            [0, 1, 2, 3, 4, 5, 6, 7, 8] (by kernel_rfl) (by kernel_rfl) rfl (by kernel_rfl) (by kernel_rfl) HCC.out ?_
          iterate 8 (apply wpPlan2_val; (case ho => rfl); (case hst => rfl); (case hw => rfl); (case hv => intro w' hS; first | (obtain ⟨ca, cb⟩ := hS rfl; go_simp; first | done | rfl) | (clear hS; go_simp; first | done | rfl)); intro K hK; go_simp; refine hK _ ?_; clear hK K)
          refine wpPlan2_list rfl rfl rfl (fun K hK => ?_)
          refine wpList_step (fun K2 hK2 => ?_)
          go_simp
          refine (one_any p sI u v wr.drew 4 HSU.out HSV.out HOU.out HOI.out (by omega)).mono ?_
          rintro e6 w7 ⟨rfl, hb6⟩
          have HBw7 := hid (HB.out.drew.trans (hb6.mono (by have := HB.out.size; simpa using this)))
          clear hb6 HCC HSU HSV HOU
          go_simp
          refine hK2 _ _ ?_
          clear hK2 K2
          simp only [wpList]
          refine hK _ _ (fun h => by cases h) ?_
          clear hK K
          refine wpPlan2_nil ?_
          simp only [Qn]
          by_cases hqp : p = sI
          · have hdp : decide (p = sI) = true := decide_eq_true hqp
            rw [hdp] at HCp ⊢
            clear hqp hdp
            go_wp2_with fail
            obtain ⟨b1_, o1_, u, hpu, hcu, hsu⟩ := (HX3.out.new HBw7.out).get HKL.out.2
            obtain ⟨b2_, o2_, v, hpv, hcv, hsv⟩ := (HL3.out.new HBw7.out).get HIL.out.1
            cases hpu
            cases hpv
            obtain ⟨q, hq⟩ : ∃ s, X[k]'HKL.out.2 = s := ⟨_, rfl⟩
            rw [hq] at hsu
            rw [HSI.out] at hsv
            have HSU := hid hsu
            have HSV := hid hsv
            have HOU := hid (show OkS 4 q by rw [← hq]; exact HXO.out _ (List.getElem_mem HKL.out.2))
            have HCq := hid (show (X.take (k + 1)).countP (fun y => decide (y = sI)) = (X.take k).countP (fun y => decide (y = sI)) + (if decide (q = sI) then 1 else 0) by rw [← hq]; exact cnt_succ HKL.out.2)
            have HCC := hid (And.intro hcu hcv)
            clear hsu hsv hcu hcv hq
            refine wp_region_plan2 (fun w' => w'.cell? ⟨bx, ox + k, none⟩ = some u ∧ w'.cell? ⟨bl, ol + i, none⟩ = some v) (fun j => !([8].contains j)) (fun j => [3, 7].contains j) (fun j => [8].contains j)
              [0, 1, 2, 3, 4, 5, 6, 7, 8] (by kernel_rfl) (by kernel_rfl) rfl (by kernel_rfl) (by kernel_rfl) HCC.out ?_
            iterate 8 (apply wpPlan2_val; (case ho => rfl); (case hst => rfl); (case hw => rfl); (case hv => intro w' hS; first | (obtain ⟨ca, cb⟩ := hS rfl; go_simp; first | done | rfl) | (clear hS; go_simp; first | done | rfl)); intro K hK; go_simp; refine hK _ ?_; clear hK K)
            refine wpPlan2_list rfl rfl rfl (fun K hK => ?_)
            refine wpList_step (fun K2 hK2 => ?_)
            go_simp
            refine (one_any q sI u v w7.drew 4 HSU.out HSV.out HOU.out HOI.out (by omega)).mono ?_
            rintro e6 w8 ⟨rfl, hb6⟩
            have HBw8 := hid (HBw7.out.drew.trans (hb6.mono (by have := HBw7.out.size; simpa using this)))
            clear hb6 HCC HSU HSV HOU
            go_simp
            refine hK2 _ _ ?_
            clear hK2 K2
            simp only [wpList]
            refine hK _ _ (fun h => by cases h) ?_
            clear hK K
            refine wpPlan2_nil ?_
            simp only [Qn]
            by_cases hqq : q = sI
            · have hdq : decide (q = sI) = true := decide_eq_true hqq
              rw [hdq] at HCq ⊢
              clear hqq hdq
              go_wp2_with fail
              case roundEnd => exact ⟨⟨a + 1, b + 1, k + 1, by go_num, by go_num, by go_num, by omega, by omega, by omega, hid (by rw [HCp.out, ← HA.out]; rfl), hid (by rw [HCq.out, ← HBB.out]; rfl), HBw8⟩, by simp [intOf]; omega⟩
            · have hdq : decide (q = sI) = false := decide_eq_false hqq
              rw [hdq] at HCq ⊢
              clear hqq hdq
              go_wp2_with fail
              case roundEnd => exact ⟨⟨a + 1, b, k + 1, by go_num, rfl, by go_num, by omega, by omega, by omega, hid (by rw [HCp.out, ← HA.out]; rfl), hid (by rw [HCq.out, ← HBB.out]; rfl), HBw8⟩, by simp [intOf]; omega⟩
          · have hdp : decide (p = sI) = false := decide_eq_false hqp
            rw [hdp] at HCp ⊢
            clear hqp hdp
            go_wp2_with fail
            obtain ⟨b1_, o1_, u, hpu, hcu, hsu⟩ := (HX3.out.new HBw7.out).get HKL.out.2
            obtain ⟨b2_, o2_, v, hpv, hcv, hsv⟩ := (HL3.out.new HBw7.out).get HIL.out.1
            cases hpu
            cases hpv
            obtain ⟨q, hq⟩ : ∃ s, X[k]'HKL.out.2 = s := ⟨_, rfl⟩
            rw [hq] at hsu
            rw [HSI.out] at hsv
            have HSU := hid hsu
            have HSV := hid hsv
            have HOU := hid (show OkS 4 q by rw [← hq]; exact HXO.out _ (List.getElem_mem HKL.out.2))
            have HCq := hid (show (X.take (k + 1)).countP (fun y => decide (y = sI)) = (X.take k).countP (fun y => decide (y = sI)) + (if decide (q = sI) then 1 else 0) by rw [← hq]; exact cnt_succ HKL.out.2)
            have HCC := hid (And.intro hcu hcv)
            clear hsu hsv hcu hcv hq
            refine wp_region_plan2 (fun w' => w'.cell? ⟨bx, ox + k, none⟩ = some u ∧ w'.cell? ⟨bl, ol + i, none⟩ = some v) (fun j => !([8].contains j)) (fun j => [3, 7].contains j) (fun j => [8].contains j)
              [0, 1, 2, 3, 4, 5, 6, 7, 8] (by kernel_rfl) (by kernel_rfl) rfl (by kernel_rfl) (by kernel_rfl) HCC.out ?_
            iterate 8 (apply wpPlan2_val; (case ho => rfl); (case hst => rfl); (case hw => rfl); (case hv => intro w' hS; first | (obtain ⟨ca, cb⟩ := hS rfl; go_simp; first | done | rfl) | (clear hS; go_simp; first | done | rfl)); intro K hK; go_simp; refine hK _ ?_; clear hK K)
            refine wpPlan2_list rfl rfl rfl (fun K hK => ?_)
            refine wpList_step (fun K2 hK2 => ?_)
            go_simp
            refine (one_any q sI u v w7.drew 4 HSU.out HSV.out HOU.out HOI.out (by omega)).mono ?_
            rintro e6 w8 ⟨rfl, hb6⟩
            have HBw8 := hid (HBw7.out.drew.trans (hb6.mono (by have := HBw7.out.size; simpa using this)))
            clear hb6 HCC HSU HSV HOU
            go_simp
            refine hK2 _ _ ?_
            clear hK2 K2
            simp only [wpList]
            refine hK _ _ (fun h => by cases h) ?_
            clear hK K
            refine wpPlan2_nil ?_
            simp only [Qn]
            by_cases hqq : q = sI
            · have hdq : decide (q = sI) = true := decide_eq_true hqq
              rw [hdq] at HCq ⊢
              clear hqq hdq
              go_wp2_with fail
              case roundEnd => exact ⟨⟨a, b + 1, k + 1, rfl, by go_num, by go_num, by omega, by omega, by omega, hid (by rw [HCp.out, ← HA.out]; rfl), hid (by rw [HCq.out, ← HBB.out]; rfl), HBw8⟩, by simp [intOf]; omega⟩
            · have hdq : decide (q = sI) = false := decide_eq_false hqq
              rw [hdq] at HCq ⊢
              clear hqq hdq
              go_wp2_with fail
              case roundEnd => exact ⟨⟨a, b, k + 1, rfl, rfl, by go_num, by omega, by omega, by omega, hid (by rw [HCp.out, ← HA.out]; rfl), hid (by rw [HCq.out, ← HBB.out]; rfl), HBw8⟩, by simp [intOf]; omega⟩
        · have hkl2 : ¬ (k : Int) < (n : Int) := by omega
          have hab : a = b := by
            have h1 := HA.out
            have h2 := HBB.out
            rw [List.take_of_length_le (by rw [HLN.out]; omega)] at h1
            rw [List.take_of_length_le (by rw [HXL.out]; omega)] at h2
            rw [h1, h2]
            exact (HPE.out.countP_eq _).symm
          subst hab
          go_wp2_with fail
          case roundEnd => exact ⟨⟨i + 1, by go_num, by omega, HB⟩, by simp [intOf]; omega⟩
    · have hlt2 : ¬ (i : Int) < (n : Int) := by omega
      go_wp2_with fail
      go_ret
      exact ⟨rfl, HB3.out.trans (HB.out.mono HB3.out.size)⟩
end Go.Proofs.Ytkhdadbbgfjcgaa
