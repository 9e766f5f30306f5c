/- two rows compared; a few rows sorted (printed by gen_solins.py, but for the head). -/
import Derived.Test.YtkhdadbbgfjcgaaSolZ
namespace Go.Proofs.Ytkhdadbbgfjcgaa
open Go.RowKit
set_option linter.unusedVariables false

abbrev KR (x : Rw) : List UInt8 := textP x.2
abbrev rv (x : Rw) : Value := .agg (rc x).toArray
abbrev fv : Value := .func (.func 31) #[] #[]

set_option maxRecDepth 100000 in
theorem cmp_any (x y : Rw) (w : World) : Calls Try.prog 31 #[rv x, rv y] w fun e w' => e = .returned (.int .i64 (Lib.compareBytes (KR x) (KR y))) ∧ Below w.heap.size w w' := by
  go_enter Try.func31, Try.ntmps31
  have hb1 := (Below.refl w.heap.size w).alloc (Nat.le_refl _) (Obj.cells (rc x).toArray TR)
  have hx1 : Blk (w.alloc (Obj.cells (rc x).toArray TR)) w.heap.size (rc x) TR := heap_alloc_new w _
  have hs1 : (w.alloc (Obj.cells (rc x).toArray TR)).heap.size = w.heap.size + 1 := by simp
  have hb2 := hb1.trans ((Below.refl (w.alloc (Obj.cells (rc x).toArray TR)).heap.size _).alloc (Nat.le_refl _) (Obj.cells (rc y).toArray TR) |>.mono (by omega))
  have hx2 : Blk ((w.alloc (Obj.cells (rc x).toArray TR)).alloc (Obj.cells (rc y).toArray TR)) w.heap.size (rc x) TR := (Below.heap_alloc _ _ _ (by omega)).trans hx1
  have hy2 : Blk ((w.alloc (Obj.cells (rc x).toArray TR)).alloc (Obj.cells (rc y).toArray TR)) (w.heap.size + 1) (rc y) TR := by rw [← hs1]; exact heap_alloc_new _ _
  have HB := hid hb2
  have c0 : ((w.alloc (Obj.cells (rc x).toArray TR)).alloc (Obj.cells (rc y).toArray TR)).cell? ⟨w.heap.size, 0, none⟩ = some (.string (B (KR x))) := hx2.cell 0
  have c1 : ((w.alloc (Obj.cells (rc x).toArray TR)).alloc (Obj.cells (rc y).toArray TR)).cell? ⟨w.heap.size + 1, 0, none⟩ = some (.string (B (KR y))) := hy2.cell 0
  clear hb1 hx1 hb2 hx2 hy2
  go_wp2_with fail
  refine (compare_any (KR x) (KR y) _).mono ?_; rintro e1 w1 ⟨rfl, hw⟩; subst hw
  go_wp2_with fail
  go_ret
  exact ⟨rfl, HB.out⟩

theorem Chg.drew {fp : Nat → Prop} {w w' : World} (h : Chg fp w w') : Chg fp w w'.drew := ⟨h.os, h.tape, h.output, h.size, h.block⟩
theorem set2r {U V : List Rw} {p x : Rw} {i j : Nat} (hi : i = U.length + 1) (hj : j = U.length) : ((U ++ p :: x :: V).set i p).set j x = U ++ x :: p :: V := by
  subst hi; subst hj
  rw [List.set_append_right _ _ (by omega), show U.length + 1 - U.length = 1 by omega, List.set_append_right _ _ (Nat.le_refl _), Nat.sub_self]
  rfl
theorem Ro.of {w : World} {g : Nat} {l : List Rw} {r : List Value} (h : Ro w g l r) {i : Nat} {x : Rw} (hx : l[i]? = some x) : RwAt w g i x := by
  obtain ⟨hi, rfl⟩ := List.getElem?_eq_some_iff.1 hx
  exact h.at hi
theorem RwAt.new {w w' : World} {g i : Nat} {x : Rw} (h : RwAt w g i x) (hb : Below w.heap.size w w') (hg : g < w.heap.size) : RwAt w' g i x :=
  ⟨(hb.cell (p := ⟨g, i * 2, none⟩) hg).trans h.1, (hb.cell (p := ⟨g, i * 2 + 1, none⟩) hg).trans h.2⟩
theorem get3 {U V : List Rw} {p x : Rw} {i : Nat} (hi : i = U.length + 1) : (U ++ p :: x :: V)[i]? = some x := by
  subst hi
  rw [List.getElem?_append_right (by omega), show U.length + 1 - U.length = 1 by omega]
  rfl

set_option maxRecDepth 100000 in
set_option maxHeartbeats 8000000 in
theorem insSort_any (X A Y : List Rw) (r : List Value) (g a b N c : Nat) (w : World) (h : Ro w g (X ++ (A ++ Y)) r) (h1 : One1 (X ++ (A ++ Y)))
    (hN : N = (X ++ (A ++ Y)).length) (ha : a = X.length) (hb : b = a + A.length) (hlim : N ≤ 1000000) :
    Calls Try.prog 67 #[.slice (some ⟨g, 0, none⟩) N c, .int .i64 a, .int .i64 b, fv] w fun e w' => e = .returned (.tuple #[]) ∧ Ro w' g (X ++ (srt KR A ++ Y)) r ∧ Chg (fun k => k = g) w w' := by
  have H := hid h
  have H1 := hid h1
  have hN2 : N = X.length + (A.length + Y.length) := by rw [hN]; simp
  have hbN : b ≤ N := by omega
  have hab : a ≤ b := by omega
  have HA := hid (And.intro ha (And.intro hb hN2))
  clear h h1 hN ha hb hN2
  go_enter Try.func67, Try.ntmps67
  go_wp2_with fail
  go_loopw [8] (fun vi wr => ∃ (k i : Nat), vi = .int .i64 i ∧ i = a + k ∧ 1 ≤ k ∧ i ≤ b + 1 ∧ Hid (Ro wr g (X ++ (srt KR (A.take k) ++ (A.drop k ++ Y))) r) ∧ Hid (Chg (fun k => k = g) w wr)) (fun vi _ => b + 1 - (intOf vi).toNat)
  case atStart =>
    refine ⟨1, a + 1, by go_num, rfl, Nat.le_refl _, by omega, ?_, Chg.refl _ _⟩
    cases A with
    | nil => exact H
    | cons x A => exact H
  case round =>
    obtain ⟨k, i, rfl, hik, hk1, hib, HO, HC⟩ := hrel
    by_cases hlt : i < b
    · have hlt2 : (i : Int) < (b : Int) := by omega
      have hkA : k < A.length := by have := HA.out; omega
      obtain ⟨x, hx⟩ : ∃ x, A[k] = x := ⟨_, rfl⟩
      have hdrop : A.drop k = x :: A.drop (k + 1) := by rw [List.drop_eq_getElem_cons hkA, hx]
      have htake : A.take (k + 1) = A.take k ++ [x] := by rw [List.take_add_one, List.getElem?_eq_getElem hkA, hx]; rfl
      rw [hdrop] at HO
      have HT := hid htake
      have hsl : (srt KR (A.take k)).length = k := by rw [srt_len, List.length_take]; omega
      have HSL := hid hsl
      have hx1 : x.1.oneCell' = true := H1.out x (List.mem_append.2 (.inr (List.mem_append.2 (.inl (by rw [← hx]; exact List.getElem_mem hkA)))))
      have hiN : i < N := by omega
      have HKA := hid (And.intro hkA hik)
      clear hdrop htake hsl hx hkA hik hk1
      go_wp2_with fail
      go_loopw [9] (fun vj wr2 => ∃ (j : Nat) (P Q : List Rw), vj = .int .i64 j ∧ a ≤ j ∧ j ≤ i ∧ Hid (j = a + P.length) ∧ Hid (srt KR (A.take k) = P ++ Q) ∧ Hid (∀ y ∈ Q, ltB (KR x) (KR y) = true) ∧ Hid (Ro wr2 g (X ++ (P ++ x :: (Q ++ (A.drop (k + 1) ++ Y)))) r) ∧ Hid (Chg (fun k => k = g) w wr2)) (fun vj _ => (intOf vj).toNat)
      case atStart => exact ⟨i, srt KR (A.take k), [], rfl, by have := HKA.out; omega, Nat.le_refl _, by rw [HSL.out]; exact HKA.out.2, by rw [List.append_nil]; exact rfl, hid (fun y hy => by cases hy), by simpa using HO, HC⟩
      case round =>
        obtain ⟨j, P, Q, rfl, haj, hji, HJ, HPQ, HQ, HO, HC⟩ := hrel
        by_cases hja : a < j
        · have hja2 : (a : Int) < (j : Int) := by omega
          obtain ⟨P', p, rfl⟩ : ∃ P' p, P = P' ++ [p] := by
            cases hP : P.reverse with
            | nil => have : P = [] := by simpa using hP
                     subst this; have := HJ.out; simp at this; omega
            | cons p P' => exact ⟨P'.reverse, p, by have := congrArg List.reverse hP; simpa using this⟩
          obtain ⟨m, hm⟩ : ∃ m : Nat, m + 1 = j := ⟨j - 1, by omega⟩
          have hm2 : (j : Int) - 1 = (m : Int) := by omega
          have hL : X ++ ((P' ++ [p]) ++ x :: (Q ++ (A.drop (k + 1) ++ Y))) = (X ++ P') ++ p :: x :: (Q ++ (A.drop (k + 1) ++ Y)) := by simp
          rw [hL] at HO
          have hjl : j = (X ++ P').length + 1 := by have h1 := HJ.out; have h2 := HA.out.1; simp at h1 ⊢; omega
          have hat2 : ((X ++ P') ++ p :: x :: (Q ++ (A.drop (k + 1) ++ Y)))[m]? = some p := get2 (by omega)
          have hat1 : ((X ++ P') ++ p :: x :: (Q ++ (A.drop (k + 1) ++ Y)))[j]? = some x := get3 hjl
          have hset : (((X ++ P') ++ p :: x :: (Q ++ (A.drop (k + 1) ++ Y))).set j p).set m x = (X ++ P') ++ x :: p :: (Q ++ (A.drop (k + 1) ++ Y)) := set2r hjl (by omega)
          have hLL : ((X ++ P') ++ p :: x :: (Q ++ (A.drop (k + 1) ++ Y))) = ((X ++ P') ++ p :: x :: (Q ++ (A.drop (k + 1) ++ Y))) := rfl
          generalize hLLL : ((X ++ P') ++ p :: x :: (Q ++ (A.drop (k + 1) ++ Y))) = L at HO hat1 hat2 hset
          clear hLL
          have hkl1 : j < L.length := (List.getElem?_eq_some_iff.1 hat1).1
          have hkl2 : m < L.length := (List.getElem?_eq_some_iff.1 hat2).1
          have HR := hid (And.intro (HO.out.of hat1) (HO.out.of hat2))
          have HS := hid hset
          have HLE := hid hLLL
          have HM := hid hm
          have hgl := HO.out.lt
          have hy1 : p.1.oneCell' = true := H1.out p (List.mem_append.2 (.inr (List.mem_append.2 (.inl (List.mem_of_mem_take (i := k) (mem_srt.1 (by rw [HPQ.out]; simp)))))))
          have hjN : (j : Int) < (N : Int) := by omega
          have hmN : (m : Int) < (N : Int) := by omega
          have hcl := cmp_lt (KR x) (KR p)
          clear hL hjl hat2 hat1 hset hLLL hm
          by_cases hc : ltB (KR x) (KR p) = true
          · have hneg : Lib.compareBytes (KR x) (KR p) < 0 := hcl.2 hc
            have HCC := hid hc
            clear hcl hc
            go_wp2_with fail
            have hw1 : IntKind.i64.wrap (j : Int) = (j : Int) := IntWalk.i64_in _ (by omega)
            have hw2 : IntKind.i64.wrap (m : Int) = (m : Int) := IntWalk.i64_in _ (by omega)
            refine wp_region_plan2 (fun w' => RwAt w' g j x ∧ RwAt w' g m p) (fun j => !([14].contains j)) (fun j => [8, 13].contains j) (fun j => [14].contains j)
              [0, 1, 2, 3, 4, 5, 6, 7, 8, 9, 10, 11, 12, 13, 14, 15, 16] (by kernel_rfl) (by kernel_rfl) rfl (by kernel_rfl) (by kernel_rfl) HR.out ?_
            iterate 14 (apply wpPlan2_val; (case ho => rfl); (case hst => rfl); (case hw => rfl); (case hv => intro w' hS; first | (obtain ⟨⟨c0, c1⟩, c2, c3⟩ := hS rfl; go_simp; first | done | rfl) | (clear hS; go_simp; first | done | rfl)); intro K hK; go_simp; refine hK _ ?_; clear hK K)
            refine wpPlan2_list rfl rfl rfl (fun K hK => ?_)
            refine wpList_step (fun K2 hK2 => ?_)
            go_simp
            refine (cmp_any x p wr.drew).mono ?_
            rintro e2 w2 ⟨rfl, hb2⟩
            have HO1 := hid ((HO.out.drew).new hb2)
            have HC1 := hid (HC.out.trans (Chg.drewN' (n := 1) (Chg.new hb2 _)) (fun _ _ h => h))
            have HR := hid (And.intro (RwAt.new (w := wr.drew) HR.out.1 hb2 (by simpa using hgl)) (RwAt.new (w := wr.drew) HR.out.2 hb2 (by simpa using hgl)))
            clear hb2
            go_simp
            refine hK2 _ _ ?_
            clear hK2 K2
            simp only [wpList]
            refine hK _ _ (fun h => by cases h) ?_
            clear hK K
            iterate 2 (apply wpPlan2_val; (case ho => rfl); (case hst => rfl); (case hw => rfl); (case hv => intro w' hS; first | (obtain ⟨⟨c0, c1⟩, c2, c3⟩ := hS rfl; go_simp; first | done | rfl) | (clear hS; go_simp; first | done | rfl)); intro K hK; go_simp; refine hK _ ?_; clear hK K)
            refine wpPlan2_nil ?_
            simp only [Qn]
            go_wp2_with fail
            have hw1 : IntKind.i64.wrap (j : Int) = (j : Int) := IntWalk.i64_in _ (by omega)
            have hw2 : IntKind.i64.wrap (m : Int) = (m : Int) := IntWalk.i64_in _ (by omega)
            refine wp_region_plan2 (fun w' => RwAt w' g j x ∧ RwAt w' g m p) (fun j => !([15, 16, 17].contains j)) (fun j => [9, 13].contains j) (fun j => [15, 16, 17].contains j)
              [0, 1, 2, 3, 4, 5, 6, 7, 8, 9, 10, 11, 12, 13, 14, 15, 16, 17] (by kernel_rfl) (by kernel_rfl) rfl (by kernel_rfl) (by kernel_rfl) HR.out ?_
            iterate 15 (apply wpPlan2_val; (case ho => rfl); (case hst => rfl); (case hw => rfl); (case hv => intro w' hS; first | (obtain ⟨⟨c0, c1⟩, c2, c3⟩ := hS rfl; go_simp; first | done | rfl) | (clear hS; go_simp; first | done | rfl)); intro K hK; go_simp; refine hK _ ?_; clear hK K)
            refine wpPlan2_list rfl rfl rfl (fun K hK => ?_)
            refine wpList_store_row rfl _ _ rfl g j L r p rfl rfl HO1.out hkl1 hy1 (fun w1 ho1 hc1 hs1 => ?_)
            have HO1 := hid ho1
            have HC1 := hid (HC1.out.trans (Chg.drewN' (n := 1) hc1) (fun _ _ h => h))
            clear ho1 hc1
            go_simp
            simp only [wpList]
            refine hK _ _ (fun h => by cases h) ?_
            clear hK K
            refine wpPlan2_list rfl rfl rfl (fun K hK => ?_)
            refine wpList_step (fun K2 hK2 => ?_)
            go_simp
            refine hK2 _ _ ?_
            clear hK2 K2
            simp only [wpList]
            refine hK _ _ (fun h => by cases h) ?_
            clear hK K
            refine wpPlan2_list rfl rfl rfl (fun K hK => ?_)
            refine wpList_store_row rfl _ _ rfl g m (L.set j p) r x rfl rfl HO1.out (by rw [List.length_set]; exact hkl2) hx1 (fun w2 ho2 hc2 hs2 => ?_)
            rw [HS.out] at ho2
            have HO2 := hid ho2
            have HC2 := hid (HC1.out.trans hc2 (fun _ _ h => h))
            clear ho2 hc2
            go_simp
            simp only [wpList]
            refine hK _ _ (fun h => by cases h) ?_
            clear hK K
            refine wpPlan2_nil ?_
            simp only [Qn]
            go_wp2_with fail
            go_roundw
            case rel => exact ⟨m, P', p :: Q, by go_num, by omega, by omega, by have h1 := HJ.out; have h2 := HM.out; simp at h1; exact hid (by omega), by rw [HPQ.out]; exact hid (by simp), hid (fun y hy => by
              rcases List.mem_cons.1 hy with rfl | hy
              · exact HCC.out
              · exact HQ.out y hy), by have := HO2.out; exact hid (by simpa using this), HC2⟩
            case measure => simp [intOf]; omega
          · have hneg : ¬ Lib.compareBytes (KR x) (KR p) < 0 := fun h => hc (hcl.1 h)
            have HCC := hid hc
            clear hcl hc
            go_wp2_with fail
            have hw1 : IntKind.i64.wrap (j : Int) = (j : Int) := IntWalk.i64_in _ (by omega)
            have hw2 : IntKind.i64.wrap (m : Int) = (m : Int) := IntWalk.i64_in _ (by omega)
            refine wp_region_plan2 (fun w' => RwAt w' g j x ∧ RwAt w' g m p) (fun j => !([14].contains j)) (fun j => [8, 13].contains j) (fun j => [14].contains j)
              [0, 1, 2, 3, 4, 5, 6, 7, 8, 9, 10, 11, 12, 13, 14, 15, 16] (by kernel_rfl) (by kernel_rfl) rfl (by kernel_rfl) (by kernel_rfl) HR.out ?_
            iterate 14 (apply wpPlan2_val; (case ho => rfl); (case hst => rfl); (case hw => rfl); (case hv => intro w' hS; first | (obtain ⟨⟨c0, c1⟩, c2, c3⟩ := hS rfl; go_simp; first | done | rfl) | (clear hS; go_simp; first | done | rfl)); intro K hK; go_simp; refine hK _ ?_; clear hK K)
            refine wpPlan2_list rfl rfl rfl (fun K hK => ?_)
            refine wpList_step (fun K2 hK2 => ?_)
            go_simp
            refine (cmp_any x p wr.drew).mono ?_
            rintro e2 w2 ⟨rfl, hb2⟩
            have HO1 := hid ((HO.out.drew).new hb2)
            have HC1 := hid (HC.out.trans (Chg.drewN' (n := 1) (Chg.new hb2 _)) (fun _ _ h => h))
            have HR := hid (And.intro (RwAt.new (w := wr.drew) HR.out.1 hb2 (by simpa using hgl)) (RwAt.new (w := wr.drew) HR.out.2 hb2 (by simpa using hgl)))
            clear hb2
            go_simp
            refine hK2 _ _ ?_
            clear hK2 K2
            simp only [wpList]
            refine hK _ _ (fun h => by cases h) ?_
            clear hK K
            iterate 2 (apply wpPlan2_val; (case ho => rfl); (case hst => rfl); (case hw => rfl); (case hv => intro w' hS; first | (obtain ⟨⟨c0, c1⟩, c2, c3⟩ := hS rfl; go_simp; first | done | rfl) | (clear hS; go_simp; first | done | rfl)); intro K hK; go_simp; refine hK _ ?_; clear hK K)
            refine wpPlan2_nil ?_
            simp only [Qn]
            go_wp2_with fail
            go_roundw
            case rel =>
              have hfin : (P' ++ [p]) ++ x :: Q = srt KR (A.take (k + 1)) := by
                rw [HT.out, srt_snoc (sd_srt _) HPQ.out (Sd.last (Sd.app.1 (by rw [← HPQ.out]; exact sd_srt _)).1 (fun _ => by simpa using HCC.out)) HQ.out]
                exact srt_ev ((ev_srt _).app (Ev.rfl' _))
              exact ⟨k + 1, i + 1, by go_num, by have := HKA.out; omega, by omega, by omega, by rw [← hfin]; have := HO1.out; rw [← HLE.out] at this; exact hid (by simpa using this), HC1⟩
            case measure => simp [intOf]; omega
        · have hja2 : ¬ (a : Int) < (j : Int) := by omega
          have hPe : P = [] := List.eq_nil_of_length_eq_zero (by have := HJ.out; omega)
          subst hPe
          go_wp2_with fail
          refine wp_region_plan2 (fun w' => True) (fun j => true) (fun j => false) (fun j => false)
            [0, 1, 2, 3, 4, 5, 6, 7, 8, 9, 10, 11, 12, 13, 14, 15, 16] (by kernel_rfl) (by kernel_rfl) rfl (by kernel_rfl) (by kernel_rfl) trivial ?_
          iterate 4 (apply wpPlan2_val; (case ho => rfl); (case hst => rfl); (case hw => rfl); (case hv => intro w' hS; first | (obtain ⟨⟨c0, c1⟩, c2, c3⟩ := hS rfl; go_simp; first | done | rfl) | (clear hS; go_simp; first | done | rfl)); intro K hK; go_simp; refine hK _ ?_; clear hK K)
          iterate 12 (apply wpPlan2_off; (case ho => rfl); (case hst => rfl); (case hw => rfl); intro K hK; go_simp; refine hK _ ?_; clear hK K)
          iterate 1 (apply wpPlan2_val; (case ho => rfl); (case hst => rfl); (case hw => rfl); (case hv => intro w' hS; first | (obtain ⟨⟨c0, c1⟩, c2, c3⟩ := hS rfl; go_simp; first | done | rfl) | (clear hS; go_simp; first | done | rfl)); intro K hK; go_simp; refine hK _ ?_; clear hK K)
          refine wpPlan2_nil ?_
          simp only [Qn]
          go_wp2_with fail
          go_roundw
          case rel =>
            have hfin : x :: Q = srt KR (A.take (k + 1)) := by
              have h9 := srt_snoc (P := []) (x := x) (sd_srt (key := KR) (A.take k)) HPQ.out (fun y hy => by cases hy) HQ.out
              rw [HT.out]
              exact h9.trans (srt_ev ((ev_srt _).app (Ev.rfl' _)))
            exact ⟨k + 1, i + 1, by go_num, by have := HKA.out; omega, by omega, by omega, by rw [← hfin]; have := HO.out; exact hid (show Ro wr g _ r by simpa using this), hid HC.out.drew⟩
          case measure => simp [intOf]; omega
    · have hlt2 : ¬ (i : Int) < (b : Int) := by omega
      have hkA : A.length ≤ k := by have := HA.out; omega
      rw [List.take_of_length_le hkA, List.drop_of_length_le hkA, List.nil_append] at HO
      clear hkA hik hk1
      go_wp2_with fail
      go_end0
      exact ⟨rfl, HO.out, HC.out⟩
end Go.Proofs.Ytkhdadbbgfjcgaa
