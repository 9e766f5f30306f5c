/- symMerge (printed by gen_solsymg.py). -/
import Derived.Test.YtkhdadbbgfjcgaaSolN
namespace Go.Proofs.Ytkhdadbbgfjcgaa
open Go.RowKit
set_option linter.unusedVariables false

theorem one1_srt {X A1 B1 A2 B2 Y : List Rw} (h : One1 (X ++ ((A1 ++ A2) ++ ((B1 ++ B2) ++ Y)))) : One1 ((X ++ srt KR (A1 ++ B1)) ++ (A2 ++ (B2 ++ Y))) := by
  simp only [one1_app] at h ⊢
  obtain ⟨hx, ⟨h1, h2⟩, ⟨h3, h4⟩, h5⟩ := h
  refine ⟨⟨hx, fun x hm => ?_⟩, h2, h4, h5⟩
  rcases List.mem_append.1 (mem_srt.1 hm) with hm | hm
  · exact h1 x hm
  · exact h3 x hm

/-- what is known of the two cuts gives that they part the rows -/
theorem cut_ok {A1 A2 B1 B2 : List Rw} (sA : Sd KR (A1 ++ A2)) (sB : Sd KR (B1 ++ B2))
    (h1 : ∀ (hx : A1 ≠ []) (hy : B2 ≠ []), ltB (KR (B2.head hy)) (KR (A1.getLast hx)) = false)
    (h2 : ∀ (hx : B1 ≠ []) (hy : A2 ≠ []), ltB (KR (B1.getLast hx)) (KR (A2.head hy)) = true) :
    srt KR (A1 ++ B1) ++ srt KR (A2 ++ B2) = srt KR ((A1 ++ A2) ++ (B1 ++ B2)) := by
  have a := Sd.app.1 sA
  have b := Sd.app.1 sB
  refine srt_cut sA sB (fun x hx y hy => ?_) (fun x hx y hy => ?_)
  · have nx := List.ne_nil_of_mem hx
    have ny := List.ne_nil_of_mem hy
    have e1 : ltB (KR (A1.getLast nx)) (KR x) = false := by
      by_cases he : x = A1.getLast nx
      · rw [he, ltB_irr]
      · exact a.1.last (x := A1.getLast nx) (fun _ => ltB_irr _) x hx
    have e2 : ltB (KR y) (KR (B2.head ny)) = false := b.2.1.first (x := B2.head ny) (fun _ => ltB_irr _) y hy |> fun _ => by
      obtain ⟨i, hi, rfl⟩ := List.mem_iff_getElem.1 hy
      rw [List.head_eq_getElem]
      rcases Nat.eq_zero_or_pos i with rfl | hi0
      · exact ltB_irr _
      · exact b.2.1.le hi hi0
    exact ltB_le_trans (ltB_le_trans e1 (h1 nx ny)) e2
  · have nx := List.ne_nil_of_mem hx
    have ny := List.ne_nil_of_mem hy
    have e1 : ltB (KR (B1.getLast ny)) (KR y) = false := b.1.last (x := B1.getLast ny) (fun _ => ltB_irr _) y hy
    have e2 : ltB (KR x) (KR (A2.head nx)) = false := by
      obtain ⟨i, hi, rfl⟩ := List.mem_iff_getElem.1 hx
      rw [List.head_eq_getElem]
      rcases Nat.eq_zero_or_pos i with rfl | hi0
      · exact ltB_irr _
      · exact a.2.1.le hi hi0
    cases hc : ltB (KR y) (KR x) with
    | true => rfl
    | false =>
      have e3 := ltB_le_trans (ltB_le_trans e2 hc) e1
      rw [h2 ny nx] at e3
      cases e3


set_option maxRecDepth 100000 in
set_option maxHeartbeats 20000000 in
theorem symMerge_any : ∀ (d : Nat) (X A B Y : List Rw) (r : List Value) (g a m b N c : Nat) (w : World) (hd : A.length + B.length ≤ d) (hh : Ro w g (X ++ (A ++ (B ++ Y))) r) (h1 : One1 (X ++ (A ++ (B ++ Y))))
    (hN : N = (X ++ (A ++ (B ++ Y))).length) (ha : a = X.length) (hm : m = a + A.length) (hb : b = m + B.length) (hA : 0 < A.length) (hB : 0 < B.length) (hlim : N ≤ 1000000) (sA : Sd KR A) (sB : Sd KR B),
    Calls Try.prog 68 #[.slice (some ⟨g, 0, none⟩) N c, .int .i64 a, .int .i64 m, .int .i64 b, fv] w fun e w' => e = .returned (.tuple #[]) ∧ Ro w' g (X ++ (srt KR (A ++ B) ++ Y)) r ∧ Chg (fun k => k = g) w w' := by
  intro d
  induction d with
  | zero => intro X A B Y r g a m b N c w hd hh h1 hN ha hm hb hA hB; omega
  | succ d ih0 =>
  intro X A B Y r g a m b N c w hd hh h1 hN ha hm hb hA hB hlim sA sB
  by_cases hA1 : A.length = 1
  · obtain ⟨x, rfl⟩ := List.length_eq_one_iff.1 hA1
    exact symMerge1_any X B Y x r g a m b N c w (by simpa using hh) (by simpa using h1) (by simpa using hN) ha (by simpa using hm) hb hlim sB
  by_cases hB1 : B.length = 1
  · obtain ⟨x, rfl⟩ := List.length_eq_one_iff.1 hB1
    exact symMerge2_any X A Y x r g a m b N c w (by simpa using hh) (by simpa using h1) (by simpa using hN) ha hm (by simpa using hb) (by omega) hlim sA
  have H := hid hh
  have hN2 : N = X.length + (A.length + (B.length + Y.length)) := by rw [hN]; simp
  have hbN : b ≤ N := by omega
  have ham : ¬ (m : Int) - (a : Int) = 1 := by omega
  have hamb : ((m : Int) - (a : Int) == 1) = false := by rw [beq_eq_false_iff_ne]; exact ham
  have hmb : ¬ (b : Int) - (m : Int) = 1 := by omega
  have hmbb : ((b : Int) - (m : Int) == 1) = false := by rw [beq_eq_false_iff_ne]; exact hmb
  have ham1 : a < m := by omega
  have hmb1 : m < b := by omega
  have hab2 : a + 4 ≤ b := by omega
  have HA := hid (And.intro ha (And.intro hm (And.intro hb hN2)))
  have HSA := hid sA
  have HSB := hid sB
  have HD := hid hd
  have HU := hid h1
  have HM := hid hN
  have ih := hid ih0
  clear hh h1 hN ha hm hb hN2 sA sB hA hB hA1 hB1 hd ih0
  obtain ⟨md, hmd⟩ : ∃ md : Nat, ((a : Int) + (b : Int)) / 2 = (md : Int) := ⟨(a + b) / 2, by omega⟩
  obtain ⟨n, hn⟩ : ∃ n : Nat, (md : Int) + (m : Int) = (n : Int) := ⟨md + m, by omega⟩
  obtain ⟨p, hp⟩ : ∃ p : Nat, (n : Int) - 1 = (p : Int) := ⟨n - 1, by omega⟩
  have hmd1 : a < md := by omega
  have hmd2 : md < b := by omega
  have hmd3 : 2 * md ≤ a + b := by omega
  have hmd4 : a + b ≤ 2 * md + 1 := by omega
  have hnn : n = md + m := by omega
  have hpp : p + 1 = n := by omega
  have hnlim : n ≤ 2000000 := by omega
  have HNN := hid (And.intro hnn hpp)
  clear hnn hpp
  go_enter Try.func68, Try.ntmps68
  by_cases hgt : md < m
  case' pos =>
    have hgt2 : (md : Int) < (m : Int) := by omega
    obtain ⟨lo, hlo⟩ : ∃ lo : Nat, (n : Int) - (b : Int) = (lo : Int) := ⟨n - b, by have := HNN.out; omega⟩
    have HLO := hid (show lo + b = n ∧ md < m by omega)
  case' neg =>
    have hgt2 : ¬ (md : Int) < (m : Int) := by omega
    have HLO := hid (show m ≤ md by omega)
  all_goals
    go_wp2_with fail
    go_loopw [20, 21] (fun vi vj wr => ∃ (s q : Nat), vi = .int .i64 s ∧ vj = .int .i64 q ∧ a ≤ s ∧ s ≤ q ∧ q ≤ m ∧ q ≤ md ∧ n ≤ b + s ∧
        Hid (n = s + b ∨ s = a ∨ ∀ y z, (X ++ (A ++ (B ++ Y)))[n - s]? = some y → (X ++ (A ++ (B ++ Y)))[s - 1]? = some z → ltB (KR y) (KR z) = false) ∧
        Hid (q = md ∨ q = m ∨ ∀ y z, (X ++ (A ++ (B ++ Y)))[n - 1 - q]? = some y → (X ++ (A ++ (B ++ Y)))[q]? = some z → ltB (KR y) (KR z) = true) ∧
        Hid (Ro wr g (X ++ (A ++ (B ++ Y))) r) ∧ Hid (Chg (fun k => k = g) w wr)) (fun vi vj _ => (intOf vj - intOf vi).toNat)
    case atStart =>
      have h1 := HLO.out
      have h2 := HNN.out
      refine ⟨_, _, rfl, rfl, by omega, by omega, by omega, by omega, by omega, ?_, ?_, H, Chg.refl _ _⟩
      · first | exact hid (.inl (by omega)) | exact hid (.inr (.inl (by omega)))
      · first | exact hid (.inl (by omega)) | exact hid (.inr (.inl (by omega)))
  all_goals
    obtain ⟨s, q, rfl, rfl, has, hsq, hqm, hqmd, hns, HLE, HRI, HO, HC⟩ := hrel
    by_cases hlt : s < q
    · obtain ⟨h, hh, hih, hhj⟩ : ∃ h : Nat, ((s : Int) + (q : Int)) / 2 = (h : Int) ∧ s ≤ h ∧ h < q := ⟨(s + q) / 2, by omega, by omega, by omega⟩
      obtain ⟨pc, hpc⟩ : ∃ pc : Nat, (p : Int) - (h : Int) = (pc : Int) := ⟨p - h, by have := HNN.out; omega⟩
      have hhN : (h : Int) < (N : Int) := by omega
      have hpcN : (pc : Int) < (N : Int) := by have := HNN.out; omega
      obtain ⟨y, hy⟩ : ∃ y, (X ++ (A ++ (B ++ Y)))[pc]? = some y := ⟨_, List.getElem?_eq_getElem (by rw [← HM.out]; omega)⟩
      obtain ⟨z, hz⟩ : ∃ z, (X ++ (A ++ (B ++ Y)))[h]? = some z := ⟨_, List.getElem?_eq_getElem (by rw [← HM.out]; omega)⟩
      have HR := hid (And.intro (HO.out.of hy) (HO.out.of hz))
      have hcl := cmp_lt (KR y) (KR z)
      have HY := hid hy
      have HZ := hid hz
      have HPC := hid (show pc + h + 1 = n by have := HNN.out; omega)
      clear hy hz
      by_cases hc : ltB (KR y) (KR z) = true
      · have hneg : Lib.compareBytes (KR y) (KR z) < 0 := hcl.2 hc
        have HCC := hid hc
        clear hcl hc
        go_wp2_with fail
        have hw1 : IntKind.i64.wrap (pc : Int) = (pc : Int) := IntWalk.i64_in _ (by omega)
        have hw2 : IntKind.i64.wrap (h : Int) = (h : Int) := IntWalk.i64_in _ (by omega)
        refine wp_region_plan2 (fun w' => RwAt w' g pc y ∧ RwAt w' g h z) (fun j => !([11].contains j)) (fun j => [6, 10].contains j) (fun j => [11].contains j)
          [0, 1, 2, 3, 4, 5, 6, 7, 8, 9, 10, 11, 12, 13] (by kernel_rfl) (by kernel_rfl) rfl (by kernel_rfl) (by kernel_rfl) HR.out ?_
        iterate 11 (apply wpPlan2_val; (case ho => rfl); (case hst => rfl); (case hw => rfl); (case hv => intro w' hS; first | (obtain ⟨⟨c0, c1⟩, c2, c3⟩ := hS rfl; go_simp; first | done | rfl) | (clear hS; go_simp; first | done | rfl)); intro K hK; go_simp; refine hK _ ?_; clear hK K)
        refine wpPlan2_list rfl rfl rfl (fun K hK => ?_)
        refine wpList_step (fun K2 hK2 => ?_)
        go_simp
        refine (cmp_any y z wr.drew).mono ?_
        rintro e2 w2 ⟨rfl, hb2⟩
        have HO1 := hid ((HO.out.drew).new hb2)
        have HC1 := hid (HC.out.trans (Chg.drewN' (n := 1) (Chg.new hb2 _)) (fun _ _ h => h))
        clear hb2
        go_simp
        refine hK2 _ _ ?_
        clear hK2 K2
        simp only [wpList]
        refine hK _ _ (fun h => by cases h) ?_
        clear hK K
        iterate 2 (apply wpPlan2_val; (case ho => rfl); (case hst => rfl); (case hw => rfl); (case hv => intro w' hS; first | (obtain ⟨⟨c0, c1⟩, c2, c3⟩ := hS rfl; go_simp; first | done | rfl) | (clear hS; go_simp; first | done | rfl)); intro K hK; go_simp; refine hK _ ?_; clear hK K)
        refine wpPlan2_nil ?_
        simp only [Qn]
        go_wp2_with fail
        all_goals exact ⟨⟨s, h, rfl, by go_num, has, by omega, by omega, by omega, hns, HLE, hid (.inr (.inr (fun y' z' h1 h2 => by
          have hpe : n - 1 - h = pc := by have := HPC.out; omega
          rw [hpe, HY.out] at h1
          rw [HZ.out] at h2
          injection h1 with h1
          injection h2 with h2
          rw [← h1, ← h2]
          exact HCC.out))), HO1, HC1⟩, by simp [intOf]; omega⟩
      · have hneg : ¬ Lib.compareBytes (KR y) (KR z) < 0 := fun h => hc (hcl.1 h)
        have HCC := hid hc
        clear hcl hc
        go_wp2_with fail
        have hw1 : IntKind.i64.wrap (pc : Int) = (pc : Int) := IntWalk.i64_in _ (by omega)
        have hw2 : IntKind.i64.wrap (h : Int) = (h : Int) := IntWalk.i64_in _ (by omega)
        refine wp_region_plan2 (fun w' => RwAt w' g pc y ∧ RwAt w' g h z) (fun j => !([11].contains j)) (fun j => [6, 10].contains j) (fun j => [11].contains j)
          [0, 1, 2, 3, 4, 5, 6, 7, 8, 9, 10, 11, 12, 13] (by kernel_rfl) (by kernel_rfl) rfl (by kernel_rfl) (by kernel_rfl) HR.out ?_
        iterate 11 (apply wpPlan2_val; (case ho => rfl); (case hst => rfl); (case hw => rfl); (case hv => intro w' hS; first | (obtain ⟨⟨c0, c1⟩, c2, c3⟩ := hS rfl; go_simp; first | done | rfl) | (clear hS; go_simp; first | done | rfl)); intro K hK; go_simp; refine hK _ ?_; clear hK K)
        refine wpPlan2_list rfl rfl rfl (fun K hK => ?_)
        refine wpList_step (fun K2 hK2 => ?_)
        go_simp
        refine (cmp_any y z wr.drew).mono ?_
        rintro e2 w2 ⟨rfl, hb2⟩
        have HO1 := hid ((HO.out.drew).new hb2)
        have HC1 := hid (HC.out.trans (Chg.drewN' (n := 1) (Chg.new hb2 _)) (fun _ _ h => h))
        clear hb2
        go_simp
        refine hK2 _ _ ?_
        clear hK2 K2
        simp only [wpList]
        refine hK _ _ (fun h => by cases h) ?_
        clear hK K
        iterate 2 (apply wpPlan2_val; (case ho => rfl); (case hst => rfl); (case hw => rfl); (case hv => intro w' hS; first | (obtain ⟨⟨c0, c1⟩, c2, c3⟩ := hS rfl; go_simp; first | done | rfl) | (clear hS; go_simp; first | done | rfl)); intro K hK; go_simp; refine hK _ ?_; clear hK K)
        refine wpPlan2_nil ?_
        simp only [Qn]
        go_wp2_with fail
        all_goals first
          | exact ⟨⟨h + 1, q, by go_num, rfl, by omega, by omega, hqm, hqmd, by omega, hid (.inr (.inr (fun y' z' h1 h2 => by
              have hpe : n - (h + 1) = pc := by have := HPC.out; omega
              rw [hpe, HY.out] at h1
              rw [Nat.add_sub_cancel, HZ.out] at h2
              injection h1 with h1
              injection h2 with h2
              rw [← h1, ← h2]
              simpa using HCC.out))), HRI, HO1, HC1⟩, by simp [intOf]; omega⟩
          | (exfalso; rename_i hx; revert hx; simpa using hneg)
          | (exfalso; omega)
    · obtain rfl : s = q := by omega
      obtain ⟨e, he⟩ : ∃ e : Nat, (n : Int) - (s : Int) = (e : Int) := ⟨n - s, by have := HNN.out; omega⟩
      have he1 : m ≤ e := by have := HNN.out; omega
      have he2 : e ≤ b := by have := HNN.out; omega
      obtain ⟨A1, A2, rfl, hA1⟩ : ∃ A1 A2, A = A1 ++ A2 ∧ A1.length + a = s := ⟨A.take (s - a), A.drop (s - a), (List.take_append_drop _ _).symm, by rw [List.length_take]; have := HA.out; omega⟩
      obtain ⟨B1, B2, rfl, hB1⟩ : ∃ B1 B2, B = B1 ++ B2 ∧ B1.length + m = e := ⟨B.take (e - m), B.drop (e - m), (List.take_append_drop _ _).symm, by rw [List.length_take]; have := HA.out; omega⟩
      have HL := hid (show A1.length + a = s ∧ A2.length + s = m ∧ B1.length + m = e ∧ B2.length + e = b ∧ md = s + B1.length ∧ N = X.length + (A1.length + (A2.length + (B1.length + (B2.length + Y.length)))) ∧ a = X.length ∧ e = md + A2.length by
        have h1 := HA.out
        have h2 := HNN.out
        simp only [List.length_append] at h1
        omega)
      have HSS := hid (show Sd KR A1 ∧ Sd KR B1 ∧ Sd KR A2 ∧ Sd KR B2 from ⟨(Sd.app.1 HSA.out).1, (Sd.app.1 HSB.out).1, (Sd.app.1 HSA.out).2.1, (Sd.app.1 HSB.out).2.1⟩)
      have HN1 : Hid (A1.length = 0 ∨ B1.length = 0 → srt KR (A1 ++ B1) = A1 ++ B1) := hid (fun h => by
        rcases h with h | h
        · have hz : A1 = [] := List.eq_nil_of_length_eq_zero h
          rw [hz, List.nil_append]; exact srt_self HSS.out.2.1
        · have hz : B1 = [] := List.eq_nil_of_length_eq_zero h
          rw [hz, List.append_nil]; exact srt_self HSS.out.1)
      have HN2 : Hid (A2.length = 0 ∨ B2.length = 0 → srt KR (A2 ++ B2) = A2 ++ B2) := hid (fun h => by
        rcases h with h | h
        · have hz : A2 = [] := List.eq_nil_of_length_eq_zero h
          rw [hz, List.nil_append]; exact srt_self HSS.out.2.2.2
        · have hz : B2 = [] := List.eq_nil_of_length_eq_zero h
          rw [hz, List.append_nil]; exact srt_self HSS.out.2.2.1)
      have HF := hid (show srt KR (A1 ++ B1) ++ srt KR (A2 ++ B2) = srt KR ((A1 ++ A2) ++ (B1 ++ B2)) from cut_ok HSA.out HSB.out (fun hx hy => by
          have nx : 0 < A1.length := List.length_pos_iff.2 hx
          have ny : 0 < B2.length := List.length_pos_iff.2 hy
          have hl := HL.out
          have hn2 := HNN.out
          rcases HLE.out with h | h | h
          · omega
          · omega
          · refine h _ _ ?_ ?_
            · rw [show X ++ ((A1 ++ A2) ++ ((B1 ++ B2) ++ Y)) = (X ++ (A1 ++ (A2 ++ B1))) ++ (B2 ++ Y) by simp, getm (t := 0) (by simp only [List.length_append]; omega) ny, List.head_eq_getElem]
            · rw [show X ++ ((A1 ++ A2) ++ ((B1 ++ B2) ++ Y)) = X ++ (A1 ++ (A2 ++ ((B1 ++ B2) ++ Y))) by simp, getm (t := A1.length - 1) (by omega) (by omega), List.getLast_eq_getElem]) (fun hx hy => by
          have nx : 0 < B1.length := List.length_pos_iff.2 hx
          have ny : 0 < A2.length := List.length_pos_iff.2 hy
          have hl := HL.out
          have hn2 := HNN.out
          rcases HRI.out with h | h | h
          · omega
          · omega
          · refine h _ _ ?_ ?_
            · rw [show X ++ ((A1 ++ A2) ++ ((B1 ++ B2) ++ Y)) = (X ++ (A1 ++ A2)) ++ (B1 ++ (B2 ++ Y)) by simp, getm (t := B1.length - 1) (by simp only [List.length_append]; omega) (by omega), List.getLast_eq_getElem]
            · rw [show X ++ ((A1 ++ A2) ++ ((B1 ++ B2) ++ Y)) = (X ++ A1) ++ (A2 ++ ((B1 ++ B2) ++ Y)) by simp, getm (t := 0) (by simp only [List.length_append]; omega) (by omega), List.head_eq_getElem]))
      clear hA1 hB1
      by_cases p1 : s < m
      · by_cases p2 : s < md
        · by_cases p3 : a < s
          · by_cases p4 : e < b
            · skip
              have q1 : (s : Int) < (m : Int) := by omega
              have q2 : (s : Int) < (md : Int) := by omega
              have q3 : (a : Int) < (s : Int) := by omega
              have q4 : (e : Int) < (b : Int) := by omega
              have q5 : (m : Int) < (e : Int) := by omega
              have q6 : (md : Int) < (e : Int) := by omega
              go_wp2_with fail
              all_goals
               refine (rotate_any (X ++ A1) A2 B1 (B2 ++ Y) r g s m e N c fv wr (by have := HO.out; simpa using this) (by have := HU.out; simpa using this) (by have := HM.out; simpa using this) (by have := HL.out; simp; omega) (by have := HL.out; omega) (by have := HL.out; omega) (by have := HL.out; omega) (by have := HL.out; omega) hlim).mono ?_
               rintro e1 w1 ⟨rfl, ho1, hc1⟩
               have HO1 := hid ho1
               have HC1 := hid (HC.out.trans hc1 (fun _ _ h => h))
               clear ho1 hc1
               go_wp2_with fail
               all_goals
                have HOa : Hid (Ro w1 g (X ++ (A1 ++ (B1 ++ (A2 ++ (B2 ++ Y))))) r) := by have := HO1.out; exact hid (by simpa using this)
                refine (ih.out X A1 B1 (A2 ++ (B2 ++ Y)) r g a s md N c w1 (by have := HL.out; have h8 := HD.out; simp only [List.length_append] at h8; omega) HOa.out (by have := HU.out; simp only [one1_app] at this ⊢; simp [this]) (by rw [HM.out]; simp only [List.length_append]; omega) HA.out.1 (by have := HL.out; omega) (by have := HL.out; omega) (by have := HL.out; omega) (by have := HL.out; omega) hlim HSS.out.1 HSS.out.2.1).mono ?_
                rintro e3 w3 ⟨rfl, ho3, hc3⟩
                have HOb := hid ho3
                have HCb := hid (HC1.out.trans hc3 (fun _ _ h => h))
                clear ho3 hc3
                go_wp2_with fail
                all_goals
                 refine (ih.out (X ++ srt KR (A1 ++ B1)) A2 B2 Y r g md e b N c w3 (by have := HL.out; have h8 := HD.out; simp only [List.length_append] at h8; omega) (by have := HOb.out; simpa using this) (one1_srt HU.out) (by rw [HM.out]; simp only [List.length_append, srt_len]; omega) (by have := HL.out; have := HA.out; simp only [List.length_append, srt_len]; omega) (by have := HL.out; omega) (by have := HL.out; omega) (by have := HL.out; omega) (by have := HL.out; omega) hlim HSS.out.2.2.1 HSS.out.2.2.2).mono ?_
                 rintro e4 w4 ⟨rfl, ho4, hc4⟩
                 have HOc : Hid (Ro w4 g (X ++ (srt KR (A1 ++ B1) ++ (srt KR (A2 ++ B2) ++ Y))) r) := hid (by have := ho4; simpa using this)
                 have HCc := hid (HCb.out.trans hc4 (fun _ _ h => h))
                 clear ho4 hc4
                 go_wp2_with fail
                 all_goals
                  go_end0
                  refine ⟨rfl, ?_, HCc.out⟩
                  have h9 := HOc.out
                  rw [show X ++ (srt KR (A1 ++ B1) ++ (srt KR (A2 ++ B2) ++ Y)) = X ++ ((srt KR (A1 ++ B1) ++ srt KR (A2 ++ B2)) ++ Y) by simp, HF.out] at h9
                  simpa using h9
            · skip
              have q1 : (s : Int) < (m : Int) := by omega
              have q2 : (s : Int) < (md : Int) := by omega
              have q3 : (a : Int) < (s : Int) := by omega
              have q4 : ¬ (e : Int) < (b : Int) := by omega
              have q5 : (m : Int) < (e : Int) := by omega
              have q6 : (md : Int) < (e : Int) := by omega
              go_wp2_with fail
              all_goals
               refine (rotate_any (X ++ A1) A2 B1 (B2 ++ Y) r g s m e N c fv wr (by have := HO.out; simpa using this) (by have := HU.out; simpa using this) (by have := HM.out; simpa using this) (by have := HL.out; simp; omega) (by have := HL.out; omega) (by have := HL.out; omega) (by have := HL.out; omega) (by have := HL.out; omega) hlim).mono ?_
               rintro e1 w1 ⟨rfl, ho1, hc1⟩
               have HO1 := hid ho1
               have HC1 := hid (HC.out.trans hc1 (fun _ _ h => h))
               clear ho1 hc1
               go_wp2_with fail
               all_goals
                have HOa : Hid (Ro w1 g (X ++ (A1 ++ (B1 ++ (A2 ++ (B2 ++ Y))))) r) := by have := HO1.out; exact hid (by simpa using this)
                refine (ih.out X A1 B1 (A2 ++ (B2 ++ Y)) r g a s md N c w1 (by have := HL.out; have h8 := HD.out; simp only [List.length_append] at h8; omega) HOa.out (by have := HU.out; simp only [one1_app] at this ⊢; simp [this]) (by rw [HM.out]; simp only [List.length_append]; omega) HA.out.1 (by have := HL.out; omega) (by have := HL.out; omega) (by have := HL.out; omega) (by have := HL.out; omega) hlim HSS.out.1 HSS.out.2.1).mono ?_
                rintro e3 w3 ⟨rfl, ho3, hc3⟩
                have HOb := hid ho3
                have HCb := hid (HC1.out.trans hc3 (fun _ _ h => h))
                clear ho3 hc3
                go_wp2_with fail
                all_goals
                 have HOc : Hid (Ro w3 g (X ++ (srt KR (A1 ++ B1) ++ (srt KR (A2 ++ B2) ++ Y))) r) := by rw [HN2.out (by have := HL.out; omega)]; have := HOb.out; exact hid (by simpa using this)
                 go_end0
                 refine ⟨rfl, ?_, HCb.out⟩
                 have h9 := HOc.out
                 rw [show X ++ (srt KR (A1 ++ B1) ++ (srt KR (A2 ++ B2) ++ Y)) = X ++ ((srt KR (A1 ++ B1) ++ srt KR (A2 ++ B2)) ++ Y) by simp, HF.out] at h9
                 simpa using h9
          · by_cases p4 : e < b
            · skip
              have q1 : (s : Int) < (m : Int) := by omega
              have q2 : (s : Int) < (md : Int) := by omega
              have q3 : ¬ (a : Int) < (s : Int) := by omega
              have q4 : (e : Int) < (b : Int) := by omega
              have q5 : (m : Int) < (e : Int) := by omega
              have q6 : (md : Int) < (e : Int) := by omega
              go_wp2_with fail
              all_goals
               refine (rotate_any (X ++ A1) A2 B1 (B2 ++ Y) r g s m e N c fv wr (by have := HO.out; simpa using this) (by have := HU.out; simpa using this) (by have := HM.out; simpa using this) (by have := HL.out; simp; omega) (by have := HL.out; omega) (by have := HL.out; omega) (by have := HL.out; omega) (by have := HL.out; omega) hlim).mono ?_
               rintro e1 w1 ⟨rfl, ho1, hc1⟩
               have HO1 := hid ho1
               have HC1 := hid (HC.out.trans hc1 (fun _ _ h => h))
               clear ho1 hc1
               go_wp2_with fail
               all_goals
                have HOa : Hid (Ro w1 g (X ++ (A1 ++ (B1 ++ (A2 ++ (B2 ++ Y))))) r) := by have := HO1.out; exact hid (by simpa using this)
                have HOb : Hid (Ro w1 g (X ++ (srt KR (A1 ++ B1) ++ (A2 ++ (B2 ++ Y)))) r) := by rw [HN1.out (by have := HL.out; omega)]; have := HOa.out; exact hid (by simpa using this)
                refine (ih.out (X ++ srt KR (A1 ++ B1)) A2 B2 Y r g md e b N c w1 (by have := HL.out; have h8 := HD.out; simp only [List.length_append] at h8; omega) (by have := HOb.out; simpa using this) (one1_srt HU.out) (by rw [HM.out]; simp only [List.length_append, srt_len]; omega) (by have := HL.out; have := HA.out; simp only [List.length_append, srt_len]; omega) (by have := HL.out; omega) (by have := HL.out; omega) (by have := HL.out; omega) (by have := HL.out; omega) hlim HSS.out.2.2.1 HSS.out.2.2.2).mono ?_
                rintro e4 w4 ⟨rfl, ho4, hc4⟩
                have HOc : Hid (Ro w4 g (X ++ (srt KR (A1 ++ B1) ++ (srt KR (A2 ++ B2) ++ Y))) r) := hid (by have := ho4; simpa using this)
                have HCc := hid (HC1.out.trans hc4 (fun _ _ h => h))
                clear ho4 hc4
                go_wp2_with fail
                all_goals
                 go_end0
                 refine ⟨rfl, ?_, HCc.out⟩
                 have h9 := HOc.out
                 rw [show X ++ (srt KR (A1 ++ B1) ++ (srt KR (A2 ++ B2) ++ Y)) = X ++ ((srt KR (A1 ++ B1) ++ srt KR (A2 ++ B2)) ++ Y) by simp, HF.out] at h9
                 simpa using h9
            · skip
              have q1 : (s : Int) < (m : Int) := by omega
              have q2 : (s : Int) < (md : Int) := by omega
              have q3 : ¬ (a : Int) < (s : Int) := by omega
              have q4 : ¬ (e : Int) < (b : Int) := by omega
              have q5 : (m : Int) < (e : Int) := by omega
              have q6 : (md : Int) < (e : Int) := by omega
              go_wp2_with fail
              all_goals
               refine (rotate_any (X ++ A1) A2 B1 (B2 ++ Y) r g s m e N c fv wr (by have := HO.out; simpa using this) (by have := HU.out; simpa using this) (by have := HM.out; simpa using this) (by have := HL.out; simp; omega) (by have := HL.out; omega) (by have := HL.out; omega) (by have := HL.out; omega) (by have := HL.out; omega) hlim).mono ?_
               rintro e1 w1 ⟨rfl, ho1, hc1⟩
               have HO1 := hid ho1
               have HC1 := hid (HC.out.trans hc1 (fun _ _ h => h))
               clear ho1 hc1
               go_wp2_with fail
               all_goals
                have HOa : Hid (Ro w1 g (X ++ (A1 ++ (B1 ++ (A2 ++ (B2 ++ Y))))) r) := by have := HO1.out; exact hid (by simpa using this)
                have HOb : Hid (Ro w1 g (X ++ (srt KR (A1 ++ B1) ++ (A2 ++ (B2 ++ Y)))) r) := by rw [HN1.out (by have := HL.out; omega)]; have := HOa.out; exact hid (by simpa using this)
                have HOc : Hid (Ro w1 g (X ++ (srt KR (A1 ++ B1) ++ (srt KR (A2 ++ B2) ++ Y))) r) := by rw [HN2.out (by have := HL.out; omega)]; have := HOb.out; exact hid (by simpa using this)
                go_end0
                refine ⟨rfl, ?_, HC1.out⟩
                have h9 := HOc.out
                rw [show X ++ (srt KR (A1 ++ B1) ++ (srt KR (A2 ++ B2) ++ Y)) = X ++ ((srt KR (A1 ++ B1) ++ srt KR (A2 ++ B2)) ++ Y) by simp, HF.out] at h9
                simpa using h9
        · by_cases p3 : a < s
          · by_cases p4 : e < b
            · skip
              have q1 : (s : Int) < (m : Int) := by omega
              have q2 : ¬ (s : Int) < (md : Int) := by omega
              have q3 : (a : Int) < (s : Int) := by omega
              have q4 : (e : Int) < (b : Int) := by omega
              have q5 : ¬ (m : Int) < (e : Int) := by omega
              have q6 : (md : Int) < (e : Int) := by omega
              go_wp2_with fail
              all_goals
               have HOa : Hid (Ro wr g (X ++ (A1 ++ (B1 ++ (A2 ++ (B2 ++ Y))))) r) := by
                 have hz : B1 = [] := List.eq_nil_of_length_eq_zero (by have := HL.out; omega)
                 subst hz
                 have := HO.out
                 exact hid (by simpa using this)
               have HOb : Hid (Ro wr g (X ++ (srt KR (A1 ++ B1) ++ (A2 ++ (B2 ++ Y)))) r) := by rw [HN1.out (by have := HL.out; omega)]; have := HOa.out; exact hid (by simpa using this)
               refine (ih.out (X ++ srt KR (A1 ++ B1)) A2 B2 Y r g md e b N c wr (by have := HL.out; have h8 := HD.out; simp only [List.length_append] at h8; omega) (by have := HOb.out; simpa using this) (one1_srt HU.out) (by rw [HM.out]; simp only [List.length_append, srt_len]; omega) (by have := HL.out; have := HA.out; simp only [List.length_append, srt_len]; omega) (by have := HL.out; omega) (by have := HL.out; omega) (by have := HL.out; omega) (by have := HL.out; omega) hlim HSS.out.2.2.1 HSS.out.2.2.2).mono ?_
               rintro e4 w4 ⟨rfl, ho4, hc4⟩
               have HOc : Hid (Ro w4 g (X ++ (srt KR (A1 ++ B1) ++ (srt KR (A2 ++ B2) ++ Y))) r) := hid (by have := ho4; simpa using this)
               have HCc := hid (HC.out.trans hc4 (fun _ _ h => h))
               clear ho4 hc4
               go_wp2_with fail
               all_goals
                go_end0
                refine ⟨rfl, ?_, HCc.out⟩
                have h9 := HOc.out
                rw [show X ++ (srt KR (A1 ++ B1) ++ (srt KR (A2 ++ B2) ++ Y)) = X ++ ((srt KR (A1 ++ B1) ++ srt KR (A2 ++ B2)) ++ Y) by simp, HF.out] at h9
                simpa using h9
            · skip
              have q1 : (s : Int) < (m : Int) := by omega
              have q2 : ¬ (s : Int) < (md : Int) := by omega
              have q3 : (a : Int) < (s : Int) := by omega
              have q4 : ¬ (e : Int) < (b : Int) := by omega
              have q5 : ¬ (m : Int) < (e : Int) := by omega
              have q6 : (md : Int) < (e : Int) := by omega
              go_wp2_with fail
              all_goals
               have HOa : Hid (Ro wr g (X ++ (A1 ++ (B1 ++ (A2 ++ (B2 ++ Y))))) r) := by
                 have hz : B1 = [] := List.eq_nil_of_length_eq_zero (by have := HL.out; omega)
                 subst hz
                 have := HO.out
                 exact hid (by simpa using this)
               have HOb : Hid (Ro wr g (X ++ (srt KR (A1 ++ B1) ++ (A2 ++ (B2 ++ Y)))) r) := by rw [HN1.out (by have := HL.out; omega)]; have := HOa.out; exact hid (by simpa using this)
               have HOc : Hid (Ro wr g (X ++ (srt KR (A1 ++ B1) ++ (srt KR (A2 ++ B2) ++ Y))) r) := by rw [HN2.out (by have := HL.out; omega)]; have := HOb.out; exact hid (by simpa using this)
               go_end0
               refine ⟨rfl, ?_, HC.out⟩
               have h9 := HOc.out
               rw [show X ++ (srt KR (A1 ++ B1) ++ (srt KR (A2 ++ B2) ++ Y)) = X ++ ((srt KR (A1 ++ B1) ++ srt KR (A2 ++ B2)) ++ Y) by simp, HF.out] at h9
               simpa using h9
          · by_cases p4 : e < b
            · skip
              have q1 : (s : Int) < (m : Int) := by omega
              have q2 : ¬ (s : Int) < (md : Int) := by omega
              have q3 : ¬ (a : Int) < (s : Int) := by omega
              have q4 : (e : Int) < (b : Int) := by omega
              have q5 : ¬ (m : Int) < (e : Int) := by omega
              have q6 : (md : Int) < (e : Int) := by omega
              go_wp2_with fail
              all_goals
               have HOa : Hid (Ro wr g (X ++ (A1 ++ (B1 ++ (A2 ++ (B2 ++ Y))))) r) := by
                 have hz : B1 = [] := List.eq_nil_of_length_eq_zero (by have := HL.out; omega)
                 subst hz
                 have := HO.out
                 exact hid (by simpa using this)
               have HOb : Hid (Ro wr g (X ++ (srt KR (A1 ++ B1) ++ (A2 ++ (B2 ++ Y)))) r) := by rw [HN1.out (by have := HL.out; omega)]; have := HOa.out; exact hid (by simpa using this)
               refine (ih.out (X ++ srt KR (A1 ++ B1)) A2 B2 Y r g md e b N c wr (by have := HL.out; have h8 := HD.out; simp only [List.length_append] at h8; omega) (by have := HOb.out; simpa using this) (one1_srt HU.out) (by rw [HM.out]; simp only [List.length_append, srt_len]; omega) (by have := HL.out; have := HA.out; simp only [List.length_append, srt_len]; omega) (by have := HL.out; omega) (by have := HL.out; omega) (by have := HL.out; omega) (by have := HL.out; omega) hlim HSS.out.2.2.1 HSS.out.2.2.2).mono ?_
               rintro e4 w4 ⟨rfl, ho4, hc4⟩
               have HOc : Hid (Ro w4 g (X ++ (srt KR (A1 ++ B1) ++ (srt KR (A2 ++ B2) ++ Y))) r) := hid (by have := ho4; simpa using this)
               have HCc := hid (HC.out.trans hc4 (fun _ _ h => h))
               clear ho4 hc4
               go_wp2_with fail
               all_goals
                go_end0
                refine ⟨rfl, ?_, HCc.out⟩
                have h9 := HOc.out
                rw [show X ++ (srt KR (A1 ++ B1) ++ (srt KR (A2 ++ B2) ++ Y)) = X ++ ((srt KR (A1 ++ B1) ++ srt KR (A2 ++ B2)) ++ Y) by simp, HF.out] at h9
                simpa using h9
            · skip
              have q1 : (s : Int) < (m : Int) := by omega
              have q2 : ¬ (s : Int) < (md : Int) := by omega
              have q3 : ¬ (a : Int) < (s : Int) := by omega
              have q4 : ¬ (e : Int) < (b : Int) := by omega
              have q5 : ¬ (m : Int) < (e : Int) := by omega
              have q6 : (md : Int) < (e : Int) := by omega
              go_wp2_with fail
              all_goals
               have HOa : Hid (Ro wr g (X ++ (A1 ++ (B1 ++ (A2 ++ (B2 ++ Y))))) r) := by
                 have hz : B1 = [] := List.eq_nil_of_length_eq_zero (by have := HL.out; omega)
                 subst hz
                 have := HO.out
                 exact hid (by simpa using this)
               have HOb : Hid (Ro wr g (X ++ (srt KR (A1 ++ B1) ++ (A2 ++ (B2 ++ Y)))) r) := by rw [HN1.out (by have := HL.out; omega)]; have := HOa.out; exact hid (by simpa using this)
               have HOc : Hid (Ro wr g (X ++ (srt KR (A1 ++ B1) ++ (srt KR (A2 ++ B2) ++ Y))) r) := by rw [HN2.out (by have := HL.out; omega)]; have := HOb.out; exact hid (by simpa using this)
               go_end0
               refine ⟨rfl, ?_, HC.out⟩
               have h9 := HOc.out
               rw [show X ++ (srt KR (A1 ++ B1) ++ (srt KR (A2 ++ B2) ++ Y)) = X ++ ((srt KR (A1 ++ B1) ++ srt KR (A2 ++ B2)) ++ Y) by simp, HF.out] at h9
               simpa using h9
      · by_cases p2 : s < md
        · by_cases p3 : a < s
          · by_cases p4 : e < b
            · skip
              have q1 : ¬ (s : Int) < (m : Int) := by omega
              have q2 : (s : Int) < (md : Int) := by omega
              have q3 : (a : Int) < (s : Int) := by omega
              have q4 : (e : Int) < (b : Int) := by omega
              have q5 : (m : Int) < (e : Int) := by omega
              have q6 : ¬ (md : Int) < (e : Int) := by omega
              go_wp2_with fail
              all_goals
               have HOa : Hid (Ro wr g (X ++ (A1 ++ (B1 ++ (A2 ++ (B2 ++ Y))))) r) := by
                 have hz : A2 = [] := List.eq_nil_of_length_eq_zero (by have := HL.out; omega)
                 subst hz
                 have := HO.out
                 exact hid (by simpa using this)
               refine (ih.out X A1 B1 (A2 ++ (B2 ++ Y)) r g a s md N c wr (by have := HL.out; have h8 := HD.out; simp only [List.length_append] at h8; omega) HOa.out (by have := HU.out; simp only [one1_app] at this ⊢; simp [this]) (by rw [HM.out]; simp only [List.length_append]; omega) HA.out.1 (by have := HL.out; omega) (by have := HL.out; omega) (by have := HL.out; omega) (by have := HL.out; omega) hlim HSS.out.1 HSS.out.2.1).mono ?_
               rintro e3 w3 ⟨rfl, ho3, hc3⟩
               have HOb := hid ho3
               have HCb := hid (HC.out.trans hc3 (fun _ _ h => h))
               clear ho3 hc3
               go_wp2_with fail
               all_goals
                have HOc : Hid (Ro w3 g (X ++ (srt KR (A1 ++ B1) ++ (srt KR (A2 ++ B2) ++ Y))) r) := by rw [HN2.out (by have := HL.out; omega)]; have := HOb.out; exact hid (by simpa using this)
                go_end0
                refine ⟨rfl, ?_, HCb.out⟩
                have h9 := HOc.out
                rw [show X ++ (srt KR (A1 ++ B1) ++ (srt KR (A2 ++ B2) ++ Y)) = X ++ ((srt KR (A1 ++ B1) ++ srt KR (A2 ++ B2)) ++ Y) by simp, HF.out] at h9
                simpa using h9
            · skip
              have q1 : ¬ (s : Int) < (m : Int) := by omega
              have q2 : (s : Int) < (md : Int) := by omega
              have q3 : (a : Int) < (s : Int) := by omega
              have q4 : ¬ (e : Int) < (b : Int) := by omega
              have q5 : (m : Int) < (e : Int) := by omega
              have q6 : ¬ (md : Int) < (e : Int) := by omega
              go_wp2_with fail
              all_goals
               have HOa : Hid (Ro wr g (X ++ (A1 ++ (B1 ++ (A2 ++ (B2 ++ Y))))) r) := by
                 have hz : A2 = [] := List.eq_nil_of_length_eq_zero (by have := HL.out; omega)
                 subst hz
                 have := HO.out
                 exact hid (by simpa using this)
               refine (ih.out X A1 B1 (A2 ++ (B2 ++ Y)) r g a s md N c wr (by have := HL.out; have h8 := HD.out; simp only [List.length_append] at h8; omega) HOa.out (by have := HU.out; simp only [one1_app] at this ⊢; simp [this]) (by rw [HM.out]; simp only [List.length_append]; omega) HA.out.1 (by have := HL.out; omega) (by have := HL.out; omega) (by have := HL.out; omega) (by have := HL.out; omega) hlim HSS.out.1 HSS.out.2.1).mono ?_
               rintro e3 w3 ⟨rfl, ho3, hc3⟩
               have HOb := hid ho3
               have HCb := hid (HC.out.trans hc3 (fun _ _ h => h))
               clear ho3 hc3
               go_wp2_with fail
               all_goals
                have HOc : Hid (Ro w3 g (X ++ (srt KR (A1 ++ B1) ++ (srt KR (A2 ++ B2) ++ Y))) r) := by rw [HN2.out (by have := HL.out; omega)]; have := HOb.out; exact hid (by simpa using this)
                go_end0
                refine ⟨rfl, ?_, HCb.out⟩
                have h9 := HOc.out
                rw [show X ++ (srt KR (A1 ++ B1) ++ (srt KR (A2 ++ B2) ++ Y)) = X ++ ((srt KR (A1 ++ B1) ++ srt KR (A2 ++ B2)) ++ Y) by simp, HF.out] at h9
                simpa using h9
          · by_cases p4 : e < b
            · skip
              have q1 : ¬ (s : Int) < (m : Int) := by omega
              have q2 : (s : Int) < (md : Int) := by omega
              have q3 : ¬ (a : Int) < (s : Int) := by omega
              have q4 : (e : Int) < (b : Int) := by omega
              have q5 : (m : Int) < (e : Int) := by omega
              have q6 : ¬ (md : Int) < (e : Int) := by omega
              go_wp2_with fail
              all_goals
               have HOa : Hid (Ro wr g (X ++ (A1 ++ (B1 ++ (A2 ++ (B2 ++ Y))))) r) := by
                 have hz : A2 = [] := List.eq_nil_of_length_eq_zero (by have := HL.out; omega)
                 subst hz
                 have := HO.out
                 exact hid (by simpa using this)
               have HOb : Hid (Ro wr g (X ++ (srt KR (A1 ++ B1) ++ (A2 ++ (B2 ++ Y)))) r) := by rw [HN1.out (by have := HL.out; omega)]; have := HOa.out; exact hid (by simpa using this)
               have HOc : Hid (Ro wr g (X ++ (srt KR (A1 ++ B1) ++ (srt KR (A2 ++ B2) ++ Y))) r) := by rw [HN2.out (by have := HL.out; omega)]; have := HOb.out; exact hid (by simpa using this)
               go_end0
               refine ⟨rfl, ?_, HC.out⟩
               have h9 := HOc.out
               rw [show X ++ (srt KR (A1 ++ B1) ++ (srt KR (A2 ++ B2) ++ Y)) = X ++ ((srt KR (A1 ++ B1) ++ srt KR (A2 ++ B2)) ++ Y) by simp, HF.out] at h9
               simpa using h9
            · skip
              have q1 : ¬ (s : Int) < (m : Int) := by omega
              have q2 : (s : Int) < (md : Int) := by omega
              have q3 : ¬ (a : Int) < (s : Int) := by omega
              have q4 : ¬ (e : Int) < (b : Int) := by omega
              have q5 : (m : Int) < (e : Int) := by omega
              have q6 : ¬ (md : Int) < (e : Int) := by omega
              go_wp2_with fail
              all_goals
               have HOa : Hid (Ro wr g (X ++ (A1 ++ (B1 ++ (A2 ++ (B2 ++ Y))))) r) := by
                 have hz : A2 = [] := List.eq_nil_of_length_eq_zero (by have := HL.out; omega)
                 subst hz
                 have := HO.out
                 exact hid (by simpa using this)
               have HOb : Hid (Ro wr g (X ++ (srt KR (A1 ++ B1) ++ (A2 ++ (B2 ++ Y)))) r) := by rw [HN1.out (by have := HL.out; omega)]; have := HOa.out; exact hid (by simpa using this)
               have HOc : Hid (Ro wr g (X ++ (srt KR (A1 ++ B1) ++ (srt KR (A2 ++ B2) ++ Y))) r) := by rw [HN2.out (by have := HL.out; omega)]; have := HOb.out; exact hid (by simpa using this)
               go_end0
               refine ⟨rfl, ?_, HC.out⟩
               have h9 := HOc.out
               rw [show X ++ (srt KR (A1 ++ B1) ++ (srt KR (A2 ++ B2) ++ Y)) = X ++ ((srt KR (A1 ++ B1) ++ srt KR (A2 ++ B2)) ++ Y) by simp, HF.out] at h9
               simpa using h9
        · by_cases p3 : a < s
          · by_cases p4 : e < b
            · skip
              have q1 : ¬ (s : Int) < (m : Int) := by omega
              have q2 : ¬ (s : Int) < (md : Int) := by omega
              have q3 : (a : Int) < (s : Int) := by omega
              have q4 : (e : Int) < (b : Int) := by omega
              have q5 : ¬ (m : Int) < (e : Int) := by omega
              have q6 : ¬ (md : Int) < (e : Int) := by omega
              go_wp2_with fail
              all_goals
               have HOa : Hid (Ro wr g (X ++ (A1 ++ (B1 ++ (A2 ++ (B2 ++ Y))))) r) := by
                 have hz : B1 = [] := List.eq_nil_of_length_eq_zero (by have := HL.out; omega)
                 subst hz
                 have := HO.out
                 exact hid (by simpa using this)
               have HOb : Hid (Ro wr g (X ++ (srt KR (A1 ++ B1) ++ (A2 ++ (B2 ++ Y)))) r) := by rw [HN1.out (by have := HL.out; omega)]; have := HOa.out; exact hid (by simpa using this)
               have HOc : Hid (Ro wr g (X ++ (srt KR (A1 ++ B1) ++ (srt KR (A2 ++ B2) ++ Y))) r) := by rw [HN2.out (by have := HL.out; omega)]; have := HOb.out; exact hid (by simpa using this)
               go_end0
               refine ⟨rfl, ?_, HC.out⟩
               have h9 := HOc.out
               rw [show X ++ (srt KR (A1 ++ B1) ++ (srt KR (A2 ++ B2) ++ Y)) = X ++ ((srt KR (A1 ++ B1) ++ srt KR (A2 ++ B2)) ++ Y) by simp, HF.out] at h9
               simpa using h9
            · skip
              have q1 : ¬ (s : Int) < (m : Int) := by omega
              have q2 : ¬ (s : Int) < (md : Int) := by omega
              have q3 : (a : Int) < (s : Int) := by omega
              have q4 : ¬ (e : Int) < (b : Int) := by omega
              have q5 : ¬ (m : Int) < (e : Int) := by omega
              have q6 : ¬ (md : Int) < (e : Int) := by omega
              go_wp2_with fail
              all_goals
               have HOa : Hid (Ro wr g (X ++ (A1 ++ (B1 ++ (A2 ++ (B2 ++ Y))))) r) := by
                 have hz : B1 = [] := List.eq_nil_of_length_eq_zero (by have := HL.out; omega)
                 subst hz
                 have := HO.out
                 exact hid (by simpa using this)
               have HOb : Hid (Ro wr g (X ++ (srt KR (A1 ++ B1) ++ (A2 ++ (B2 ++ Y)))) r) := by rw [HN1.out (by have := HL.out; omega)]; have := HOa.out; exact hid (by simpa using this)
               have HOc : Hid (Ro wr g (X ++ (srt KR (A1 ++ B1) ++ (srt KR (A2 ++ B2) ++ Y))) r) := by rw [HN2.out (by have := HL.out; omega)]; have := HOb.out; exact hid (by simpa using this)
               go_end0
               refine ⟨rfl, ?_, HC.out⟩
               have h9 := HOc.out
               rw [show X ++ (srt KR (A1 ++ B1) ++ (srt KR (A2 ++ B2) ++ Y)) = X ++ ((srt KR (A1 ++ B1) ++ srt KR (A2 ++ B2)) ++ Y) by simp, HF.out] at h9
               simpa using h9
          · by_cases p4 : e < b
            · skip
              have q1 : ¬ (s : Int) < (m : Int) := by omega
              have q2 : ¬ (s : Int) < (md : Int) := by omega
              have q3 : ¬ (a : Int) < (s : Int) := by omega
              have q4 : (e : Int) < (b : Int) := by omega
              have q5 : ¬ (m : Int) < (e : Int) := by omega
              have q6 : ¬ (md : Int) < (e : Int) := by omega
              go_wp2_with fail
              all_goals
               have HOa : Hid (Ro wr g (X ++ (A1 ++ (B1 ++ (A2 ++ (B2 ++ Y))))) r) := by
                 have hz : B1 = [] := List.eq_nil_of_length_eq_zero (by have := HL.out; omega)
                 subst hz
                 have := HO.out
                 exact hid (by simpa using this)
               have HOb : Hid (Ro wr g (X ++ (srt KR (A1 ++ B1) ++ (A2 ++ (B2 ++ Y)))) r) := by rw [HN1.out (by have := HL.out; omega)]; have := HOa.out; exact hid (by simpa using this)
               have HOc : Hid (Ro wr g (X ++ (srt KR (A1 ++ B1) ++ (srt KR (A2 ++ B2) ++ Y))) r) := by rw [HN2.out (by have := HL.out; omega)]; have := HOb.out; exact hid (by simpa using this)
               go_end0
               refine ⟨rfl, ?_, HC.out⟩
               have h9 := HOc.out
               rw [show X ++ (srt KR (A1 ++ B1) ++ (srt KR (A2 ++ B2) ++ Y)) = X ++ ((srt KR (A1 ++ B1) ++ srt KR (A2 ++ B2)) ++ Y) by simp, HF.out] at h9
               simpa using h9
            · skip
              have q1 : ¬ (s : Int) < (m : Int) := by omega
              have q2 : ¬ (s : Int) < (md : Int) := by omega
              have q3 : ¬ (a : Int) < (s : Int) := by omega
              have q4 : ¬ (e : Int) < (b : Int) := by omega
              have q5 : ¬ (m : Int) < (e : Int) := by omega
              have q6 : ¬ (md : Int) < (e : Int) := by omega
              go_wp2_with fail
              all_goals
               have HOa : Hid (Ro wr g (X ++ (A1 ++ (B1 ++ (A2 ++ (B2 ++ Y))))) r) := by
                 have hz : B1 = [] := List.eq_nil_of_length_eq_zero (by have := HL.out; omega)
                 subst hz
                 have := HO.out
                 exact hid (by simpa using this)
               have HOb : Hid (Ro wr g (X ++ (srt KR (A1 ++ B1) ++ (A2 ++ (B2 ++ Y)))) r) := by rw [HN1.out (by have := HL.out; omega)]; have := HOa.out; exact hid (by simpa using this)
               have HOc : Hid (Ro wr g (X ++ (srt KR (A1 ++ B1) ++ (srt KR (A2 ++ B2) ++ Y))) r) := by rw [HN2.out (by have := HL.out; omega)]; have := HOb.out; exact hid (by simpa using this)
               go_end0
               refine ⟨rfl, ?_, HC.out⟩
               have h9 := HOc.out
               rw [show X ++ (srt KR (A1 ++ B1) ++ (srt KR (A2 ++ B2) ++ Y)) = X ++ ((srt KR (A1 ++ B1) ++ srt KR (A2 ++ B2)) ++ Y) by simp, HF.out] at h9
               simpa using h9
end Go.Proofs.Ytkhdadbbgfjcgaa
