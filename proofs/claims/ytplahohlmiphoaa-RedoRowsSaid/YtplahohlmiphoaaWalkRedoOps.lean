/- triadlaw3.RedoOps: the walk. -/
import Derived.Test.YtplahohlmiphoaaHomes3
import Derived.Test.YtplahohlmiphoaaZer
namespace Go.Proofs.Ytplahohlmiphoaa
open Go.RowKit
set_option linter.unusedVariables false

theorem IsPutsA.keep {w w' : World} {a : Option Addr} {len cap : Nat} {ls : List (Int × List UInt8)} (h : IsPutsA w a len cap ls) (hb : Below w.heap.size w w') : IsPutsA w' a len cap ls :=
  ⟨h.1, h.2.1, fun i hi => by
    obtain ⟨ab, ao, q, h1, h2, pb, cb, k0, k1, h3, h4⟩ := h.2.2 i hi
    have hab : ab < w.heap.size := World.block_lt_of_cell? w ⟨ab, ao + i * 2, none⟩ k0
    exact ⟨ab, ao, q, h1, h2, pb, cb, (hb.cell (p := ⟨ab, ao + i * 2, none⟩) hab).trans k0, (hb.cell (p := ⟨ab, ao + i * 2 + 1, none⟩) hab).trans k1, h3.new hb, h4⟩⟩

theorem good_ok (ls : List (Int × List UInt8)) (h : ¬ (goodOf ls).length = 0) : LOk 420 (goodOf ls) := by
  have hs := goodOf_spec ls
  have go : ∀ (l out : List (Int × List UInt8)), out.Pairwise (fun a b => a.1 ≠ b.1) → (l.foldl goodStep out).Pairwise (fun a b => a.1 ≠ b.1) := by
    intro l
    induction l with
    | nil => intro out h; exact h
    | cons x r ih =>
      intro out h
      refine ih _ ?_
      unfold goodStep
      split
      · exact h
      · rename_i hno
        rw [List.pairwise_append]
        refine ⟨h, List.pairwise_singleton _ _, fun a ha b hb => ?_⟩
        rw [List.mem_singleton] at hb; subst hb
        intro he
        exact hno (List.any_eq_true.2 ⟨a, ha, by simpa using he⟩)
  exact ⟨by omega, by omega, fun q hq => by have := hs.2 q hq; omega, go _ [] List.Pairwise.nil⟩

theorem rest_new (n : Nat) : Rest n (dNew n) (List.replicate (n * 512) 0) := ⟨rfl, rfl, rfl, rfl, List.length_replicate⟩

set_option maxRecDepth 100000 in
set_option maxHeartbeats 4000000 in
theorem redoOps_walk (a0 : Option Addr) (len0 cap0 : Nat) (z0 : List (Int × List UInt8)) (w : World) (w0 : IsPutsA w a0 len0 cap0 z0) :
    Calls Try.prog 4 #[.slice a0 len0 cap0] w fun e w' => e = .returned (.bool true) ∧ Below w.heap.size w w' := by
  have H0 := hid w0
  clear w0
  go_enter Try.func4, Try.ntmps4
  go_wp2_with fail
  refine (known3_any _).mono ?_; rintro e1 wk ⟨rfl, hbk⟩
  have BK := hid hbk
  clear hbk
  go_wp2_with fail
  refine (few3_any wk _ _ _ z0 (H0.out.keep BK.out)).mono ?_
  rintro e1 wx ⟨rfl, hw⟩
  subst hw
  generalize hf0 : fewOf z0 = b0
  cases b0 with
  | false =>
    go_wp2_with fail
    go_ret
    exact ⟨rfl, BK.out⟩
  | true =>
    obtain ⟨hl0, hb0⟩ := fewOf_spec hf0
    have HB0 := hid hb0
    clear hf0 hb0
    go_wp2_with fail
    refine (good3_any w _ a0 len0 cap0 z0 H0.out BK.out HB0.out (by omega)).mono ?_
    rintro e1 w3 ⟨gp, gc, gbs, rfl, hpa⟩
    have PA := hid hpa
    have B3 := hid (BK.out.trans (hpa.2.2.2.1.mono BK.out.size))
    clear hpa
    go_wp2_with fail
    refine (dNew_any _ _).mono ?_; rintro e1 w4 ⟨d, rfl, hd, hb4, hl⟩
    rw [show clampN 420 = 420 from by decide] at hd
    have D4 := hid hd
    have B4 := hid (B3.out.trans (hb4.mono B3.out.size))
    have hp3 := PA.out.puts2 (fp := fun k => w3.heap.size ≤ k ∧ k < w4.heap.size) (fun g hg hf => by have := B3.out.size; omega) (fun k hk => .inr hk.1)
    have P4 := hid (hp3.1.chg hp3.2 (Chg.new hb4 _) (fun k h => .inl h))
    have O4 := hid hp3.2
    have hgs := goodOf_spec z0
    have SP := hid hgs
    have LK : Hid (¬ (goodOf z0).length = 0 → LOk 420 (goodOf z0)) := hid (good_ok z0)
    have hgl : (goodOf z0).length ≤ 8 := hgs.1
    clear hd hb4 hl hp3 hgs PA HB0
    generalize goodOf z0 = G at *
    have HC := hid (com_any w4 d (fun k => w3.heap.size ≤ k ∧ k < w4.heap.size) 420 (dNew 420) gp gc G D4.out P4.out (fun _ => O4.out) (by omega) (fun q hq => by have := SP.out.2 q hq; omega) (fun q hq => wf_small (by have := SP.out.2 q hq; omega) (by have := SP.out.2 q hq; omega)) (show (0 : Int) + 3000 ≤ 1000000 by omega))
    go_wp2_with fail
    refine HC.out.mono ?_
    rintro e1 w5 ⟨rfl, fp5, hd5, hc5, hf5⟩
    have D5 := hid hd5
    have B5 := hid (B4.out.trans (hc5.below (fun k hk => by have := B3.out.size; omega) B4.out.size))
    clear hd5 hc5 hf5 HC
    by_cases hG0 : G.length = 0
    · obtain rfl : G = [] := List.eq_nil_of_length_eq_zero hG0
      rw [cmt_nil] at D5 ⊢
      go_wp2_with fail
      refine (dOps_any w5 d fp5 420 (dNew 420) D5.out).mono ?_
      rintro e1 w6 ⟨rfl, hw⟩
      subst hw
      rw [show (dNew 420).ops = 0 from rfl]
      go_wp2_with fail
      go_ret
      exact ⟨rfl, B5.out⟩
    · have lok := LK.out hG0
      obtain ⟨h1, h2⟩ := com_run lok (rest_new 420) (row_zero (by omega))
      obtain ⟨e0, hst, hops⟩ := h2 (show (0 : Int) < 1 by omega)
      obtain ⟨F, hr, hpc⟩ : ∃ F, Rest 420 (cmt 420 (dNew 420) G).1 F ∧ PC 420 G (List.replicate (420 * 512) 0) F := by
        rcases h1 with ⟨_, h1⟩ | ⟨e, _⟩
        · exact h1
        · omega
      have hn0 : row (cmt 420 (dNew 420) G).1.now 0 = z512 := by rw [hr.now]; exact hpc.1
      have HOP : Hid ((cmt 420 (dNew 420) G).1.ops = 2 * (G.length : Int) + 6) := hid (by rw [hops]; show (0 : Int) + _ = _; omega)
      rw [e0]
      have hg0 : ((G.length : Int) == 0) = false := by simpa using hG0
      have RO := hid (dRead_ok w5 d fp5 420 _ 0 D5.out hr.alive (by omega))
      rw [hn0] at RO
      generalize (cmt 420 (dNew 420) G).1 = s5 at *
      clear h1 h2 hst hops hr hpc hn0 e0 hG0 lok
      go_wp2_with fail
      refine RO.out.mono ?_
      rintro e1 w6 ⟨g, rfl, hg, hblk, hb6⟩
      have D6 := hid (D5.out.chg (Chg.new hb6 NoFp) (fun _ _ h => h))
      have B6 := hid (B5.out.trans (hb6.mono B5.out.size))
      have K6 := hid hblk
      clear hg hblk hb6 RO D5
      have hwm : IntKind.i64.wrap (2 * (G.length : Int)) = 2 * (G.length : Int) := by simp [IntKind.wrap, IntKind.bits, IntKind.signed]; omega
      have hwa : IntKind.i64.wrap (2 * (G.length : Int) + 6) = 2 * (G.length : Int) + 6 := by simp [IntKind.wrap, IntKind.bits, IntKind.signed]; omega
      go_wp2_with fail
      have bs : ∀ w', Blk w' g (bv z512) 5 → Bs w' (.slice (some ⟨g, 0, none⟩) 512 512) z512 := fun w' h => Bs.blk h z512_length.symm (by simp [maxLen])
      have KD : Hid (Blk w6.drew g (bv z512) 5 ∧ Dsk w6.drew d fp5 420 s5) := hid ⟨K6.out.chg (Chg.drewN NoFp w6 1) (fun h => h), D6.out.chg (Chg.drewN NoFp w6 1) (fun _ _ h => h)⟩
      refine wp_region_plan (fun w' => Blk w' g (bv z512) 5) (fun j => !([8, 18, 19, 20, 21, 22].contains j)) (fun j => false)
        (.of [0, 1, 2, 3, 4, 5, 6, 7, 9, 10, 11, 12, 8, 13, 14, 15, 16, 17, 18, 19, 20, 21, 22]) (by kernel_rfl) (by kernel_rfl) rfl (by kernel_rfl) (by kernel_rfl) KD.out.1 ?_
      have BDW : Hid (Below w.heap.size w w6.drew) := hid (below_drewN B6.out 1)
      generalize w6.drew = wd at *
      iterate 12 (apply wpPlan_val; (case ho => rfl); (case hst => rfl); (case hw => rfl); (case hv => intro w' hS; go_simp; first | done | rfl); intro K hK; go_simp; refine hK _ ?_; clear hK K)
      refine wpPlan_list rfl rfl rfl (fun K hK => ?_)
      refine wpList_step (fun K2 hK2 => ?_)
      go_simp
      refine (dOps_any wd d fp5 420 s5 KD.out.2).mono ?_
      rintro e1 w7 ⟨rfl, hw⟩
      subst hw
      rw [HOP.out]
      go_simp
      refine hK2 _ _ ?_
      clear hK2 K2
      simp only [wpList]
      refine hK _ _ (fun _ => KD.out.1) ?_
      clear hK K
      have HCV : Hid (∀ w', Blk w' g (bv z512) 5 → (convert 26 9 (.slice (some ⟨g, 0, none⟩) 512 512)).run Try.prog w' = .ok (.string ⟨z512.toArray⟩) w') := hid (fun w' h => run_bytes_str w' 26 9 5 _ _ Try.underlying26 Try.underlying5 Try.underlying9 (bs w' h))
      clear bs
      iterate 4 (apply wpPlan_val; (case ho => rfl); (case hst => rfl); (case hw => rfl); (case hv => intro w' hS; go_simp; first | done | rfl); intro K hK; go_simp; refine hK _ ?_; clear hK K)
      apply wpPlan_val; (case ho => rfl); (case hst => rfl); (case hw => rfl); (case hv => intro w' hS; have hq := HCV.out w' hS; go_simp; first | done | rfl); intro K hK; go_simp; refine hK _ ?_; clear hK K
      refine wpPlan_list rfl rfl rfl (fun K hK => ?_)
      have hmk : ∀ w, (Instr.makeSlice 26 (.int .i64 512) (.int .i64 512)).run Try.prog w = .ok (.slice (some ⟨w.heap.size, 0, none⟩) 512 512) (w.alloc (.cells (bv z512).toArray 5)) := fun w => make_bytes .i64 .i64 512 (by omega) w
      refine wpList_step (fun K2 hK2 => ?_)
      go_simp
      have hba : Below wd.heap.size wd (wd.alloc (.cells (bv z512).toArray 5)) := (Below.refl _ _).alloc (Nat.le_refl _) _
      have hbk : Blk (wd.alloc (.cells (bv z512).toArray 5)) wd.heap.size (bv z512) 5 := heap_alloc_new wd _
      generalize wd.alloc (.cells (bv z512).toArray 5) = wa at *
      have MA := hid hba
      have HCW : Hid ((convert 26 9 (.slice (some ⟨wd.heap.size, 0, none⟩) 512 512)).run Try.prog wa = .ok (.string ⟨z512.toArray⟩) wa) := hid (run_bytes_str wa 26 9 5 _ _ Try.underlying26 Try.underlying5 Try.underlying9 (Bs.blk hbk z512_length.symm (by simp [maxLen])))
      have BA := hid (BDW.out.trans (hba.mono BDW.out.size))
      have KA := hid (KD.out.1.chg (Chg.new hba NoFp) (fun h => h))
      clear hba hbk hmk
      refine hK2 _ _ ?_
      clear hK2 K2
      simp only [wpList]
      refine hK _ _ (fun _ => KA.out) ?_
      clear hK K
      refine wpPlan_list rfl rfl rfl (fun K hK => ?_)
      refine wpList_step (fun K2 hK2 => ?_)
      have hq := HCW.out
      go_simp
      clear hq
      refine hK2 _ _ ?_
      clear hK2 K2
      simp only [wpList]
      refine hK _ _ (fun _ => KA.out) ?_
      clear hK K
      iterate 3 (refine wpPlan_list rfl rfl rfl (fun K hK => ?_); refine wpList_step (fun K2 hK2 => ?_); go_simp; refine hK2 _ _ ?_; clear hK2 K2; simp only [wpList]; refine hK _ _ (fun _ => KA.out) ?_; clear hK K)
      refine wpPlan_nil ?_
      simp only [Qn]
      go_wp2_with fail
      go_ret
      exact ⟨rfl, BA.out⟩
end Go.Proofs.Ytplahohlmiphoaa
