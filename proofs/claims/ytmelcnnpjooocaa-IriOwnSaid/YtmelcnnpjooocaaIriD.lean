/- iri.straight. -/
import Derived.Test.YtmelcnnpjooocaaIriB
namespace Go.Proofs.Ytmelcnnpjooocaa
open Go.RowKit
set_option linter.unusedVariables false

/-- on the way -/
def Dt (s0 s out : List UInt8) : Prop := (∃ k, s.length ≤ k ∧ dots s0 = dotsF k s out) ∧ out.length + s.length ≤ s0.length
theorem Dt.start (s0 : List UInt8) : Dt s0 s0 [] := ⟨⟨s0.length, Nat.le_refl _, rfl⟩, by simp⟩
theorem Dt.step {s0 s out s' out' : List UInt8} (h : Dt s0 s out) (hne : s ≠ []) (hs : dstep s out = (s', out')) : Dt s0 s' out' ∧ s'.length < s.length := by
  obtain ⟨⟨k, hk, hd⟩, hl⟩ := h
  have h1 := dstep_lt (out := out) hne
  rw [hs] at h1
  simp only at h1
  have hpos : 0 < s.length := List.length_pos_iff.2 hne
  obtain ⟨m, rfl⟩ : ∃ m, k = m + 1 := ⟨k - 1, by omega⟩
  rw [dotsF, if_neg hne, hs] at hd
  exact ⟨⟨⟨m, by omega, hd⟩, by omega⟩, h1.1⟩
theorem Dt.done {s0 out : List UInt8} (h : Dt s0 [] out) : dots s0 = out := by
  obtain ⟨⟨k, hk, hd⟩, _⟩ := h
  cases k with
  | zero => exact hd
  | succ k => rw [dotsF, if_pos rfl] at hd; exact hd
theorem beq_no {a b : List UInt8} (h : ¬ a = b) : (a == b) = false := by simpa using h
theorem beq_yes {a b : List UInt8} (h : a = b) : (a == b) = true := by simpa using h

theorem turn {P : Program} {f : FuncId} {args : Array Value} {w : World} {v : Value} (h : Calls P f args w fun e w' => e = .returned v ∧ w = w') : Calls P f args w fun e w' => e = .returned v ∧ w' = w :=
  h.mono fun e w' he => ⟨he.1, he.2.symm⟩

set_option maxRecDepth 100000 in
set_option maxHeartbeats 16000000 in
theorem straight_any (s0 : List UInt8) (w : World) (hl : s0.length ≤ 1000000) :
    Calls Try.prog 17 #[.string (B s0)] w fun e w' => e = .returned (.string (B (dots s0))) ∧ Below w.heap.size w w' := by
  go_enter Try.func17, Try.ntmps17
  go_wp2_with fail
  refine wp_scope_goto 0 (fun dd a wr => ∃ (s out : List UInt8) (u4 u5 u6 u7 u8 u9 u10 u11 u12 u13 u14 u15 u16 u17 u18 u19 u20 u21 u22 u23 u24 u25 u26 u27 u28 u29 u30 u31 u32 u33 u34 u35 u36 u37 u38 u39 u40 u41 u42 u43 u44 u45 u46 u47 u48 u49 u50 u51 u52 u53 u54 u55 u56 u57 u58 u59 : Value), dd = s.length ∧ Dt s0 s out ∧ Below w.heap.size w wr ∧
     a = ⟨#[.string (B s), undef, .string ⟨#[]⟩, .string (B out), u4, u5, u6, u7, u8, u9, u10, u11, u12, u13, u14, u15, u16, u17, u18, u19, u20, u21, u22, u23, u24, u25, u26, u27, u28, u29, u30, u31, u32, u33, u34, u35, u36, u37, u38, u39, u40, u41, u42, u43, u44, u45, u46, u47, u48, u49, u50, u51, u52, u53, u54, u55, u56, u57, u58, u59], []⟩) rfl ?pass ?first
  case first =>
    intro K hK
    go_wp2_with fail
    refine wp_label ?_
    simp only [Exit.then]
    rename_i hK'
    exact hK' _ _ (hK _ _ _ ⟨s0, [], _, _, _, _, _, _, _, _, _, _, _, _, _, _, _, _, _, _, _, _, _, _, _, _, _, _, _, _, _, _, _, _, _, _, _, _, _, _, _, _, _, _, _, _, _, _, _, _, _, _, _, _, _, _, _, _, rfl, Dt.start s0, Below.refl _ _, rfl⟩)
  case pass =>
    rintro dd a wr ⟨s, out, u4, u5, u6, u7, u8, u9, u10, u11, u12, u13, u14, u15, u16, u17, u18, u19, u20, u21, u22, u23, u24, u25, u26, u27, u28, u29, u30, u31, u32, u33, u34, u35, u36, u37, u38, u39, u40, u41, u42, u43, u44, u45, u46, u47, u48, u49, u50, u51, u52, u53, u54, u55, u56, u57, u58, u59, rfl, hdt, hb, rfl⟩ K hK
    have HK := hid hK
    have HD := hid hdt
    have BB := hid hb
    have hls : out.length + s.length ≤ 1000000 := by have := hdt.2; omega
    have hlo : out.length ≤ 1000000 := by omega
    clear hK hdt hb
    by_cases hne : s = []
    · subst hne
      go_wp2_with fail
      go_ret
      rw [HD.out.done]
      exact ⟨rfl, BB.out⟩
    · have b0 := beq_no hne
      have HNE := hid hne
      clear hne
      rcases Bool.eq_false_or_eq_true (hp [46, 46, 47] s) with e1 | e1
      · have E1 := hid e1
        have h3 := hp_length e1
        have h4 : 3 ≤ s.length := h3
        have h5 : (3 : Int) ≤ (s.length : Int) := by omega
        clear e1 h3
        have hd : dstep s out = (s.drop 3, out) := by unfold dstep; rw [if_pos E1.out]
        have ST := hid (HD.out.step HNE.out hd)
        clear hd
        go_wp2_with fail
        refine (hp_any s [46, 46, 47] _).mono ?_; rintro e1 wx ⟨rfl, hw⟩
        subst hw
        rw [E1.out]
        go_wp2_with fail
        refine wp_goto ?_
        simp only [Exit.jump, true_and]
        exact HK.out _ _ _ ST.out.2 ⟨_, _, _, _, _, _, _, _, _, _, _, _, _, _, _, _, _, _, _, _, _, _, _, _, _, _, _, _, _, _, _, _, _, _, _, _, _, _, _, _, _, _, _, _, _, _, _, _, _, _, _, _, _, _, _, _, _, _, rfl, ST.out.1, BB.out, rfl⟩
      · have E1 := hid e1
        clear e1
        rcases Bool.eq_false_or_eq_true (hp [46, 47] s) with e2 | e2
        · have E2 := hid e2
          have h3 := hp_length e2
          have h4 : 2 ≤ s.length := h3
          have h5 : (2 : Int) ≤ (s.length : Int) := by omega
          clear e2 h3
          have hd : dstep s out = (s.drop 2, out) := by unfold dstep; rw [if_neg (by rw [E1.out]; simp), if_pos E2.out]
          have ST := hid (HD.out.step HNE.out hd)
          clear hd
          go_wp2_with fail
          refine (hp_any s [46, 46, 47] _).mono ?_; rintro e1 wx ⟨rfl, hw⟩
          subst hw
          rw [E1.out]
          go_wp2_with fail
          refine (hp_any s [46, 47] _).mono ?_; rintro e1 wx ⟨rfl, hw⟩
          subst hw
          rw [E2.out]
          go_wp2_with fail
          refine wp_goto ?_
          simp only [Exit.jump, true_and]
          exact HK.out _ _ _ ST.out.2 ⟨_, _, _, _, _, _, _, _, _, _, _, _, _, _, _, _, _, _, _, _, _, _, _, _, _, _, _, _, _, _, _, _, _, _, _, _, _, _, _, _, _, _, _, _, _, _, _, _, _, _, _, _, _, _, _, _, _, _, rfl, ST.out.1, BB.out, rfl⟩
        · have E2 := hid e2
          clear e2
          rcases Bool.eq_false_or_eq_true (hp [47, 46, 47] s) with e3 | e3
          · have E3 := hid e3
            have h3 := hp_length e3
            have h4 : 3 ≤ s.length := h3
            have h5 : (2 : Int) ≤ (s.length : Int) := by omega
            clear e3 h3
            have hd : dstep s out = (s.drop 2, out) := by unfold dstep; rw [if_neg (by rw [E1.out]; simp), if_neg (by rw [E2.out]; simp), if_pos E3.out]
            have ST := hid (HD.out.step HNE.out hd)
            clear hd
            go_wp2_with fail
            refine (hp_any s [46, 46, 47] _).mono ?_; rintro e1 wx ⟨rfl, hw⟩
            subst hw
            rw [E1.out]
            go_wp2_with fail
            refine (hp_any s [46, 47] _).mono ?_; rintro e1 wx ⟨rfl, hw⟩
            subst hw
            rw [E2.out]
            go_wp2_with fail
            refine (hp_any s [47, 46, 47] _).mono ?_; rintro e1 wx ⟨rfl, hw⟩
            subst hw
            rw [E3.out]
            go_wp2_with fail
            refine wp_goto ?_
            simp only [Exit.jump, true_and]
            exact HK.out _ _ _ ST.out.2 ⟨_, _, _, _, _, _, _, _, _, _, _, _, _, _, _, _, _, _, _, _, _, _, _, _, _, _, _, _, _, _, _, _, _, _, _, _, _, _, _, _, _, _, _, _, _, _, _, _, _, _, _, _, _, _, _, _, _, _, rfl, ST.out.1, BB.out, rfl⟩
          · have E3 := hid e3
            clear e3
            by_cases e4 : s = [47, 46]
            · have E4 := hid e4
              have b4 := beq_yes e4
              clear e4
              have hd : dstep s out = ([47], out) := by unfold dstep; rw [if_neg (by rw [E1.out]; simp), if_neg (by rw [E2.out]; simp), if_neg (by rw [E3.out]; simp), if_pos E4.out]
              have ST := hid (HD.out.step HNE.out hd)
              clear hd
              go_wp2_with fail
              refine (hp_any s [46, 46, 47] _).mono ?_; rintro e1 wx ⟨rfl, hw⟩
              subst hw
              rw [E1.out]
              go_wp2_with fail
              refine (hp_any s [46, 47] _).mono ?_; rintro e1 wx ⟨rfl, hw⟩
              subst hw
              rw [E2.out]
              go_wp2_with fail
              refine (hp_any s [47, 46, 47] _).mono ?_; rintro e1 wx ⟨rfl, hw⟩
              subst hw
              rw [E3.out]
              go_wp2_with fail
              refine wp_goto ?_
              simp only [Exit.jump, true_and]
              exact HK.out _ _ _ ST.out.2 ⟨_, _, _, _, _, _, _, _, _, _, _, _, _, _, _, _, _, _, _, _, _, _, _, _, _, _, _, _, _, _, _, _, _, _, _, _, _, _, _, _, _, _, _, _, _, _, _, _, _, _, _, _, _, _, _, _, _, _, rfl, ST.out.1, BB.out, rfl⟩
            · have E4 := hid e4
              have b4 := beq_no e4
              clear e4
              rcases Bool.eq_false_or_eq_true (hp [47, 46, 46, 47] s) with e5 | e5
              · have E5 := hid e5
                have h3 := hp_length e5
                have h4 : 4 ≤ s.length := h3
                have h5 : (3 : Int) ≤ (s.length : Int) := by omega
                clear e5 h3
                have hd : dstep s out = (s.drop 3, back out) := by unfold dstep; rw [if_neg (by rw [E1.out]; simp), if_neg (by rw [E2.out]; simp), if_neg (by rw [E3.out]; simp), if_neg E4.out, if_pos E5.out]
                have ST := hid (HD.out.step HNE.out hd)
                clear hd
                go_wp2_with fail
                refine (hp_any s [46, 46, 47] _).mono ?_; rintro e1 wx ⟨rfl, hw⟩
                subst hw
                rw [E1.out]
                go_wp2_with fail
                refine (hp_any s [46, 47] _).mono ?_; rintro e1 wx ⟨rfl, hw⟩
                subst hw
                rw [E2.out]
                go_wp2_with fail
                refine (hp_any s [47, 46, 47] _).mono ?_; rintro e1 wx ⟨rfl, hw⟩
                subst hw
                rw [E3.out]
                go_wp2_with fail
                refine (hp_any s [47, 46, 46, 47] _).mono ?_; rintro e1 wx ⟨rfl, hw⟩
                subst hw
                rw [E5.out]
                go_wp2_with fail
                have C1 := hid (turn (back_any out wr.drew hlo))
                refine wp_region_still_tail 4 (by kernel_rfl) (by kernel_rfl) ?_
                simp only [List.take_succ_cons, List.take_zero, List.drop_succ_cons, List.drop_zero]
                repeat still_step
                still_call C1.out
                repeat still_step
                refine wpStill_nil ?_
                go_wp2_with fail
                refine wp_goto ?_
                simp only [Exit.jump, true_and]
                exact HK.out _ _ _ ST.out.2 ⟨_, _, _, _, _, _, _, _, _, _, _, _, _, _, _, _, _, _, _, _, _, _, _, _, _, _, _, _, _, _, _, _, _, _, _, _, _, _, _, _, _, _, _, _, _, _, _, _, _, _, _, _, _, _, _, _, _, _, rfl, ST.out.1, (below_drewN BB.out 1), rfl⟩
              · have E5 := hid e5
                clear e5
                by_cases e6 : s = [47, 46, 46]
                · have E6 := hid e6
                  have b6 := beq_yes e6
                  clear e6
                  have hd : dstep s out = ([47], back out) := by unfold dstep; rw [if_neg (by rw [E1.out]; simp), if_neg (by rw [E2.out]; simp), if_neg (by rw [E3.out]; simp), if_neg E4.out, if_neg (by rw [E5.out]; simp), if_pos E6.out]
                  have ST := hid (HD.out.step HNE.out hd)
                  clear hd
                  go_wp2_with fail
                  refine (hp_any s [46, 46, 47] _).mono ?_; rintro e1 wx ⟨rfl, hw⟩
                  subst hw
                  rw [E1.out]
                  go_wp2_with fail
                  refine (hp_any s [46, 47] _).mono ?_; rintro e1 wx ⟨rfl, hw⟩
                  subst hw
                  rw [E2.out]
                  go_wp2_with fail
                  refine (hp_any s [47, 46, 47] _).mono ?_; rintro e1 wx ⟨rfl, hw⟩
                  subst hw
                  rw [E3.out]
                  go_wp2_with fail
                  refine (hp_any s [47, 46, 46, 47] _).mono ?_; rintro e1 wx ⟨rfl, hw⟩
                  subst hw
                  rw [E5.out]
                  go_wp2_with fail
                  refine (back_any out _ hlo).mono ?_; rintro e1 wx ⟨rfl, hw⟩
                  subst hw
                  go_wp2_with fail
                  refine wp_goto ?_
                  simp only [Exit.jump, true_and]
                  exact HK.out _ _ _ ST.out.2 ⟨_, _, _, _, _, _, _, _, _, _, _, _, _, _, _, _, _, _, _, _, _, _, _, _, _, _, _, _, _, _, _, _, _, _, _, _, _, _, _, _, _, _, _, _, _, _, _, _, _, _, _, _, _, _, _, _, _, _, rfl, ST.out.1, BB.out, rfl⟩
                · have E6 := hid e6
                  have b6 := beq_no e6
                  clear e6
                  by_cases e7 : s = [46]
                  · have E7 := hid e7
                    have b7 := beq_yes e7
                    clear e7
                    have hd : dstep s out = ([], out) := by unfold dstep; rw [if_neg (by rw [E1.out]; simp), if_neg (by rw [E2.out]; simp), if_neg (by rw [E3.out]; simp), if_neg E4.out, if_neg (by rw [E5.out]; simp), if_neg E6.out, if_pos (.inl E7.out)]
                    have ST := hid (HD.out.step HNE.out hd)
                    clear hd
                    go_wp2_with fail
                    refine (hp_any s [46, 46, 47] _).mono ?_; rintro e1 wx ⟨rfl, hw⟩
                    subst hw
                    rw [E1.out]
                    go_wp2_with fail
                    refine (hp_any s [46, 47] _).mono ?_; rintro e1 wx ⟨rfl, hw⟩
                    subst hw
                    rw [E2.out]
                    go_wp2_with fail
                    refine (hp_any s [47, 46, 47] _).mono ?_; rintro e1 wx ⟨rfl, hw⟩
                    subst hw
                    rw [E3.out]
                    go_wp2_with fail
                    refine (hp_any s [47, 46, 46, 47] _).mono ?_; rintro e1 wx ⟨rfl, hw⟩
                    subst hw
                    rw [E5.out]
                    go_wp2_with fail
                    refine wp_goto ?_
                    simp only [Exit.jump, true_and]
                    exact HK.out _ _ _ ST.out.2 ⟨_, _, _, _, _, _, _, _, _, _, _, _, _, _, _, _, _, _, _, _, _, _, _, _, _, _, _, _, _, _, _, _, _, _, _, _, _, _, _, _, _, _, _, _, _, _, _, _, _, _, _, _, _, _, _, _, _, _, rfl, ST.out.1, BB.out, rfl⟩
                  · by_cases e8 : s = [46, 46]
                    · have E7 := hid e8
                      have b8 := beq_yes e8
                      have b7 := beq_no e7
                      clear e7 e8
                      have hd : dstep s out = ([], out) := by unfold dstep; rw [if_neg (by rw [E1.out]; simp), if_neg (by rw [E2.out]; simp), if_neg (by rw [E3.out]; simp), if_neg E4.out, if_neg (by rw [E5.out]; simp), if_neg E6.out, if_pos (.inr E7.out)]
                      have ST := hid (HD.out.step HNE.out hd)
                      clear hd
                      go_wp2_with fail
                      refine (hp_any s [46, 46, 47] _).mono ?_; rintro e1 wx ⟨rfl, hw⟩
                      subst hw
                      rw [E1.out]
                      go_wp2_with fail
                      refine (hp_any s [46, 47] _).mono ?_; rintro e1 wx ⟨rfl, hw⟩
                      subst hw
                      rw [E2.out]
                      go_wp2_with fail
                      refine (hp_any s [47, 46, 47] _).mono ?_; rintro e1 wx ⟨rfl, hw⟩
                      subst hw
                      rw [E3.out]
                      go_wp2_with fail
                      refine (hp_any s [47, 46, 46, 47] _).mono ?_; rintro e1 wx ⟨rfl, hw⟩
                      subst hw
                      rw [E5.out]
                      go_wp2_with fail
                      refine wp_goto ?_
                      simp only [Exit.jump, true_and]
                      exact HK.out _ _ _ ST.out.2 ⟨_, _, _, _, _, _, _, _, _, _, _, _, _, _, _, _, _, _, _, _, _, _, _, _, _, _, _, _, _, _, _, _, _, _, _, _, _, _, _, _, _, _, _, _, _, _, _, _, _, _, _, _, _, _, _, _, _, _, rfl, ST.out.1, BB.out, rfl⟩
                    · have E7 := hid e7
                      have E8 := hid e8
                      have b7 := beq_no e7
                      have b8 := beq_no e8
                      clear e7 e8
                      have hd : dstep s out = (s.drop (1 + up [47] (s.drop 1)), out ++ s.take (1 + up [47] (s.drop 1))) := by unfold dstep; rw [if_neg (by rw [E1.out]; simp), if_neg (by rw [E2.out]; simp), if_neg (by rw [E3.out]; simp), if_neg E4.out, if_neg (by rw [E5.out]; simp), if_neg E6.out, if_neg (by rintro (h | h); exact E7.out h; exact E8.out h)]
                      have ST := hid (HD.out.step HNE.out hd)
                      clear hd
                      have h1s : (1 : Int) ≤ (s.length : Int) := by have := List.length_pos_iff.2 HNE.out; omega
                      go_wp2_with fail
                      refine (hp_any s [46, 46, 47] _).mono ?_; rintro e1 wx ⟨rfl, hw⟩
                      subst hw
                      rw [E1.out]
                      go_wp2_with fail
                      refine (hp_any s [46, 47] _).mono ?_; rintro e1 wx ⟨rfl, hw⟩
                      subst hw
                      rw [E2.out]
                      go_wp2_with fail
                      refine (hp_any s [47, 46, 47] _).mono ?_; rintro e1 wx ⟨rfl, hw⟩
                      subst hw
                      rw [E3.out]
                      go_wp2_with fail
                      refine (hp_any s [47, 46, 46, 47] _).mono ?_; rintro e1 wx ⟨rfl, hw⟩
                      subst hw
                      rw [E5.out]
                      go_wp2_with fail
                      refine (upto_any s.tail [47] _ (by rw [List.length_tail]; omega)).mono ?_; rintro e1 w5 ⟨rfl, hb5⟩
                      have BB5 := hid (BB.out.trans (hb5.mono BB.out.size))
                      clear hb5
                      have hun := up_le [47] s.tail
                      rw [List.length_tail] at hun
                      rw [List.drop_one] at ST
                      generalize up [47] s.tail = n at hun ST ⊢
                      go_wp2_with fail
                      refine wp_goto ?_
                      simp only [Exit.jump, true_and]
                      refine HK.out _ _ _ ?_ ⟨_, _, _, _, _, _, _, _, _, _, _, _, _, _, _, _, _, _, _, _, _, _, _, _, _, _, _, _, _, _, _, _, _, _, _, _, _, _, _, _, _, _, _, _, _, _, _, _, _, _, _, _, _, _, _, _, _, _, rfl, ?_, BB5.out, by go_num⟩
                      · have h9 := ST.out.2
                        simp only [List.length_drop] at h9 ⊢
                        omega
                      · have h9 := ST.out.1
                        rw [List.take_add, List.drop_one] at h9
                        first | exact h9 | (rw [List.append_assoc]; exact h9) | (rw [← List.append_assoc] at h9; exact h9) | (rw [Nat.add_comm] at h9; exact h9) | (rw [Nat.add_comm, ← List.append_assoc] at h9; exact h9)
end Go.Proofs.Ytmelcnnpjooocaa
