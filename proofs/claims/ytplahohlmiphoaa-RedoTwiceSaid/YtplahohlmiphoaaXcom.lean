/- triadref3.Commit. -/
import Derived.Test.YtplahohlmiphoaaLit
namespace Go.Proofs.Ytplahohlmiphoaa
open Go.RowKit
set_option linter.unusedVariables false

theorem logSteps_get {ls : List (Int × List UInt8)} {j : Nat} {q : Int × List UInt8} (h : ls[j]? = some q) : (comSteps ls)[j]? = some (.write (1 + (j : Int)) (le8 q.1 ++ q.2)) := by
  have hlt := (List.getElem?_eq_some_iff.1 h).1
  unfold comSteps logSteps
  rw [List.getElem?_append_left (by simp; omega), List.getElem?_mapIdx, h]
  rfl
theorem comSteps_end (ls : List (Int × List UInt8)) : (comSteps ls)[ls.length]? = some .sync ∧ (comSteps ls)[ls.length + 1]? = some (.write 0 (markB ++ le8 ls.length)) ∧ (comSteps ls)[ls.length + 2]? = some .sync := by
  have hl : (logSteps ls).length = ls.length := logSteps_length ls
  unfold comSteps
  refine ⟨?_, ?_, ?_⟩ <;> rw [List.getElem?_append_right (by omega), hl]
  · rw [Nat.sub_self]; rfl
  · rw [Nat.add_sub_cancel_left]; rfl
  · rw [Nat.add_sub_cancel_left]; rfl

theorem XTo.after {w wr w' : World} {r n : Nat} {fp fp1 : Nat → Prop} {s' : DS} (hc : Chg fp w wr) (hf : ∀ k, fp1 k → fp k ∨ w.heap.size ≤ k) (ht : XTo wr r fp1 n s' w') : XTo w r fp n s' w' := by
  obtain ⟨fp2, g1, g2, g3⟩ := ht
  refine ⟨fp2, g1, hc.trans g2 (fun k hk hf1 => ?_), fun k hk => ?_⟩
  · rcases hf k hf1 with h7 | h7
    · exact h7
    · omega
  · rcases g3 k hk with h7 | h7
    · exact hf k h7
    · exact .inr (Nat.le_trans hc.size h7)

set_option maxRecDepth 100000 in
set_option maxHeartbeats 8000000 in
theorem xcom_any (w : World) (r : Nat) (fp : Nat → Prop) (n : Nat) (s : DS) (a : Option Addr) (c : Nat) (ls : List (Int × List UInt8)) (h : XDk w r fp n s) (hp : IsPuts w fp a ls) (hpo' : ¬ ls.length = 0 → PutsOut fp a) (hl : ls.length ≤ 1000) (hb : ∀ q ∈ ls, q.2.length ≤ 1000) (ho : s.ops + 3000 ≤ 1000000) :
    Calls Try.prog 31 #[.pointer (some ⟨r, 0, none⟩), .slice a ls.length c] w fun e w' => e = .returned (.int .i64 (cmt n s ls).2) ∧ XTo w r fp n (cmt n s ls).1 w' := by
  have H := hid h
  have HP := hid hp
  have HF := hid (fits_any w r fp fp n s a c ls h hp hl hb)
  have HCL := hid (comSteps_length ls)
  clear h hp hb
  generalize hck : chk n ls = ck at HF
  by_cases h0 : ck = 0
  · subst h0
    have CK0 := hid hck
    clear hck
    obtain ⟨hl4, hl0, hqs⟩ := chk_zero CK0.out
    have hpo := hpo' hl0
    have QS := hid hqs
    clear hqs
    go_enter Try.func31, Try.ntmps31
    go_wp2_with fail
    refine HF.out.mono ?_
    rintro e1 w0 ⟨rfl, hb0⟩
    have A0 : Hid (XAt w r fp n s (comSteps ls) 0 w0 s fp) := hid ((XAt.start H.out).new hb0)
    clear hb0 HF
    go_wp2_with fail
    go_loopw [5, 6] (fun e i wr => ∃ (j : Nat) (ev : Int), j ≤ ls.length ∧ i = .int .i64 j ∧ e = .int .i64 ev ∧ ((ev = 0 ∧ ∃ (s1 : DS) (fp1 : Nat → Prop), XAt w r fp n s (comSteps ls) j wr s1 fp1) ∨ (¬ ev = 0 ∧ ∃ s', runStps n s (comSteps ls) = (s', ev) ∧ XTo w r fp n s' wr))) (fun _ i _ => ls.length + 1 - (intOf i).toNat)
    case atStart => exact ⟨0, 0, Nat.zero_le _, rfl, rfl, .inl ⟨rfl, s, fp, A0.out⟩⟩
    case round =>
      obtain ⟨j, ev, hj, rfl, rfl, hcase⟩ := hrel
      clear A0
      rcases hcase with ⟨rfl, s1, fp1, hat⟩ | ⟨hev, s', hrun, hto⟩
      · have AT := hid hat
        clear hat
        have PU := hid (HP.out.chg hpo AT.out.2.2.1 AT.out.2.2.2.1)
        by_cases hlt : j < ls.length
        · obtain ⟨ab, ao, q, p, pc, rfl, hq, k0, k1, hfar⟩ := PU.out j hlt
          have HQ := hid hq
          have HFA := hid hfar
          have hql := QS.out q (List.mem_of_getElem? hq)
          have HK : Hid (∀ w', Below wr.heap.size wr w' → w'.cell? ⟨ab, ao + j * 2, none⟩ = some (.int .i64 q.1) ∧ w'.cell? ⟨ab, ao + j * 2 + 1, none⟩ = some (.slice p q.2.length pc)) := hid (fun w' hb =>
            ⟨(hb.cell (p := ⟨ab, ao + j * 2, none⟩) (World.block_lt_of_cell? wr ⟨ab, ao + j * 2, none⟩ k0)).trans k0, (hb.cell (p := ⟨ab, ao + j * 2 + 1, none⟩) (World.block_lt_of_cell? wr ⟨ab, ao + j * 2 + 1, none⟩ k1)).trans k1⟩)
          have hwj : IntKind.i64.wrap (1 + (j : Int)) = 1 + (j : Int) := by simp [IntKind.wrap, IntKind.bits, IntKind.signed]; omega
          clear hq hfar k0 k1
          go_wp2_with fail
          refine wp_region_plan (fun w' => w'.cell? ⟨ab, ao + j * 2, none⟩ = some (.int .i64 q.1) ∧ w'.cell? ⟨ab, ao + j * 2 + 1, none⟩ = some (.slice p q.2.length pc)) (fun j => !([8, 14, 15, 16, 17].contains j)) (fun j => [16, 17].contains j)
            (.of [0, 1, 2, 3, 4, 5, 6, 7, 9, 10, 11, 12, 13, 8, 14, 15, 16, 17]) (by kernel_rfl) (by kernel_rfl) rfl (by kernel_rfl) (by kernel_rfl) (HK.out _ (below_drewN (Below.refl _ _) 1)) ?_
          iterate 13 (apply wpPlan_val; (case ho => rfl); (case hst => rfl); (case hw => rfl); (case hv => intro w' hS; obtain ⟨c0, c1⟩ := hS; go_simp; first | done | rfl); intro K hK; go_simp; refine hK _ ?_; clear hK K)
          have BD : Hid (Below wr.heap.size wr wr.drew) := hid (below_drewN (Below.refl _ _) 1)
          refine wpPlan_list rfl rfl rfl (fun K hK => ?_)
          refine wpList_step (fun K2 hK2 => ?_)
          go_simp
          refine (xcEnc_any wr.drew.heap.size (.slice none 0 0) [] q.1 wr.drew (World.ownsRow_nil _ _ _ _) (Nat.le_refl _) (by simp)).mono ?_
          rintro e1 w3 ⟨v3, rfl, ho3, hb3⟩
          rw [List.nil_append] at ho3
          obtain ⟨p3, c3, rfl⟩ := own_shape ho3
          have O3 : Hid (w3.ownsRow wr.heap.size 5 1 (.slice p3 8 c3) 8 (bv (le8 q.1))) := hid ho3
          have B3 := hid (BD.out.trans hb3)
          clear ho3 hb3
          go_simp
          refine hK2 _ _ ?_
          clear hK2 K2
          simp only [wpList]
          refine hK _ _ (fun _ => HK.out _ B3.out) ?_
          clear hK K
          refine wpPlan_list rfl rfl rfl (fun K hK => ?_)
          refine wpList_step (fun K2 hK2 => ?_)
          go_simp
          refine (page_any w3 (.slice p q.2.length pc) q.2 (HFA.out.1.new B3.out) hql.2.2).mono ?_
          rintro e1 w4 ⟨g, rfl, hg, hblk, hb4⟩
          have B4 := hid (B3.out.trans (hb4.mono B3.out.size))
          have hp5 : (pad504 q.2).length = 504 := by simp [pad504]; omega
          have K4 := hid (Bs.blk hblk hp5.symm (by simp [maxLen]))
          have O4 := hid (own_chg O3.out (Chg.new hb4 NoFp) (fun _ _ h => h))
          clear hg hblk hb4
          go_simp
          refine hK2 _ _ ?_
          clear hK2 K2
          simp only [wpList]
          refine hK _ _ (fun _ => HK.out _ B4.out) ?_
          clear hK K
          refine wpPlan_list rfl rfl rfl (fun K hK => ?_)
          refine wpList_append_rd rfl _ _ 26 rfl wr.heap.size 5 _ 1 1 Try.underlying26 infoU8 rfl (by decide) _ 8 (bv (le8 q.1)) rfl O4.out _ 504 (bv (pad504 q.2)) rfl (by have h := K4.out; unfold Bs at h; rw [hp5] at h; exact h) (bv_one _) (by simp only [maxLen]; omega) (by omega) B4.out.size ?_
          intro pp cc w5 hown5 hg5 hb5
          have B5 := hid (B4.out.grown hg5 B4.out.size (fun k hk => (O4.out.lt k hk).1))
          have V5 : Hid (Bs w5 (.slice pp (8 + 504) cc) (le8 q.1 ++ pad504 q.2)) := hid (by
            have h5 := Rd.of_own hown5
            rw [← bv_append] at h5
            unfold Bs
            rw [List.length_append, le8_length, hp5]
            exact h5)
          have A5 := hid (AT.out.new B5.out)
          clear hown5 hg5 hb5
          simp only [wpList]
          refine hK _ _ (fun _ => HK.out _ B5.out) ?_
          clear hK K
          refine wpPlan_list rfl rfl rfl (fun K hK => ?_)
          refine wpList_step (fun K2 hK2 => ?_)
          go_simp
          refine (xWrite_any w5 r fp1 n s1 (1 + (j : Int)) _ (le8 q.1 ++ pad504 q.2) A5.out.2.1 V5.out (by rw [List.length_append, le8_length, hp5]; omega) (by have := AT.out.2.2.2.2.2; omega)).mono ?_
          rintro e1 w6 ⟨rfl, hto⟩
          rw [dWrite_pre (le8_length _) hql.2.2] at hto ⊢
          have TO : Hid (XTo w5 r fp1 n (doStp n s1 (.write (1 + (j : Int)) (le8 q.1 ++ q.2))).1 w6) := hid hto
          have SG := hid (logSteps_get HQ.out)
          clear hto
          go_simp
          refine hK2 _ _ ?_
          clear hK2 K2
          simp only [wpList]
          refine hK _ _ (fun h => by cases h) ?_
          clear hK K
          refine wpPlan_list rfl rfl rfl (fun K hK => ?_)
          refine wpList_step (fun K2 hK2 => ?_)
          go_simp
          refine hK2 _ _ ?_
          clear hK2 K2
          simp only [wpList]
          refine hK _ _ (fun h => by cases h) ?_
          clear hK K
          refine wpPlan_nil ?_
          simp only [Qn]
          by_cases h0 : (doStp n s1 (.write (1 + (j : Int)) (le8 q.1 ++ q.2))).2 = 0
          · have ST := hid (A5.out.step SG.out h0 TO.out)
            have h0' : (dWrite n s1 (1 + (j : Int)) (le8 q.1 ++ q.2)).2 = 0 := h0
            rw [h0']
            clear h0 h0'
            go_wp2_with fail
            go_roundw
            case rel => obtain ⟨fp2, h9⟩ := ST.out; exact ⟨j + 1, 0, by omega, by go_num, rfl, .inl ⟨rfl, _, fp2, h9⟩⟩
            case measure => simp [intOf]; omega
          · have ST := hid (A5.out.stop SG.out h0 TO.out)
            have h0' : ¬ (dWrite n s1 (1 + (j : Int)) (le8 q.1 ++ q.2)).2 = 0 := h0
            have H0 := hid h0'
            clear h0 h0'
            go_wp2_with fail
            go_roundw
            case rel => exact ⟨j + 1, _, by omega, by go_num, rfl, .inr ⟨H0.out, _, ST.out.1, ST.out.2⟩⟩
            case measure => simp [intOf]; omega
        · obtain rfl : j = ls.length := by omega
          have SE := hid (comSteps_end ls)
          have OB := hid AT.out.2.2.2.2.2
          go_wp2_with fail
          refine (xSync_any wr r fp1 n s1 AT.out.2.1 (by have := OB.out; omega)).mono ?_
          rintro e1 w5 ⟨rfl, hd5, hc5, hs5⟩
          have TO : Hid (XTo wr r fp1 n (doStp n s1 .sync).1 w5) := hid ⟨fp1, hd5, hc5, fun _ h => .inl h⟩
          clear hd5 hc5 hs5
          by_cases h0 : (doStp n s1 .sync).2 = 0
          · have h9 := AT.out.step SE.out.1 h0 TO.out
            have h0' : (dSync s1).2 = 0 := h0
            rw [h0']
            clear h0 h0'
            obtain ⟨fp2, h9⟩ := h9
            have A5 := hid h9
            clear h9 TO
            generalize (doStp n s1 Stp.sync).1 = s2 at *
            have hcv := mark_lit w5
            go_wp2_with fail
            have hba : Below w5.heap.size w5 (w5.alloc (Obj.cells (bv markB).toArray 5 (8, 9))) := (Below.refl _ _).alloc (Nat.le_refl _) _
            have hbk := mark_read w5
            generalize w5.alloc (Obj.cells (bv markB).toArray 5 (8, 9)) = wa at *
            have AA := hid (A5.out.new hba)
            have BK := hid hbk
            clear hba hbk hcv
            refine (xcEncL_any ⟨w5.heap.size, 0, none⟩ markB (ls.length : Int) wa BK.out (by decide)).mono ?_
            rintro e1 w4 ⟨v4, rfl, ho4, hb4⟩
            obtain ⟨p4, c4, rfl⟩ := own_shape ho4
            have A4 := hid (AA.out.new hb4)
            have V4 : Hid (Bs w4 (.slice p4 (markB.length + 8) c4) (markB ++ le8 ls.length)) := hid (by
              have h5 := Rd.of_own ho4
              unfold Bs
              rw [List.length_append, le8_length]
              exact h5)
            clear ho4 hb4
            go_wp2_with fail
            refine (xWrite_any w4 r fp2 n s2 0 (.slice p4 (markB.length + 8) c4) (markB ++ le8 ls.length) A4.out.2.1 V4.out (by rw [List.length_append, le8_length]; decide) (by have := A4.out.2.2.2.2.2; omega)).mono ?_
            rintro e1 w6 ⟨rfl, hto⟩
            have TO : Hid (XTo w4 r fp2 n (doStp n s2 (.write 0 (markB ++ le8 ls.length))).1 w6) := hid hto
            clear hto
            by_cases h0 : (doStp n s2 (.write 0 (markB ++ le8 ls.length))).2 = 0
            · have h9 := A4.out.step SE.out.2.1 h0 TO.out
              have h0' : (dWrite n s2 0 (markB ++ le8 ls.length)).2 = 0 := h0
              rw [h0']
              clear h0 h0'
              obtain ⟨fp3, h9⟩ := h9
              have A6 := hid h9
              clear h9 TO
              generalize (doStp n s2 (.write 0 (markB ++ le8 ls.length))).1 = s3 at *
              go_wp2_with fail
              refine (xSync_any w6 r fp3 n s3 A6.out.2.1 (by have := A6.out.2.2.2.2.2; omega)).mono ?_
              rintro e1 w7 ⟨rfl, hd5, hc5, hs5⟩
              have TO : Hid (XTo w6 r fp3 n (doStp n s3 .sync).1 w7) := hid ⟨fp3, hd5, hc5, fun _ h => .inl h⟩
              clear hd5 hc5 hs5
              by_cases h0 : (doStp n s3 .sync).2 = 0
              · obtain ⟨fp4, h9⟩ := A6.out.step SE.out.2.2 h0 TO.out
                have h8 := h9.done (by rw [HCL.out])
                have A7 := hid h9
                have HE : Hid (cmt n s ls = runStps n (doStp n s3 .sync).1 (finSteps ls)) := hid (by unfold cmt; rw [if_pos CK0.out, h8.1, if_pos rfl])
                have h0' : (dSync s3).2 = 0 := h0
                rw [h0']
                clear h0 h0' h8 h9
                have OPS : Hid ((doStp n s3 .sync).1.ops + 1000 ≤ 1000000) := hid (by have := A7.out.2.2.2.2.2; omega)
                have PU7 := hid (HP.out.chg hpo A7.out.2.2.1 A7.out.2.2.2.1)
                have PO7 : Hid (PutsOut fp4 a) := hid (fun ad had hf => by
                  subst had
                  rcases A7.out.2.2.2.1 _ hf with h9 | h9
                  · exact hpo ad rfl h9
                  · obtain ⟨ab, ao, q, p, pc, he, _, k0, _⟩ := HP.out 0 (by omega)
                    cases he
                    have h8 : ab < w.heap.size := World.block_lt_of_cell? w ⟨ab, ao + 0 * 2, none⟩ k0
                    have h7 : w.heap.size ≤ ab := h9
                    omega)
                go_wp2_with fail
                refine (xhomes_any w7 r fp4 n (doStp n s3 .sync).1 a c ls A7.out.2.1 PU7.out PO7.out hl4 (fun q hq => (QS.out q hq).2.2) OPS.out).mono ?_
                rintro e1 w8 ⟨rfl, hto⟩
                have T8 := hid (XTo.after A7.out.2.2.1 A7.out.2.2.2.1 hto)
                clear hto
                go_wp2_with fail
                go_ret
                rw [HE.out]
                exact ⟨rfl, T8.out⟩
              · have ST := hid (A6.out.stop SE.out.2.2 h0 TO.out)
                have HE : Hid (cmt n s ls = doStp n s3 .sync) := hid (by unfold cmt; rw [if_pos CK0.out, ST.out.1, if_neg h0])
                have h0' : ((dSync s3).2 == 0) = false := by
                  have h1 : ¬ (dSync s3).2 = 0 := h0
                  simpa using h1
                clear h0
                go_wp2_with fail
                go_ret
                rw [HE.out]
                exact ⟨rfl, ST.out.2⟩
            · have ST := hid (A4.out.stop SE.out.2.1 h0 TO.out)
              have HE : Hid (cmt n s ls = doStp n s2 (.write 0 (markB ++ le8 ls.length))) := hid (by unfold cmt; rw [if_pos CK0.out, ST.out.1, if_neg h0])
              have h0' : ((dWrite n s2 0 (markB ++ le8 ls.length)).2 == 0) = false := by
                have h1 : ¬ (dWrite n s2 0 (markB ++ le8 ls.length)).2 = 0 := h0
                simpa using h1
              clear h0
              go_wp2_with fail
              go_ret
              rw [HE.out]
              exact ⟨rfl, ST.out.2⟩
          · have ST := hid (AT.out.stop SE.out.1 h0 TO.out)
            have HE : Hid (cmt n s ls = doStp n s1 .sync) := hid (by unfold cmt; rw [if_pos CK0.out, ST.out.1, if_neg h0])
            have h0' : ((dSync s1).2 == 0) = false := by
              have h1 : ¬ (dSync s1).2 = 0 := h0
              simpa using h1
            clear h0
            go_wp2_with fail
            go_ret
            rw [HE.out]
            exact ⟨rfl, ST.out.2⟩
      · have HR := hid hrun
        have HE : Hid (cmt n s ls = (s', ev)) := hid (by unfold cmt; rw [if_pos CK0.out, HR.out, if_neg hev])
        have hev' : (ev == 0) = false := by simpa using hev
        have TO := hid hto
        clear hrun hto hev
        by_cases hlt : j < ls.length
        · go_wp2_with fail
          go_ret
          rw [HE.out]
          exact ⟨rfl, TO.out⟩
        · go_wp2_with fail
          go_ret
          rw [HE.out]
          exact ⟨rfl, TO.out⟩
  · have HE : Hid (cmt n s ls = (s, ck)) := hid (by unfold cmt; rw [if_neg (by rw [hck]; exact h0), hck])
    have h0' : (ck == 0) = false := by simpa using h0
    clear hck h0
    go_enter Try.func31, Try.ntmps31
    go_wp2_with fail
    refine HF.out.mono ?_
    rintro e1 w0 ⟨rfl, hb0⟩
    have B00 := hid hb0
    clear hb0 HF
    go_wp2_with fail
    refine wp_loop_rounds 1 ?_
    rw [rounds_succ]
    have hlz : 0 < ls.length ∨ ls.length = 0 := by omega
    rcases hlz with hlz | hlz
    · go_wp2_with fail
      go_ret
      rw [HE.out]
      exact ⟨rfl, fp, H.out.chg (Chg.new B00.out NoFp) (fun _ _ h => h), Chg.new B00.out fp, fun k h => .inl h⟩
    · go_wp2_with fail
      go_ret
      rw [HE.out]
      exact ⟨rfl, fp, H.out.chg (Chg.new B00.out NoFp) (fun _ _ h => h), Chg.new B00.out fp, fun k h => .inl h⟩
end Go.Proofs.Ytplahohlmiphoaa
