/- triadref3.homes. -/
import Derived.Test.YtplahohlmiphoaaRec
import Derived.Test.YtplahohlmiphoaaFits
namespace Go.Proofs.Ytplahohlmiphoaa
open Go.RowKit
set_option linter.unusedVariables false

/-- where a row of steps is, over the document's disk -/
def XAt (w : World) (r : Nat) (fp : Nat → Prop) (n : Nat) (s : DS) (sts : List Stp) (i : Nat) (wr : World) (s1 : DS) (fp1 : Nat → Prop) : Prop :=
  i ≤ sts.length ∧ XDk wr r fp1 n s1 ∧ Chg fp w wr ∧ (∀ k, fp1 k → fp k ∨ w.heap.size ≤ k) ∧ runStps n s sts = runStps n s1 (sts.drop i) ∧ s1.ops ≤ s.ops + i

theorem XAt.start {w : World} {r : Nat} {fp : Nat → Prop} {n : Nat} {s : DS} {sts : List Stp} (h : XDk w r fp n s) : XAt w r fp n s sts 0 w s fp := ⟨Nat.zero_le _, h, Chg.refl _ _, fun k hk => .inl hk, rfl, by simp⟩
theorem XAt.new {w wr w' : World} {r n : Nat} {fp fp1 : Nat → Prop} {s s1 : DS} {sts : List Stp} {i : Nat} (h : XAt w r fp n s sts i wr s1 fp1) (hb : Below wr.heap.size wr w') : XAt w r fp n s sts i w' s1 fp1 := by
  obtain ⟨h1, h2, h3, h4, h5, h6⟩ := h
  exact ⟨h1, h2.chg (Chg.new hb NoFp) (fun _ _ h => h), h3.trans (Chg.new hb fp) (fun _ _ h => h), h4, h5, h6⟩
theorem XAt.step {w wr w' : World} {r n : Nat} {fp fp1 : Nat → Prop} {s s1 : DS} {sts : List Stp} {i : Nat} {st : Stp} (h : XAt w r fp n s sts i wr s1 fp1) (hst : sts[i]? = some st) (h0 : (doStp n s1 st).2 = 0)
    (ht : XTo wr r fp1 n (doStp n s1 st).1 w') : ∃ fp2, XAt w r fp n s sts (i + 1) w' (doStp n s1 st).1 fp2 := by
  obtain ⟨h1, h2, h3, h4, h5, h6⟩ := h
  obtain ⟨fp2, g1, g2, g3⟩ := ht
  have hlt := (List.getElem?_eq_some_iff.1 hst).1
  refine ⟨fp2, by omega, g1, h3.trans g2 (fun k hk hf => ?_), fun k hk => ?_, ?_, ?_⟩
  · rcases h4 k hf with h7 | h7
    · exact h7
    · omega
  · rcases g3 k hk with h7 | h7
    · exact h4 k h7
    · exact .inr (Nat.le_trans h3.size h7)
  · rw [h5, List.drop_eq_getElem_cons hlt]
    have he : sts[i] = st := (List.getElem?_eq_some_iff.1 hst).2
    rw [he, runStps, if_pos h0]
  · have := doStp_ops n s1 st
    push_cast; omega
theorem XAt.stop {w wr w' : World} {r n : Nat} {fp fp1 : Nat → Prop} {s s1 : DS} {sts : List Stp} {i : Nat} {st : Stp} (h : XAt w r fp n s sts i wr s1 fp1) (hst : sts[i]? = some st) (h0 : ¬ (doStp n s1 st).2 = 0)
    (ht : XTo wr r fp1 n (doStp n s1 st).1 w') : runStps n s sts = doStp n s1 st ∧ XTo w r fp n (doStp n s1 st).1 w' := by
  obtain ⟨h1, h2, h3, h4, h5, h6⟩ := h
  have hlt := (List.getElem?_eq_some_iff.1 hst).1
  refine ⟨?_, ?_⟩
  · rw [h5, List.drop_eq_getElem_cons hlt]
    have he : sts[i] = st := (List.getElem?_eq_some_iff.1 hst).2
    rw [he, runStps, if_neg h0]
  · obtain ⟨fp2, g1, g2, g3⟩ := ht
    refine ⟨fp2, g1, h3.trans g2 (fun k hk hf => ?_), fun k hk => ?_⟩
    · rcases h4 k hf with h7 | h7
      · exact h7
      · omega
    · rcases g3 k hk with h7 | h7
      · exact h4 k h7
      · exact .inr (Nat.le_trans h3.size h7)
theorem XAt.done {w wr : World} {r n : Nat} {fp fp1 : Nat → Prop} {s s1 : DS} {sts : List Stp} {i : Nat} (h : XAt w r fp n s sts i wr s1 fp1) (hi : i = sts.length) : runStps n s sts = (s1, 0) ∧ XTo w r fp n s1 wr := by
  obtain ⟨h1, h2, h3, h4, h5, h6⟩ := h
  exact ⟨by rw [h5, List.drop_of_length_le (by omega)]; rfl, fp1, h2, h3, h4⟩

theorem pad_pad504 {l : List UInt8} (h : l.length ≤ 504) : pad (pad504 l) = pad l := by
  unfold pad pad504
  rw [List.append_assoc, List.replicate_append_replicate, List.length_append, List.length_replicate]
  congr 2
  omega
theorem pad_pre504 {a l : List UInt8} (ha : a.length = 8) (h : l.length ≤ 504) : pad (a ++ pad504 l) = pad (a ++ l) := by
  unfold pad pad504
  rw [← List.append_assoc, List.append_assoc (a ++ l), List.replicate_append_replicate]
  simp only [List.length_append, List.length_replicate]
  congr 2
  omega
theorem dWrite_ext {n : Nat} {s : DS} {at_ : Int} {l l' : List UInt8} (h : l.length ≤ 512) (h' : l'.length ≤ 512) (hp : pad l = pad l') : dWrite n s at_ l = dWrite n s at_ l' := by
  unfold dWrite dWritten
  rw [hp]
  have e : (¬ (0 ≤ at_ ∧ at_ < (n : Int)) ∨ 512 < l.length) = (¬ (0 ≤ at_ ∧ at_ < (n : Int)) ∨ 512 < l'.length) := by
    apply propext
    constructor
    · rintro (h1 | h1)
      · exact .inl h1
      · omega
    · rintro (h1 | h1)
      · exact .inl h1
      · omega
  simp only [e]
theorem dWrite_504 {n : Nat} {s : DS} {at_ : Int} {l : List UInt8} (h : l.length ≤ 504) : dWrite n s at_ (pad504 l) = dWrite n s at_ l :=
  dWrite_ext (by simp [pad504]; omega) (by omega) (pad_pad504 h)
theorem dWrite_pre {n : Nat} {s : DS} {at_ : Int} {a l : List UInt8} (ha : a.length = 8) (h : l.length ≤ 504) : dWrite n s at_ (a ++ pad504 l) = dWrite n s at_ (a ++ l) :=
  dWrite_ext (by simp [pad504, ha]; omega) (by simp [ha]; omega) (pad_pre504 ha h)

theorem homeSteps_get {ls : List (Int × List UInt8)} {j : Nat} {q : Int × List UInt8} (h : ls[j]? = some q) : (finSteps ls)[j]? = some (.write q.1 q.2) := by
  have hlt := (List.getElem?_eq_some_iff.1 h).1
  unfold finSteps homeSteps
  rw [List.getElem?_append_left (by simp; omega), List.getElem?_map, h]
  rfl
theorem finSteps_length (ls : List (Int × List UInt8)) : (finSteps ls).length = ls.length + 3 := by simp [finSteps, homeSteps]
theorem finSteps_end (ls : List (Int × List UInt8)) : (finSteps ls)[ls.length]? = some .sync ∧ (finSteps ls)[ls.length + 1]? = some (.write 0 []) ∧ (finSteps ls)[ls.length + 2]? = some .sync := by
  have hl : (homeSteps ls).length = ls.length := by simp [homeSteps]
  unfold finSteps
  refine ⟨?_, ?_, ?_⟩ <;> rw [List.getElem?_append_right (by omega), hl]
  · rw [Nat.sub_self]; rfl
  · rw [Nat.add_sub_cancel_left]; rfl
  · rw [Nat.add_sub_cancel_left]; rfl

set_option maxRecDepth 100000 in
set_option maxHeartbeats 4000000 in
theorem xhomes_any (w : World) (r : Nat) (fp : Nat → Prop) (n : Nat) (s : DS) (a : Option Addr) (c : Nat) (ls : List (Int × List UInt8)) (h : XDk w r fp n s) (hp : IsPuts w fp a ls) (hpo : PutsOut fp a) (hl : ls.length ≤ 400) (hb : ∀ q ∈ ls, q.2.length ≤ 504) (ho : s.ops + 1000 ≤ 1000000) :
    Calls Try.prog 50 #[.pointer (some ⟨r, 0, none⟩), .slice a ls.length c] w fun e w' => e = .returned (.int .i64 (runStps n s (finSteps ls)).2) ∧ XTo w r fp n (runStps n s (finSteps ls)).1 w' := by
  have H0 : Hid (XAt w r fp n s (finSteps ls) 0 w s fp) := hid (XAt.start h)
  have HP := hid hp
  have HB := hid hb
  have HFL := hid (finSteps_length ls)
  clear h hp hb
  go_enter Try.func50, Try.ntmps50
  go_wp2_with fail
  go_loopw [5] (fun i wr => ∃ (j : Nat) (s1 : DS) (fp1 : Nat → Prop), j ≤ ls.length ∧ i = .int .i64 j ∧ XAt w r fp n s (finSteps ls) j wr s1 fp1) (fun i _ => ls.length + 1 - (intOf i).toNat)
  case atStart => exact ⟨0, s, fp, Nat.zero_le _, rfl, H0.out⟩
  case round =>
    obtain ⟨j, s1, fp1, hj, rfl, hat⟩ := hrel
    have AT := hid hat
    clear hat H0
    have PU := hid (HP.out.chg hpo AT.out.2.2.1 AT.out.2.2.2.1)
    by_cases hlt : j < ls.length
    · obtain ⟨ab, ao, q, p, pc, rfl, hq, k0, k1, hfar⟩ := PU.out j hlt
      have HQ := hid hq
      have HF := hid hfar
      have hql := HB.out q (List.mem_of_getElem? hq)
      have HK : Hid (∀ w', Below wr.heap.size wr w' → w'.cell? ⟨ab, ao + j * 2, none⟩ = some (.int .i64 q.1) ∧ w'.cell? ⟨ab, ao + j * 2 + 1, none⟩ = some (.slice p q.2.length pc)) := hid (fun w' hb =>
        ⟨(hb.cell (p := ⟨ab, ao + j * 2, none⟩) (World.block_lt_of_cell? wr ⟨ab, ao + j * 2, none⟩ k0)).trans k0, (hb.cell (p := ⟨ab, ao + j * 2 + 1, none⟩) (World.block_lt_of_cell? wr ⟨ab, ao + j * 2 + 1, none⟩ k1)).trans k1⟩)
      clear hq hfar k0 k1
      go_wp2_with fail
      refine wp_region_plan (fun w' => w'.cell? ⟨ab, ao + j * 2, none⟩ = some (.int .i64 q.1) ∧ w'.cell? ⟨ab, ao + j * 2 + 1, none⟩ = some (.slice p q.2.length pc)) (fun j => !([11, 12, 13].contains j)) (fun j => [12, 13].contains j)
        (.of [0, 1, 2, 3, 4, 5, 6, 7, 8, 9, 10, 11, 12, 13]) (by kernel_rfl) (by kernel_rfl) rfl (by kernel_rfl) (by kernel_rfl) (HK.out _ (below_drewN (Below.refl _ _) 1)) ?_
      iterate 11 (apply wpPlan_val; (case ho => rfl); (case hst => rfl); (case hw => rfl); (case hv => intro w' hS; obtain ⟨c0, c1⟩ := hS; go_simp; first | done | rfl); intro K hK; go_simp; refine hK _ ?_; clear hK K)
      have BD : Hid (Below wr.heap.size wr wr.drew) := hid (below_drewN (Below.refl _ _) 1)
      refine wpPlan_list rfl rfl rfl (fun K hK => ?_)
      refine wpList_step (fun K2 hK2 => ?_)
      go_simp
      refine (page_any wr.drew (.slice p q.2.length pc) q.2 (HF.out.1.new BD.out) hql).mono ?_
      rintro e1 w4 ⟨g, rfl, hg, hblk, hb4⟩
      have B4 := hid (BD.out.trans hb4)
      have hp5 : (pad504 q.2).length = 504 := by simp [pad504]; omega
      have K4 := hid (Bs.blk hblk hp5.symm (by simp [maxLen]))
      have A4 := hid (AT.out.new B4.out)
      clear hg hblk hb4
      go_simp
      refine hK2 _ _ ?_
      clear hK2 K2
      simp only [wpList]
      refine hK _ _ (fun _ => HK.out _ B4.out) ?_
      clear hK K
      refine wpPlan_list rfl rfl rfl (fun K hK => ?_)
      refine wpList_step (fun K2 hK2 => ?_)
      go_simp
      refine (xWrite_any w4 r fp1 n s1 q.1 _ (pad504 q.2) A4.out.2.1 K4.out (by omega) (by have := AT.out.2.2.2.2.2; omega)).mono ?_
      rintro e1 w6 ⟨rfl, hto⟩
      rw [dWrite_504 hql] at hto ⊢
      have TO : Hid (XTo w4 r fp1 n (doStp n s1 (.write q.1 q.2)).1 w6) := hid hto
      have SG := hid (homeSteps_get HQ.out)
      clear hto
      go_simp
      refine hK2 _ _ ?_
      clear hK2 K2
      simp only [wpList]
      refine hK _ _ (fun h => by cases h) ?_
      clear hK K
      refine wpPlan_list rfl rfl rfl (fun K hK => ?_)
      refine wpList_step (fun K2 hK2 => ?_)
      go_simp
      refine hK2 _ _ ?_
      clear hK2 K2
      simp only [wpList]
      refine hK _ _ (fun h => by cases h) ?_
      clear hK K
      refine wpPlan_nil ?_
      simp only [Qn]
      by_cases h0 : (doStp n s1 (.write q.1 q.2)).2 = 0
      · have ST := hid (A4.out.step SG.out h0 TO.out)
        have h0' : (dWrite n s1 q.1 q.2).2 = 0 := h0
        rw [h0']
        clear h0 h0'
        go_wp2_with fail
        go_roundw
        case rel => obtain ⟨fp2, h9⟩ := ST.out; exact ⟨j + 1, _, fp2, by omega, by go_num, h9⟩
        case measure => simp [intOf]; omega
      · have ST := hid (A4.out.stop SG.out h0 TO.out)
        have h0' : ((dWrite n s1 q.1 q.2).2 == 0) = false := by
          have h1 : ¬ (dWrite n s1 q.1 q.2).2 = 0 := h0
          simpa using h1
        clear h0
        go_wp2_with fail
        go_ret
        rw [ST.out.1]
        exact ⟨rfl, ST.out.2⟩
    · obtain rfl : j = ls.length := by omega
      have SE := hid (finSteps_end ls)
      have OB := hid AT.out.2.2.2.2.2
      go_wp2_with fail
      refine (xSync_any wr r fp1 n s1 AT.out.2.1 (by have := OB.out; omega)).mono ?_
      rintro e1 w5 ⟨rfl, hd5, hc5, hs5⟩
      have TO : Hid (XTo wr r fp1 n (doStp n s1 .sync).1 w5) := hid ⟨fp1, hd5, hc5, fun _ h => .inl h⟩
      clear hd5 hc5 hs5
      by_cases h0 : (doStp n s1 .sync).2 = 0
      · have h9 := AT.out.step SE.out.1 h0 TO.out
        have h0' : (dSync s1).2 = 0 := h0
        rw [h0']
        clear h0 h0'
        obtain ⟨fp2, h9⟩ := h9
        have A5 := hid h9
        clear h9 TO
        generalize (doStp n s1 Stp.sync).1 = s2 at *
        go_wp2_with fail
        refine (xWrite_any w5 r fp2 n s2 0 (.slice none 0 0) [] A5.out.2.1 (Rd.nil _ _) (by simp) (by have := A5.out.2.2.2.2.2; omega)).mono ?_
        rintro e1 w6 ⟨rfl, hto⟩
        have TO : Hid (XTo w5 r fp2 n (doStp n s2 (.write 0 [])).1 w6) := hid hto
        clear hto
        by_cases h0 : (doStp n s2 (.write 0 [])).2 = 0
        · have h9 := A5.out.step SE.out.2.1 h0 TO.out
          have h0' : (dWrite n s2 0 []).2 = 0 := h0
          rw [h0']
          clear h0 h0'
          obtain ⟨fp3, h9⟩ := h9
          have A6 := hid h9
          clear h9 TO
          generalize (doStp n s2 (.write 0 [])).1 = s3 at *
          go_wp2_with fail
          refine (xSync_any w6 r fp3 n s3 A6.out.2.1 (by have := A6.out.2.2.2.2.2; omega)).mono ?_
          rintro e1 w7 ⟨rfl, hd5, hc5, hs5⟩
          have TO : Hid (XTo w6 r fp3 n (doStp n s3 .sync).1 w7) := hid ⟨fp3, hd5, hc5, fun _ h => .inl h⟩
          clear hd5 hc5 hs5
          have FI : Hid (runStps n s (finSteps ls) = doStp n s3 .sync ∧ XTo w r fp n (doStp n s3 .sync).1 w7) := hid (by
            by_cases h0 : (doStp n s3 .sync).2 = 0
            · obtain ⟨fp4, h9⟩ := A6.out.step SE.out.2.2 h0 TO.out
              have h8 := h9.done (by rw [HFL.out])
              refine ⟨?_, h8.2⟩
              rw [h8.1, ← h0]
            · exact A6.out.stop SE.out.2.2 h0 TO.out)
          go_wp2_with fail
          go_ret
          rw [FI.out.1]
          exact ⟨rfl, FI.out.2⟩
        · have ST := hid (A5.out.stop SE.out.2.1 h0 TO.out)
          have h0' : ((dWrite n s2 0 []).2 == 0) = false := by
            have h1 : ¬ (dWrite n s2 0 []).2 = 0 := h0
            simpa using h1
          clear h0
          go_wp2_with fail
          go_ret
          rw [ST.out.1]
          exact ⟨rfl, ST.out.2⟩
      · have ST := hid (AT.out.stop SE.out.1 h0 TO.out)
        have h0' : ((dSync s1).2 == 0) = false := by
          have h1 : ¬ (dSync s1).2 = 0 := h0
          simpa using h1
        clear h0
        go_wp2_with fail
        go_ret
        rw [ST.out.1]
        exact ⟨rfl, ST.out.2⟩

end Go.Proofs.Ytplahohlmiphoaa
