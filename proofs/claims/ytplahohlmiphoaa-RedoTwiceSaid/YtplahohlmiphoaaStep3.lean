/- redo.all: steps, one behind the other, till one answers an error. -/
import Derived.Test.YtplahohlmiphoaaStep2
namespace Go.Proofs.Ytplahohlmiphoaa
open Go.RowKit
set_option linter.unusedVariables false

/-- a row of steps -/
def IsAll (w : World) (d : Nat) (fp : Nat → Prop) (a : Option Addr) (sts : List Stp) : Prop :=
  ∀ i, i < sts.length → ∃ ab ao v st, a = some ⟨ab, ao, none⟩ ∧ sts[i]? = some st ∧ w.cell? ⟨ab, ao + i, none⟩ = some v ∧ ¬ fp ab ∧ IsStp w d fp v st

def AllAt (w : World) (d : Nat) (fp : Nat → Prop) (n : Nat) (s : DS) (sts : List Stp) (i : Nat) (wr : World) (s1 : DS) (fp1 : Nat → Prop) : Prop :=
  i ≤ sts.length ∧ Dsk wr d fp1 n s1 ∧ Chg fp w wr ∧ (∀ k, fp1 k → fp k ∨ w.heap.size ≤ k) ∧ runStps n s sts = runStps n s1 (sts.drop i) ∧ s1.ops ≤ s.ops + i

theorem sync_to {w w' : World} {d : Nat} {fp : Nat → Prop} {n : Nat} {s : DS} (h : Dsk w' d fp n s) (hc : Chg fp w w') : DskTo w d fp n s w' := ⟨fp, h, hc, fun _ h => .inl h⟩

theorem doStp_ops (n : Nat) (s : DS) (st : Stp) : (doStp n s st).1.ops ≤ s.ops + 1 := by
  cases st with
  | sync =>
    show (dSync s).1.ops ≤ _
    unfold dSync
    split
    · simp only; omega
    · split
      · rw [dStep_ops]; exact Int.le_refl _
      · show (dStep s).ops ≤ _
        rw [dStep_ops]; exact Int.le_refl _
  | write at_ l =>
    show (dWrite n s at_ l).1.ops ≤ _
    unfold dWrite
    split
    · simp only; omega
    · split
      · simp only; omega
      · rw [dStep_ops]; exact Int.le_refl _

theorem AllAt.step {w wr w' : World} {d n : Nat} {fp fp1 : Nat → Prop} {s s1 : DS} {sts : List Stp} {i : Nat} {st : Stp} (h : AllAt w d fp n s sts i wr s1 fp1) (hst : sts[i]? = some st) (h0 : (doStp n s1 st).2 = 0)
    (ht : DskTo wr d fp1 n (doStp n s1 st).1 w') : ∃ fp2, AllAt w d fp n s sts (i + 1) w' (doStp n s1 st).1 fp2 := by
  obtain ⟨h1, h2, h3, h4, h5, h6⟩ := h
  obtain ⟨fp2, g1, g2, g3⟩ := ht
  have hlt := (List.getElem?_eq_some_iff.1 hst).1
  refine ⟨fp2, by omega, g1, h3.trans g2 (fun k hk hf => ?_), fun k hk => ?_, ?_, ?_⟩
  · rcases h4 k hf with h7 | h7
    · exact h7
    · omega
  · rcases g3 k hk with h7 | h7
    · exact h4 k h7
    · exact .inr (Nat.le_trans h3.size h7)
  · rw [h5, List.drop_eq_getElem_cons hlt]
    have he : sts[i] = st := (List.getElem?_eq_some_iff.1 hst).2
    rw [he, runStps, if_pos h0]
  · have := doStp_ops n s1 st
    push_cast; omega
theorem AllAt.stop {w wr w' : World} {d n : Nat} {fp fp1 : Nat → Prop} {s s1 : DS} {sts : List Stp} {i : Nat} {st : Stp} (h : AllAt w d fp n s sts i wr s1 fp1) (hst : sts[i]? = some st) (h0 : ¬ (doStp n s1 st).2 = 0)
    (ht : DskTo wr d fp1 n (doStp n s1 st).1 w') : runStps n s sts = doStp n s1 st ∧ DskTo w d fp n (doStp n s1 st).1 w' := by
  obtain ⟨h1, h2, h3, h4, h5, h6⟩ := h
  have hlt := (List.getElem?_eq_some_iff.1 hst).1
  refine ⟨?_, DskTo.trans h3 h4 ht⟩
  rw [h5, List.drop_eq_getElem_cons hlt]
  have he : sts[i] = st := (List.getElem?_eq_some_iff.1 hst).2
  rw [he, runStps, if_neg h0]

/-- a step is done -/
theorem stp_any (w : World) (d : Nat) (fp : Nat → Prop) (n : Nat) (s : DS) (at_ : Int) (l : List UInt8) (g0 g1 g2 g3 : Nat) (h : Dsk w d fp n s)
    (hw : IsWr w d fp (.func (.func 56) #[] #[.pointer (some ⟨g0, 0, none⟩), .pointer (some ⟨g1, 0, none⟩), .pointer (some ⟨g2, 0, none⟩), .pointer (some ⟨g3, 0, none⟩)]) at_ l) (ho : s.ops ≤ 1000000) :
    Calls Try.prog 56 #[.pointer (some ⟨g0, 0, none⟩), .pointer (some ⟨g1, 0, none⟩), .pointer (some ⟨g2, 0, none⟩), .pointer (some ⟨g3, 0, none⟩)] w fun e w' => e = .returned (.int .i64 (dWrite n s at_ l).2) ∧ DskTo w d fp n (dWrite n s at_ l).1 w' := by
  obtain ⟨h0, h1, h2, h3, va, vb, la, lb, he, c0, c1, c2, c3, f1, f2, rfl, hl, n0, n1, n2, n3⟩ := hw
  simp at he
  obtain ⟨rfl, rfl, rfl, rfl⟩ := he
  exact wr_any w d fp n s _ _ _ _ va vb la lb at_ h c0 c1 c2 c3 f1 f2 hl ho n3

set_option maxRecDepth 100000 in
set_option maxHeartbeats 4000000 in
theorem all_any (w : World) (d : Nat) (fp : Nat → Prop) (n : Nat) (s : DS) (a : Option Addr) (m c : Nat) (sts : List Stp) (h : Dsk w d fp n s) (hm : m = sts.length) (hm2 : m ≤ 1000) (hs : IsAll w d fp a sts) (ho : s.ops + 1000 ≤ 1000000) :
    Calls Try.prog 36 #[.slice a m c] w fun e w' => e = .returned (.int .i64 (runStps n s sts).2) ∧ DskTo w d fp n (runStps n s sts).1 w' := by
  subst hm
  have HS := hid hs
  have H0 : Hid (AllAt w d fp n s sts 0 w s fp) := hid ⟨Nat.zero_le _, h, Chg.refl _ _, fun k hk => .inl hk, rfl, by simp⟩
  clear h hs
  go_enter Try.func36, Try.ntmps36
  go_wp2_with fail
  refine wp_scope_goto 0 (fun dd aa wr => ∃ (i : Nat) (s1 : DS) (fp1 : Nat → Prop) (u4 u5 u6 u7 u8 u9 u10 u11 u12 u13 u14 u15 u16 u17 u18 : Value), dd = sts.length - i ∧ AllAt w d fp n s sts i wr s1 fp1 ∧
     aa = ⟨#[.slice a sts.length c, undef, .int .i64 0, .int .i64 i, u4, u5, u6, u7, u8, u9, u10, u11, u12, u13, u14, u15, u16, u17, u18], []⟩) rfl ?pass ?first
  case first =>
    intro K hK
    go_wp2_with fail
    refine wp_label ?_
    simp only [Exit.then]
    rename_i hK'
    exact hK' _ _ (hK _ _ _ ⟨0, s, fp, _, _, _, _, _, _, _, _, _, _, _, _, _, _, _, rfl, H0.out, rfl⟩)
  case pass =>
    rintro dd aa wr ⟨i, s1, fp1, u4, u5, u6, u7, u8, u9, u10, u11, u12, u13, u14, u15, u16, u17, u18, rfl, hat, rfl⟩ K hK
    have HK := hid hK
    have HA := hid hat
    obtain ⟨hi, hd1, hc1, hf1, hr1, hops⟩ := hat
    have HD := hid hd1
    have HC := hid hc1
    have HF := hid hf1
    have HR := hid hr1
    clear hK hd1 hc1 hf1 hr1 H0
    by_cases hlt : i < sts.length
    · obtain ⟨ab, ao, v, st, rfl, hst, hcell, hnab, hstp⟩ := HS.out i hlt
      have hcw : wr.cell? ⟨ab, ao + i, none⟩ = some v := (CellTo HC.out hnab (World.block_lt_of_cell? w ⟨ab, ao + i, none⟩ hcell)).trans hcell
      have HP := hid (hstp.chg HC.out HF.out)
      have HST := hid hst
      have him : ¬ i = sts.length := by omega
      clear hcell hstp hst
      cases st with
      | sync =>
        have hv : v = .func (.func 21) #[.pointer (some ⟨d, 0, none⟩)] #[] := HP.out
        subst hv
        go_wp2_with fail
        refine (dSync_any wr d fp1 n s1 HD.out (by omega)).mono ?_; rintro e1 w5 ⟨rfl, hd5, hc5, hsz5⟩
        have T5 : Hid (DskTo wr d fp1 n (doStp n s1 .sync).1 w5) := hid (sync_to hd5 hc5)
        clear hd5 hc5 hsz5
        by_cases h0 : (dSync s1).2 = 0
        · have H0 := hid h0
          rw [h0]
          clear h0
          obtain ⟨fp2, hn⟩ := HA.out.step HST.out H0.out T5.out
          have HN := hid hn
          clear hn
          go_wp2_with fail
          refine wp_goto ?_
          simp only [Exit.jump, true_and]
          exact HK.out (sts.length - (i + 1)) _ _ (by omega) ⟨i + 1, _, fp2, _, _, _, _, _, _, _, _, _, _, _, _, _, _, _, rfl, HN.out, by go_num⟩
        · have hz := HA.out.stop HST.out h0 T5.out
          have HZ := hid hz
          have h01 : ((dSync s1).2 == 0) = false := by simpa using h0
          clear hz h0
          go_wp2_with fail
          rw [Exit.jump_ret]
          go_ret
          rw [HZ.out.1]
          exact ⟨rfl, HZ.out.2⟩
      | write at_ l =>
        obtain ⟨g0, g1, g2, g3, hv⟩ : ∃ g0 g1 g2 g3, v = .func (.func 56) #[] #[.pointer (some ⟨g0, 0, none⟩), .pointer (some ⟨g1, 0, none⟩), .pointer (some ⟨g2, 0, none⟩), .pointer (some ⟨g3, 0, none⟩)] := by
          obtain ⟨g0, g1, g2, g3, _, _, _, _, h, _⟩ := HP.out
          exact ⟨g0, g1, g2, g3, h⟩
        subst hv
        go_wp2_with fail
        refine (stp_any wr d fp1 n s1 at_ l g0 g1 g2 g3 HD.out HP.out (by omega)).mono ?_; rintro e1 w5 ⟨rfl, hto⟩
        have T5 : Hid (DskTo wr d fp1 n (doStp n s1 (.write at_ l)).1 w5) := hid hto
        clear hto
        by_cases h0 : (dWrite n s1 at_ l).2 = 0
        · have H0 := hid h0
          rw [h0]
          clear h0
          obtain ⟨fp2, hn⟩ := HA.out.step HST.out H0.out T5.out
          have HN := hid hn
          clear hn
          go_wp2_with fail
          refine wp_goto ?_
          simp only [Exit.jump, true_and]
          exact HK.out (sts.length - (i + 1)) _ _ (by omega) ⟨i + 1, _, fp2, _, _, _, _, _, _, _, _, _, _, _, _, _, _, _, rfl, HN.out, by go_num⟩
        · have hz := HA.out.stop HST.out h0 T5.out
          have HZ := hid hz
          have h01 : ((dWrite n s1 at_ l).2 == 0) = false := by simpa using h0
          clear hz h0
          go_wp2_with fail
          rw [Exit.jump_ret]
          go_ret
          rw [HZ.out.1]
          exact ⟨rfl, HZ.out.2⟩
    · have him : i = sts.length := by omega
      have HE : Hid (runStps n s sts = (s1, 0)) := hid (by rw [HR.out, List.drop_of_length_le (by omega)]; rfl)
      go_wp2_with fail
      rw [Exit.jump_ret]
      go_ret
      rw [HE.out]
      exact ⟨rfl, fp1, HD.out, HC.out, HF.out⟩
end Go.Proofs.Ytplahohlmiphoaa
