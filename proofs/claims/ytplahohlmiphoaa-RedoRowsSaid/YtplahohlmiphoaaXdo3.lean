/- triadref3.homes. append onto a full slice that is not one's own; triadref1.Int onto such a slice. triadref3.Commit. -/
import Derived.Test.YtplahohlmiphoaaRecs
import Derived.Test.YtplahohlmiphoaaFits
namespace Go.Proofs.Ytplahohlmiphoaa
open Go.RowKit
set_option linter.unusedVariables false

/-- where a row of steps is, over the document's disk -/
def XAt (w : World) (r : Nat) (fp : Nat → Prop) (n : Nat) (s : DS) (sts : List Stp) (i : Nat) (wr : World) (s1 : DS) (fp1 : Nat → Prop) : Prop :=
  i ≤ sts.length ∧ XDk wr r fp1 n s1 ∧ Chg fp w wr ∧ (∀ k, fp1 k → fp k ∨ w.heap.size ≤ k) ∧ runStps n s sts = runStps n s1 (sts.drop i) ∧ s1.ops ≤ s.ops + i

theorem XAt.start {w : World} {r : Nat} {fp : Nat → Prop} {n : Nat} {s : DS} {sts : List Stp} (h : XDk w r fp n s) : XAt w r fp n s sts 0 w s fp := ⟨Nat.zero_le _, h, Chg.refl _ _, fun k hk => .inl hk, rfl, by simp⟩
theorem XAt.new {w wr w' : World} {r n : Nat} {fp fp1 : Nat → Prop} {s s1 : DS} {sts : List Stp} {i : Nat} (h : XAt w r fp n s sts i wr s1 fp1) (hb : Below wr.heap.size wr w') : XAt w r fp n s sts i w' s1 fp1 := by
  obtain ⟨h1, h2, h3, h4, h5, h6⟩ := h
  exact ⟨h1, h2.chg (Chg.new hb NoFp) (fun _ _ h => h), h3.trans (Chg.new hb fp) (fun _ _ h => h), h4, h5, h6⟩
theorem XAt.step {w wr w' : World} {r n : Nat} {fp fp1 : Nat → Prop} {s s1 : DS} {sts : List Stp} {i : Nat} {st : Stp} (h : XAt w r fp n s sts i wr s1 fp1) (hst : sts[i]? = some st) (h0 : (doStp n s1 st).2 = 0)
    (ht : XTo wr r fp1 n (doStp n s1 st).1 w') : ∃ fp2, XAt w r fp n s sts (i + 1) w' (doStp n s1 st).1 fp2 := by
  obtain ⟨h1, h2, h3, h4, h5, h6⟩ := h
  obtain ⟨fp2, g1, g2, g3⟩ := ht
  have hlt := (List.getElem?_eq_some_iff.1 hst).1
  refine ⟨fp2, by omega, g1, h3.trans g2 (fun k hk hf => ?_), fun k hk => ?_, ?_, ?_⟩
  · rcases h4 k hf with h7 | h7
    · exact h7
    · omega
  · rcases g3 k hk with h7 | h7
    · exact h4 k h7
    · exact .inr (Nat.le_trans h3.size h7)
  · rw [h5, List.drop_eq_getElem_cons hlt]
    have he : sts[i] = st := (List.getElem?_eq_some_iff.1 hst).2
    rw [he, runStps, if_pos h0]
  · have := doStp_ops n s1 st
    push_cast; omega
theorem XAt.stop {w wr w' : World} {r n : Nat} {fp fp1 : Nat → Prop} {s s1 : DS} {sts : List Stp} {i : Nat} {st : Stp} (h : XAt w r fp n s sts i wr s1 fp1) (hst : sts[i]? = some st) (h0 : ¬ (doStp n s1 st).2 = 0)
    (ht : XTo wr r fp1 n (doStp n s1 st).1 w') : runStps n s sts = doStp n s1 st ∧ XTo w r fp n (doStp n s1 st).1 w' := by
  obtain ⟨h1, h2, h3, h4, h5, h6⟩ := h
  have hlt := (List.getElem?_eq_some_iff.1 hst).1
  refine ⟨?_, ?_⟩
  · rw [h5, List.drop_eq_getElem_cons hlt]
    have he : sts[i] = st := (List.getElem?_eq_some_iff.1 hst).2
    rw [he, runStps, if_neg h0]
  · obtain ⟨fp2, g1, g2, g3⟩ := ht
    refine ⟨fp2, g1, h3.trans g2 (fun k hk hf => ?_), fun k hk => ?_⟩
    · rcases h4 k hf with h7 | h7
      · exact h7
      · omega
    · rcases g3 k hk with h7 | h7
      · exact h4 k h7
      · exact .inr (Nat.le_trans h3.size h7)
theorem XAt.done {w wr : World} {r n : Nat} {fp fp1 : Nat → Prop} {s s1 : DS} {sts : List Stp} {i : Nat} (h : XAt w r fp n s sts i wr s1 fp1) (hi : i = sts.length) : runStps n s sts = (s1, 0) ∧ XTo w r fp n s1 wr := by
  obtain ⟨h1, h2, h3, h4, h5, h6⟩ := h
  exact ⟨by rw [h5, List.drop_of_length_le (by omega)]; rfl, fp1, h2, h3, h4⟩

theorem pad_pad504 {l : List UInt8} (h : l.length ≤ 504) : pad (pad504 l) = pad l := by
  unfold pad pad504
  rw [List.append_assoc, List.replicate_append_replicate, List.length_append, List.length_replicate]
  congr 2
  omega
theorem pad_pre504 {a l : List UInt8} (ha : a.length = 8) (h : l.length ≤ 504) : pad (a ++ pad504 l) = pad (a ++ l) := by
  unfold pad pad504
  rw [← List.append_assoc, List.append_assoc (a ++ l), List.replicate_append_replicate]
  simp only [List.length_append, List.length_replicate]
  congr 2
  omega
theorem dWrite_ext {n : Nat} {s : DS} {at_ : Int} {l l' : List UInt8} (h : l.length ≤ 512) (h' : l'.length ≤ 512) (hp : pad l = pad l') : dWrite n s at_ l = dWrite n s at_ l' := by
  unfold dWrite dWritten
  rw [hp]
  have e : (¬ (0 ≤ at_ ∧ at_ < (n : Int)) ∨ 512 < l.length) = (¬ (0 ≤ at_ ∧ at_ < (n : Int)) ∨ 512 < l'.length) := by
    apply propext
    constructor
    · rintro (h1 | h1)
      · exact .inl h1
      · omega
    · rintro (h1 | h1)
      · exact .inl h1
      · omega
  simp only [e]
theorem dWrite_504 {n : Nat} {s : DS} {at_ : Int} {l : List UInt8} (h : l.length ≤ 504) : dWrite n s at_ (pad504 l) = dWrite n s at_ l :=
  dWrite_ext (by simp [pad504]; omega) (by omega) (pad_pad504 h)
theorem dWrite_pre {n : Nat} {s : DS} {at_ : Int} {a l : List UInt8} (ha : a.length = 8) (h : l.length ≤ 504) : dWrite n s at_ (a ++ pad504 l) = dWrite n s at_ (a ++ l) :=
  dWrite_ext (by simp [pad504, ha]; omega) (by simp [ha]; omega) (pad_pre504 ha h)

theorem homeSteps_get {ls : List (Int × List UInt8)} {j : Nat} {q : Int × List UInt8} (h : ls[j]? = some q) : (finSteps ls)[j]? = some (.write q.1 q.2) := by
  have hlt := (List.getElem?_eq_some_iff.1 h).1
  unfold finSteps homeSteps
  rw [List.getElem?_append_left (by simp; omega), List.getElem?_map, h]
  rfl
theorem finSteps_length (ls : List (Int × List UInt8)) : (finSteps ls).length = ls.length + 3 := by simp [finSteps, homeSteps]
theorem finSteps_end (ls : List (Int × List UInt8)) : (finSteps ls)[ls.length]? = some .sync ∧ (finSteps ls)[ls.length + 1]? = some (.write 0 []) ∧ (finSteps ls)[ls.length + 2]? = some .sync := by
  have hl : (homeSteps ls).length = ls.length := by simp [homeSteps]
  unfold finSteps
  refine ⟨?_, ?_, ?_⟩ <;> rw [List.getElem?_append_right (by omega), hl]
  · rw [Nat.sub_self]; rfl
  · rw [Nat.add_sub_cancel_left]; rfl
  · rw [Nat.add_sub_cancel_left]; rfl

set_option maxRecDepth 100000 in
set_option maxHeartbeats 4000000 in
theorem xhomes_any (w : World) (r : Nat) (fp : Nat → Prop) (n : Nat) (s : DS) (a : Option Addr) (c : Nat) (ls : List (Int × List UInt8)) (h : XDk w r fp n s) (hp : IsPuts w fp a ls) (hpo : PutsOut fp a) (hl : ls.length ≤ 400) (hb : ∀ q ∈ ls, q.2.length ≤ 504) (ho : s.ops + 1000 ≤ 1000000) :
    Calls Try.prog 50 #[.pointer (some ⟨r, 0, none⟩), .slice a ls.length c] w fun e w' => e = .returned (.int .i64 (runStps n s (finSteps ls)).2) ∧ XTo w r fp n (runStps n s (finSteps ls)).1 w' := by
  have H0 : Hid (XAt w r fp n s (finSteps ls) 0 w s fp) := hid (XAt.start h)
  have HP := hid hp
  have HB := hid hb
  have HFL := hid (finSteps_length ls)
  clear h hp hb
  go_enter Try.func50, Try.ntmps50
  go_wp2_with fail
  go_loopw [5] (fun i wr => ∃ (j : Nat) (s1 : DS) (fp1 : Nat → Prop), j ≤ ls.length ∧ i = .int .i64 j ∧ XAt w r fp n s (finSteps ls) j wr s1 fp1) (fun i _ => ls.length + 1 - (intOf i).toNat)
  case atStart => exact ⟨0, s, fp, Nat.zero_le _, rfl, H0.out⟩
  case round =>
    obtain ⟨j, s1, fp1, hj, rfl, hat⟩ := hrel
    have AT := hid hat
    clear hat H0
    have PU := hid (HP.out.chg hpo AT.out.2.2.1 AT.out.2.2.2.1)
    by_cases hlt : j < ls.length
    · obtain ⟨ab, ao, q, p, pc, rfl, hq, k0, k1, hfar⟩ := PU.out j hlt
      have HQ := hid hq
      have HF := hid hfar
      have hql := HB.out q (List.mem_of_getElem? hq)
      have HK : Hid (∀ w', Below wr.heap.size wr w' → w'.cell? ⟨ab, ao + j * 2, none⟩ = some (.int .i64 q.1) ∧ w'.cell? ⟨ab, ao + j * 2 + 1, none⟩ = some (.slice p q.2.length pc)) := hid (fun w' hb =>
        ⟨(hb.cell (p := ⟨ab, ao + j * 2, none⟩) (World.block_lt_of_cell? wr ⟨ab, ao + j * 2, none⟩ k0)).trans k0, (hb.cell (p := ⟨ab, ao + j * 2 + 1, none⟩) (World.block_lt_of_cell? wr ⟨ab, ao + j * 2 + 1, none⟩ k1)).trans k1⟩)
      clear hq hfar k0 k1
      go_wp2_with fail
      refine wp_region_plan (fun w' => w'.cell? ⟨ab, ao + j * 2, none⟩ = some (.int .i64 q.1) ∧ w'.cell? ⟨ab, ao + j * 2 + 1, none⟩ = some (.slice p q.2.length pc)) (fun j => !([11, 12, 13].contains j)) (fun j => [12, 13].contains j)
        (.of [0, 1, 2, 3, 4, 5, 6, 7, 8, 9, 10, 11, 12, 13]) (by kernel_rfl) (by kernel_rfl) rfl (by kernel_rfl) (by kernel_rfl) (HK.out _ (below_drewN (Below.refl _ _) 1)) ?_
      iterate 11 (apply wpPlan_val; (case ho => rfl); (case hst => rfl); (case hw => rfl); (case hv => intro w' hS; obtain ⟨c0, c1⟩ := hS; go_simp; first | done | rfl); intro K hK; go_simp; refine hK _ ?_; clear hK K)
      have BD : Hid (Below wr.heap.size wr wr.drew) := hid (below_drewN (Below.refl _ _) 1)
      refine wpPlan_list rfl rfl rfl (fun K hK => ?_)
      refine wpList_step (fun K2 hK2 => ?_)
      go_simp
      refine (page_any wr.drew (.slice p q.2.length pc) q.2 (HF.out.1.new BD.out) hql).mono ?_
      rintro e1 w4 ⟨g, rfl, hg, hblk, hb4⟩
      have B4 := hid (BD.out.trans hb4)
      have hp5 : (pad504 q.2).length = 504 := by simp [pad504]; omega
      have K4 := hid (Bs.blk hblk hp5.symm (by simp [maxLen]))
      have A4 := hid (AT.out.new B4.out)
      clear hg hblk hb4
      go_simp
      refine hK2 _ _ ?_
      clear hK2 K2
      simp only [wpList]
      refine hK _ _ (fun _ => HK.out _ B4.out) ?_
      clear hK K
      refine wpPlan_list rfl rfl rfl (fun K hK => ?_)
      refine wpList_step (fun K2 hK2 => ?_)
      go_simp
      refine (xWrite_any w4 r fp1 n s1 q.1 _ (pad504 q.2) A4.out.2.1 K4.out (by omega) (by have := AT.out.2.2.2.2.2; omega)).mono ?_
      rintro e1 w6 ⟨rfl, hto⟩
      rw [dWrite_504 hql] at hto ⊢
      have TO : Hid (XTo w4 r fp1 n (doStp n s1 (.write q.1 q.2)).1 w6) := hid hto
      have SG := hid (homeSteps_get HQ.out)
      clear hto
      go_simp
      refine hK2 _ _ ?_
      clear hK2 K2
      simp only [wpList]
      refine hK _ _ (fun h => by cases h) ?_
      clear hK K
      refine wpPlan_list rfl rfl rfl (fun K hK => ?_)
      refine wpList_step (fun K2 hK2 => ?_)
      go_simp
      refine hK2 _ _ ?_
      clear hK2 K2
      simp only [wpList]
      refine hK _ _ (fun h => by cases h) ?_
      clear hK K
      refine wpPlan_nil ?_
      simp only [Qn]
      by_cases h0 : (doStp n s1 (.write q.1 q.2)).2 = 0
      · have ST := hid (A4.out.step SG.out h0 TO.out)
        have h0' : (dWrite n s1 q.1 q.2).2 = 0 := h0
        rw [h0']
        clear h0 h0'
        go_wp2_with fail
        go_roundw
        case rel => obtain ⟨fp2, h9⟩ := ST.out; exact ⟨j + 1, _, fp2, by omega, by go_num, h9⟩
        case measure => simp [intOf]; omega
      · have ST := hid (A4.out.stop SG.out h0 TO.out)
        have h0' : ((dWrite n s1 q.1 q.2).2 == 0) = false := by
          have h1 : ¬ (dWrite n s1 q.1 q.2).2 = 0 := h0
          simpa using h1
        clear h0
        go_wp2_with fail
        go_ret
        rw [ST.out.1]
        exact ⟨rfl, ST.out.2⟩
    · obtain rfl : j = ls.length := by omega
      have SE := hid (finSteps_end ls)
      have OB := hid AT.out.2.2.2.2.2
      go_wp2_with fail
      refine (xSync_any wr r fp1 n s1 AT.out.2.1 (by have := OB.out; omega)).mono ?_
      rintro e1 w5 ⟨rfl, hd5, hc5, hs5⟩
      have TO : Hid (XTo wr r fp1 n (doStp n s1 .sync).1 w5) := hid ⟨fp1, hd5, hc5, fun _ h => .inl h⟩
      clear hd5 hc5 hs5
      by_cases h0 : (doStp n s1 .sync).2 = 0
      · have h9 := AT.out.step SE.out.1 h0 TO.out
        have h0' : (dSync s1).2 = 0 := h0
        rw [h0']
        clear h0 h0'
        obtain ⟨fp2, h9⟩ := h9
        have A5 := hid h9
        clear h9 TO
        generalize (doStp n s1 Stp.sync).1 = s2 at *
        go_wp2_with fail
        refine (xWrite_any w5 r fp2 n s2 0 (.slice none 0 0) [] A5.out.2.1 (Rd.nil _ _) (by simp) (by have := A5.out.2.2.2.2.2; omega)).mono ?_
        rintro e1 w6 ⟨rfl, hto⟩
        have TO : Hid (XTo w5 r fp2 n (doStp n s2 (.write 0 [])).1 w6) := hid hto
        clear hto
        by_cases h0 : (doStp n s2 (.write 0 [])).2 = 0
        · have h9 := A5.out.step SE.out.2.1 h0 TO.out
          have h0' : (dWrite n s2 0 []).2 = 0 := h0
          rw [h0']
          clear h0 h0'
          obtain ⟨fp3, h9⟩ := h9
          have A6 := hid h9
          clear h9 TO
          generalize (doStp n s2 (.write 0 [])).1 = s3 at *
          go_wp2_with fail
          refine (xSync_any w6 r fp3 n s3 A6.out.2.1 (by have := A6.out.2.2.2.2.2; omega)).mono ?_
          rintro e1 w7 ⟨rfl, hd5, hc5, hs5⟩
          have TO : Hid (XTo w6 r fp3 n (doStp n s3 .sync).1 w7) := hid ⟨fp3, hd5, hc5, fun _ h => .inl h⟩
          clear hd5 hc5 hs5
          have FI : Hid (runStps n s (finSteps ls) = doStp n s3 .sync ∧ XTo w r fp n (doStp n s3 .sync).1 w7) := hid (by
            by_cases h0 : (doStp n s3 .sync).2 = 0
            · obtain ⟨fp4, h9⟩ := A6.out.step SE.out.2.2 h0 TO.out
              have h8 := h9.done (by rw [HFL.out])
              refine ⟨?_, h8.2⟩
              rw [h8.1, ← h0]
            · exact A6.out.stop SE.out.2.2 h0 TO.out)
          go_wp2_with fail
          go_ret
          rw [FI.out.1]
          exact ⟨rfl, FI.out.2⟩
        · have ST := hid (A5.out.stop SE.out.2.1 h0 TO.out)
          have h0' : ((dWrite n s2 0 []).2 == 0) = false := by
            have h1 : ¬ (dWrite n s2 0 []).2 = 0 := h0
            simpa using h1
          clear h0
          go_wp2_with fail
          go_ret
          rw [ST.out.1]
          exact ⟨rfl, ST.out.2⟩
      · have ST := hid (AT.out.stop SE.out.1 h0 TO.out)
        have h0' : ((dSync s1).2 == 0) = false := by
          have h1 : ¬ (dSync s1).2 = 0 := h0
          simpa using h1
        clear h0
        go_wp2_with fail
        go_ret
        rw [ST.out.1]
        exact ⟨rfl, ST.out.2⟩

end Go.Proofs.Ytplahohlmiphoaa

namespace Go.Proofs.Ytplahohlmiphoaa
open Go.RowKit
set_option linter.unusedVariables false

section
variable {P : Program}
theorem run_append_full (w : World) (t ty e : TypeId) (z : Value) (size bytes : Nat) (ht : P.underlying t = some (.slice e))
    (hinf : (P.info? e).map (fun i => (i.zero, i.size, i.bytes)) = some (some z, size, bytes)) (hzs : z.cells.size = size) (hsz : 0 < size)
    (b : Addr) (n : Nat) (xs : List Value) (hv : Rd w size (.slice (some b) n n) n xs)
    (x : Value) (m : Nat) (news : List Value) (hrd : Rd w size x m news) (hm : 0 < m)
    (h63 : n + m ≤ maxLen) (hbytes : (n + m) * bytes ≤ 140737488355328) :
    ∃ v' w', (Builtin.append_ #[t, t] ty #[.slice (some b) n n, x]).run P w = .ok v' w' ∧ w'.ownsRow w.heap.size e size v' (n + m) (xs ++ news) ∧ Below w.heap.size w w' := by
  obtain ⟨i, hi, hz, rfl, rfl⟩ := info_parts hinf
  obtain ⟨hl, p, cap, rfl, hmc, hcm, hp0, hp⟩ := hrd
  obtain ⟨hlv, p', cap', he, _, _, _, hpv⟩ := hv
  cases he
  have hsmall : n + m ≤ 9223372036854775807 := by simp only [maxLen] at h63; omega
  cases p with
  | none =>
    have := hp0 rfl
    omega
  | some a =>
    have hnews : ∀ j u, news[j]? = some u → w.cell? (a.add j) = some u := fun j u hu => by
      rw [Addr.add_off a (hp a rfl j u hu).1]; exact (hp a rfl j u hu).2
    have holds : ∀ j u, xs[j]? = some u → w.cell? (b.add j) = some u := fun j u hu => by
      rw [Addr.add_off b (hpv b rfl j u hu).1]; exact (hpv b rfl j u hu).2
    have hlen : (xs ++ news).length = (n + m) * i.size := by rw [List.length_append, hlv, hl, Nat.add_mul]
    have hr := run_append_grow (P := P) w t ty e i z ht hi hz b n n xs hlv holds a m cap news hl hnews (by omega) (by omega) (growslice_fits (by omega) hbytes)
    have hge := grownCap_ge w (n + m) n e
    have hcm' : grownCap w (n + m) n e ≤ maxLen := grownCap_le_maxLen w (n + m) n e h63
    refine ⟨_, _, hr, ⟨hlen, .inr ⟨w.heap.size, _, _, rfl, Nat.le_refl _, heap_alloc_new w.drew _, hge, hcm', ?_, ?_⟩⟩, (below_drewN (Below.refl _ _) 1).alloc (by simp) _⟩
    · simp only [Array.size_append, List.size_toArray, size_zeroCells, hzs, hlv, hl, ← Nat.add_mul]
      congr 1
      omega
    · simp only [Array.toList_append, List.append_assoc]
      rw [← List.append_assoc, ← hlen]
      exact List.take_left

theorem wpList_append_full {w : World} {ops : Array Oper} {rest : List Oper} {o : Oper} {a : Act} {Q : Exit → Act → World → Prop} (hgd : o.guard = none) (s x : Operand) (t : TypeId)
    (ho : o.op = .call { callee := .builtin .append, args := #[s, x], argTypes := #[t, t] })
    (e : TypeId) (z : Value) (size bytes : Nat) (ht : P.underlying t = some (.slice e))
    (hinf : (P.info? e).map (fun i => (i.zero, i.size, i.bytes)) = some (some z, size, bytes)) (hzs : z.cells.size = size) (hsz : 0 < size)
    (b : Addr) (n : Nat) (xs : List Value) (hs : a.eval s = .slice (some b) n n) (hv : Rd w size (.slice (some b) n n) n xs)
    (xv : Value) (m : Nat) (news : List Value) (hx : a.eval x = xv) (hrd : Rd w size xv m news) (hm : 0 < m)
    (h63 : n + m ≤ maxLen) (hbytes : (n + m) * bytes ≤ 140737488355328)
    (h : ∀ (p' : Option Addr) (c' : Nat) w', w'.ownsRow w.heap.size e size (.slice p' (n + m) c') (n + m) (xs ++ news) → Below w.heap.size w w' → wpList P ops Q rest (a.put o.dst (.slice p' (n + m) c')) w') :
    wpList P ops Q (o :: rest) a w := by
  refine wpList_plain hgd fun K hK => ?_
  obtain ⟨v', w', hr, h2, h3⟩ := run_append_full (P := P) w t o.type e z size bytes ht hinf hzs hsz b n xs hv xv m news hrd hm h63 hbytes
  unfold Oper.wp execOp
  simp only [ho, resolve, invoke, builtin, Sem.run_bind, Sem.run_pure, Result.andThen_ok, List.map_toArray, List.map_cons, List.map_nil, hs, hx, hr]
  obtain ⟨p', c', rfl⟩ : ∃ p' c', v' = .slice p' (n + m) c' := by
    rcases h2.2 with ⟨h5, h6⟩ | ⟨g, cap, cur, h5, _⟩
    · exact ⟨none, 0, by rw [h5, h6]⟩
    · exact ⟨_, _, h5⟩
  exact hK _ _ (h p' c' w' h2 h3)
end

theorem ownsRow_lower {w : World} {base base' size n : Nat} {e : TypeId} {v : Value} {xs : List Value} (h : w.ownsRow base e size v n xs) (hb : base' ≤ base) : w.ownsRow base' e size v n xs :=
  ⟨h.1, h.2.elim Or.inl (fun ⟨g, cap, cur, hv, hg, r⟩ => Or.inr ⟨g, cap, cur, hv, Nat.le_trans hb hg, r⟩)⟩

set_option maxRecDepth 100000 in
set_option maxHeartbeats 2000000 in
theorem xcEncL_any (b : Addr) (l : List UInt8) (u : Int) (w : World) (hv : Bs w (.slice (some b) l.length l.length) l) (hl : l.length ≤ 1000) :
    Calls Try.prog 54 #[.slice (some b) l.length l.length, .int .i64 u] w fun e w' => ∃ v', e = .returned v' ∧ w'.ownsRow w.heap.size 5 1 v' (l.length + 8) (bv (l ++ le (IntKind.u64.wrap u) 8)) ∧ Below w.heap.size w w' := by
  have HV := hid hv
  have hu := u64_bd u
  clear hv
  go_enter Try.func54, Try.ntmps54
  go_wp2_with fail
  go_loopw [0, 5] (fun x i wr => ∃ k : Nat, k ≤ 8 ∧ i = .int .i64 k ∧ ((k = 0 ∧ x = .slice (some b) l.length l.length) ∨ (1 ≤ k ∧ wr.ownsRow w.heap.size 5 1 x (l.length + k) (bv (l ++ le (IntKind.u64.wrap u) k)))) ∧ Below w.heap.size w wr ∧ w.heap.size ≤ wr.heap.size) (fun _ i _ => 9 - (intOf i).toNat)
  case atStart => exact ⟨0, by omega, rfl, .inl ⟨rfl, rfl⟩, Below.refl _ _, Nat.le_refl _⟩
  case round =>
    obtain ⟨k, hk, rfl, ho, hb, hs⟩ := hrel
    have B1 := hid hb
    have S1 := hid hs
    clear hb hs
    rcases ho with ⟨rfl, rfl⟩ | ⟨hk1, ho⟩
    · go_wp2_with (at_builtin; refine wp_keep ?_)
      refine hid ?_
      refine wpList_append_full rfl _ _ 26 rfl 5 _ 1 1 Try.underlying26 infoU8 rfl (by decide) b l.length (bv l) rfl ((HV.out.new B1.out).new ((Below.refl _ _).alloc (Nat.le_refl _) _)) _ 1 [.int .u8 (IntKind.u64.wrap u % 256)] rfl (Rd.fresh1 _ _ _) (by omega) (by simp only [maxLen]; omega) (by omega) ?_
      intro pp cc w7 hown7 hb7
      have O7 := hid (ownsRow_lower hown7 (Nat.le_trans S1.out (show wr.heap.size ≤ _ by simp)))
      have B7 := hid ((B1.out.alloc S1.out _).trans (hb7.mono (Nat.le_trans S1.out (show wr.heap.size ≤ _ by simp))))
      clear hown7 hb7
      go_wp2_with fail
      go_roundw
      case rel =>
        refine ⟨1, by omega, by go_num, .inr ⟨Nat.le_refl _, ?_⟩, B7.out, B7.out.size⟩
        rw [bv_append, le_succ]
        simpa [le] using O7.out
      case measure => simp [intOf]
    · have O1 := hid ho
      clear ho
      by_cases hlt : k < 8
      · go_wp2_with (at_builtin; refine wp_keep ?_)
        refine hid ?_
        refine wpList_append_rd rfl _ _ 26 rfl w.heap.size 5 _ 1 1 Try.underlying26 infoU8 rfl (by decide) _ (l.length + k) (bv (l ++ le (IntKind.u64.wrap u) k)) rfl (O1.out.alloc _) _ 1 [.int .u8 (IntKind.u64.wrap u / 2 ^ (8 * k) % 256)] rfl (Rd.fresh1 _ _ _) (by simp [Value.oneCell']) (by simp only [maxLen]; omega) (by omega) (Nat.le_trans S1.out (by simp)) ?_
        intro pp cc w7 hown7 hg7 hb7
        have O7 := hid hown7
        have G7 := hid hg7
        clear hown7 hg7 hb7
        go_wp2_with fail
        go_roundw
        case rel =>
          have hbase : w.heap.size ≤ (wr.alloc (Obj.cells #[.int .u8 (IntKind.u64.wrap u / 2 ^ (8 * k) % 256)] 5)).heap.size := Nat.le_trans S1.out (by simp)
          refine ⟨k + 1, by omega, by go_num, .inr ⟨by omega, ?_⟩, (B1.out.alloc S1.out _).grown G7.out hbase (fun g hg => (O1.out.lt g hg).1), Nat.le_trans hbase G7.out.size⟩
          rw [bv_append, le_succ, ← List.append_assoc, ← bv_append]
          exact O7.out
        case measure => simp [intOf]; omega
      · obtain rfl : k = 8 := by omega
        go_wp2_with fail
        go_ret
        exact ⟨_, rfl, O1.out, B1.out⟩
end Go.Proofs.Ytplahohlmiphoaa

namespace Go.Proofs.Ytplahohlmiphoaa
open Go.RowKit
set_option linter.unusedVariables false

theorem logSteps_get {ls : List (Int × List UInt8)} {j : Nat} {q : Int × List UInt8} (h : ls[j]? = some q) : (comSteps ls)[j]? = some (.write (1 + (j : Int)) (le8 q.1 ++ q.2)) := by
  have hlt := (List.getElem?_eq_some_iff.1 h).1
  unfold comSteps logSteps
  rw [List.getElem?_append_left (by simp; omega), List.getElem?_mapIdx, h]
  rfl
theorem comSteps_end (ls : List (Int × List UInt8)) : (comSteps ls)[ls.length]? = some .sync ∧ (comSteps ls)[ls.length + 1]? = some (.write 0 (markB ++ le8 ls.length)) ∧ (comSteps ls)[ls.length + 2]? = some .sync := by
  have hl : (logSteps ls).length = ls.length := logSteps_length ls
  unfold comSteps
  refine ⟨?_, ?_, ?_⟩ <;> rw [List.getElem?_append_right (by omega), hl]
  · rw [Nat.sub_self]; rfl
  · rw [Nat.add_sub_cancel_left]; rfl
  · rw [Nat.add_sub_cancel_left]; rfl

theorem XTo.after {w wr w' : World} {r n : Nat} {fp fp1 : Nat → Prop} {s' : DS} (hc : Chg fp w wr) (hf : ∀ k, fp1 k → fp k ∨ w.heap.size ≤ k) (ht : XTo wr r fp1 n s' w') : XTo w r fp n s' w' := by
  obtain ⟨fp2, g1, g2, g3⟩ := ht
  refine ⟨fp2, g1, hc.trans g2 (fun k hk hf1 => ?_), fun k hk => ?_⟩
  · rcases hf k hf1 with h7 | h7
    · exact h7
    · omega
  · rcases g3 k hk with h7 | h7
    · exact hf k h7
    · exact .inr (Nat.le_trans hc.size h7)

set_option maxRecDepth 100000 in
set_option maxHeartbeats 8000000 in
theorem xcom_any (w : World) (r : Nat) (fp : Nat → Prop) (n : Nat) (s : DS) (a : Option Addr) (c : Nat) (ls : List (Int × List UInt8)) (h : XDk w r fp n s) (hp : IsPuts w fp a ls) (hpo' : ¬ ls.length = 0 → PutsOut fp a) (hl : ls.length ≤ 1000) (hb : ∀ q ∈ ls, q.2.length ≤ 1000) (ho : s.ops + 3000 ≤ 1000000) :
    Calls Try.prog 31 #[.pointer (some ⟨r, 0, none⟩), .slice a ls.length c] w fun e w' => e = .returned (.int .i64 (cmt n s ls).2) ∧ XTo w r fp n (cmt n s ls).1 w' := by
  have H := hid h
  have HP := hid hp
  have HF := hid (fits_any w r fp fp n s a c ls h hp hl hb)
  have HCL := hid (comSteps_length ls)
  clear h hp hb
  generalize hck : chk n ls = ck at HF
  by_cases h0 : ck = 0
  · subst h0
    have CK0 := hid hck
    clear hck
    obtain ⟨hl4, hl0, hqs⟩ := chk_zero CK0.out
    have hpo := hpo' hl0
    have QS := hid hqs
    clear hqs
    go_enter Try.func31, Try.ntmps31
    go_wp2_with fail
    refine HF.out.mono ?_
    rintro e1 w0 ⟨rfl, hb0⟩
    have A0 : Hid (XAt w r fp n s (comSteps ls) 0 w0 s fp) := hid ((XAt.start H.out).new hb0)
    clear hb0 HF
    go_wp2_with fail
    go_loopw [5, 6] (fun e i wr => ∃ (j : Nat) (ev : Int), j ≤ ls.length ∧ i = .int .i64 j ∧ e = .int .i64 ev ∧ ((ev = 0 ∧ ∃ (s1 : DS) (fp1 : Nat → Prop), XAt w r fp n s (comSteps ls) j wr s1 fp1) ∨ (¬ ev = 0 ∧ ∃ s', runStps n s (comSteps ls) = (s', ev) ∧ XTo w r fp n s' wr))) (fun _ i _ => ls.length + 1 - (intOf i).toNat)
    case atStart => exact ⟨0, 0, Nat.zero_le _, rfl, rfl, .inl ⟨rfl, s, fp, A0.out⟩⟩
    case round =>
      obtain ⟨j, ev, hj, rfl, rfl, hcase⟩ := hrel
      clear A0
      rcases hcase with ⟨rfl, s1, fp1, hat⟩ | ⟨hev, s', hrun, hto⟩
      · have AT := hid hat
        clear hat
        have PU := hid (HP.out.chg hpo AT.out.2.2.1 AT.out.2.2.2.1)
        by_cases hlt : j < ls.length
        · obtain ⟨ab, ao, q, p, pc, rfl, hq, k0, k1, hfar⟩ := PU.out j hlt
          have HQ := hid hq
          have HFA := hid hfar
          have hql := QS.out q (List.mem_of_getElem? hq)
          have HK : Hid (∀ w', Below wr.heap.size wr w' → w'.cell? ⟨ab, ao + j * 2, none⟩ = some (.int .i64 q.1) ∧ w'.cell? ⟨ab, ao + j * 2 + 1, none⟩ = some (.slice p q.2.length pc)) := hid (fun w' hb =>
            ⟨(hb.cell (p := ⟨ab, ao + j * 2, none⟩) (World.block_lt_of_cell? wr ⟨ab, ao + j * 2, none⟩ k0)).trans k0, (hb.cell (p := ⟨ab, ao + j * 2 + 1, none⟩) (World.block_lt_of_cell? wr ⟨ab, ao + j * 2 + 1, none⟩ k1)).trans k1⟩)
          have hwj : IntKind.i64.wrap (1 + (j : Int)) = 1 + (j : Int) := by simp [IntKind.wrap, IntKind.bits, IntKind.signed]; omega
          clear hq hfar k0 k1
          go_wp2_with fail
          refine wp_region_plan (fun w' => w'.cell? ⟨ab, ao + j * 2, none⟩ = some (.int .i64 q.1) ∧ w'.cell? ⟨ab, ao + j * 2 + 1, none⟩ = some (.slice p q.2.length pc)) (fun j => !([8, 14, 15, 16, 17].contains j)) (fun j => [16, 17].contains j)
            (.of [0, 1, 2, 3, 4, 5, 6, 7, 9, 10, 11, 12, 13, 8, 14, 15, 16, 17]) (by kernel_rfl) (by kernel_rfl) rfl (by kernel_rfl) (by kernel_rfl) (HK.out _ (below_drewN (Below.refl _ _) 1)) ?_
          iterate 13 (apply wpPlan_val; (case ho => rfl); (case hst => rfl); (case hw => rfl); (case hv => intro w' hS; obtain ⟨c0, c1⟩ := hS; go_simp; first | done | rfl); intro K hK; go_simp; refine hK _ ?_; clear hK K)
          have BD : Hid (Below wr.heap.size wr wr.drew) := hid (below_drewN (Below.refl _ _) 1)
          refine wpPlan_list rfl rfl rfl (fun K hK => ?_)
          refine wpList_step (fun K2 hK2 => ?_)
          go_simp
          refine (xcEnc_any wr.drew.heap.size (.slice none 0 0) [] q.1 wr.drew (World.ownsRow_nil _ _ _ _) (Nat.le_refl _) (by simp)).mono ?_
          rintro e1 w3 ⟨v3, rfl, ho3, hb3⟩
          rw [List.nil_append] at ho3
          obtain ⟨p3, c3, rfl⟩ := own_shape ho3
          have O3 : Hid (w3.ownsRow wr.heap.size 5 1 (.slice p3 8 c3) 8 (bv (le8 q.1))) := hid ho3
          have B3 := hid (BD.out.trans hb3)
          clear ho3 hb3
          go_simp
          refine hK2 _ _ ?_
          clear hK2 K2
          simp only [wpList]
          refine hK _ _ (fun _ => HK.out _ B3.out) ?_
          clear hK K
          refine wpPlan_list rfl rfl rfl (fun K hK => ?_)
          refine wpList_step (fun K2 hK2 => ?_)
          go_simp
          refine (page_any w3 (.slice p q.2.length pc) q.2 (HFA.out.1.new B3.out) hql.2.2).mono ?_
          rintro e1 w4 ⟨g, rfl, hg, hblk, hb4⟩
          have B4 := hid (B3.out.trans (hb4.mono B3.out.size))
          have hp5 : (pad504 q.2).length = 504 := by simp [pad504]; omega
          have K4 := hid (Bs.blk hblk hp5.symm (by simp [maxLen]))
          have O4 := hid (own_chg O3.out (Chg.new hb4 NoFp) (fun _ _ h => h))
          clear hg hblk hb4
          go_simp
          refine hK2 _ _ ?_
          clear hK2 K2
          simp only [wpList]
          refine hK _ _ (fun _ => HK.out _ B4.out) ?_
          clear hK K
          refine wpPlan_list rfl rfl rfl (fun K hK => ?_)
          refine wpList_append_rd rfl _ _ 26 rfl wr.heap.size 5 _ 1 1 Try.underlying26 infoU8 rfl (by decide) _ 8 (bv (le8 q.1)) rfl O4.out _ 504 (bv (pad504 q.2)) rfl (by have h := K4.out; unfold Bs at h; rw [hp5] at h; exact h) (bv_one _) (by simp only [maxLen]; omega) (by omega) B4.out.size ?_
          intro pp cc w5 hown5 hg5 hb5
          have B5 := hid (B4.out.grown hg5 B4.out.size (fun k hk => (O4.out.lt k hk).1))
          have V5 : Hid (Bs w5 (.slice pp (8 + 504) cc) (le8 q.1 ++ pad504 q.2)) := hid (by
            have h5 := Rd.of_own hown5
            rw [← bv_append] at h5
            unfold Bs
            rw [List.length_append, le8_length, hp5]
            exact h5)
          have A5 := hid (AT.out.new B5.out)
          clear hown5 hg5 hb5
          simp only [wpList]
          refine hK _ _ (fun _ => HK.out _ B5.out) ?_
          clear hK K
          refine wpPlan_list rfl rfl rfl (fun K hK => ?_)
          refine wpList_step (fun K2 hK2 => ?_)
          go_simp
          refine (xWrite_any w5 r fp1 n s1 (1 + (j : Int)) _ (le8 q.1 ++ pad504 q.2) A5.out.2.1 V5.out (by rw [List.length_append, le8_length, hp5]; omega) (by have := AT.out.2.2.2.2.2; omega)).mono ?_
          rintro e1 w6 ⟨rfl, hto⟩
          rw [dWrite_pre (le8_length _) hql.2.2] at hto ⊢
          have TO : Hid (XTo w5 r fp1 n (doStp n s1 (.write (1 + (j : Int)) (le8 q.1 ++ q.2))).1 w6) := hid hto
          have SG := hid (logSteps_get HQ.out)
          clear hto
          go_simp
          refine hK2 _ _ ?_
          clear hK2 K2
          simp only [wpList]
          refine hK _ _ (fun h => by cases h) ?_
          clear hK K
          refine wpPlan_list rfl rfl rfl (fun K hK => ?_)
          refine wpList_step (fun K2 hK2 => ?_)
          go_simp
          refine hK2 _ _ ?_
          clear hK2 K2
          simp only [wpList]
          refine hK _ _ (fun h => by cases h) ?_
          clear hK K
          refine wpPlan_nil ?_
          simp only [Qn]
          by_cases h0 : (doStp n s1 (.write (1 + (j : Int)) (le8 q.1 ++ q.2))).2 = 0
          · have ST := hid (A5.out.step SG.out h0 TO.out)
            have h0' : (dWrite n s1 (1 + (j : Int)) (le8 q.1 ++ q.2)).2 = 0 := h0
            rw [h0']
            clear h0 h0'
            go_wp2_with fail
            go_roundw
            case rel => obtain ⟨fp2, h9⟩ := ST.out; exact ⟨j + 1, 0, by omega, by go_num, rfl, .inl ⟨rfl, _, fp2, h9⟩⟩
            case measure => simp [intOf]; omega
          · have ST := hid (A5.out.stop SG.out h0 TO.out)
            have h0' : ¬ (dWrite n s1 (1 + (j : Int)) (le8 q.1 ++ q.2)).2 = 0 := h0
            have H0 := hid h0'
            clear h0 h0'
            go_wp2_with fail
            go_roundw
            case rel => exact ⟨j + 1, _, by omega, by go_num, rfl, .inr ⟨H0.out, _, ST.out.1, ST.out.2⟩⟩
            case measure => simp [intOf]; omega
        · obtain rfl : j = ls.length := by omega
          have SE := hid (comSteps_end ls)
          have OB := hid AT.out.2.2.2.2.2
          go_wp2_with fail
          refine (xSync_any wr r fp1 n s1 AT.out.2.1 (by have := OB.out; omega)).mono ?_
          rintro e1 w5 ⟨rfl, hd5, hc5, hs5⟩
          have TO : Hid (XTo wr r fp1 n (doStp n s1 .sync).1 w5) := hid ⟨fp1, hd5, hc5, fun _ h => .inl h⟩
          clear hd5 hc5 hs5
          by_cases h0 : (doStp n s1 .sync).2 = 0
          · have h9 := AT.out.step SE.out.1 h0 TO.out
            have h0' : (dSync s1).2 = 0 := h0
            rw [h0']
            clear h0 h0'
            obtain ⟨fp2, h9⟩ := h9
            have A5 := hid h9
            clear h9 TO
            generalize (doStp n s1 Stp.sync).1 = s2 at *
            have hcv := mark_lit w5
            go_wp2_with fail
            have hba : Below w5.heap.size w5 (w5.alloc (Obj.cells (bv markB).toArray 5 (8, 9))) := (Below.refl _ _).alloc (Nat.le_refl _) _
            have hbk := mark_read w5
            generalize w5.alloc (Obj.cells (bv markB).toArray 5 (8, 9)) = wa at *
            have AA := hid (A5.out.new hba)
            have BK := hid hbk
            clear hba hbk hcv
            refine (xcEncL_any ⟨w5.heap.size, 0, none⟩ markB (ls.length : Int) wa BK.out (by decide)).mono ?_
            rintro e1 w4 ⟨v4, rfl, ho4, hb4⟩
            obtain ⟨p4, c4, rfl⟩ := own_shape ho4
            have A4 := hid (AA.out.new hb4)
            have V4 : Hid (Bs w4 (.slice p4 (markB.length + 8) c4) (markB ++ le8 ls.length)) := hid (by
              have h5 := Rd.of_own ho4
              unfold Bs
              rw [List.length_append, le8_length]
              exact h5)
            clear ho4 hb4
            go_wp2_with fail
            refine (xWrite_any w4 r fp2 n s2 0 (.slice p4 (markB.length + 8) c4) (markB ++ le8 ls.length) A4.out.2.1 V4.out (by rw [List.length_append, le8_length]; decide) (by have := A4.out.2.2.2.2.2; omega)).mono ?_
            rintro e1 w6 ⟨rfl, hto⟩
            have TO : Hid (XTo w4 r fp2 n (doStp n s2 (.write 0 (markB ++ le8 ls.length))).1 w6) := hid hto
            clear hto
            by_cases h0 : (doStp n s2 (.write 0 (markB ++ le8 ls.length))).2 = 0
            · have h9 := A4.out.step SE.out.2.1 h0 TO.out
              have h0' : (dWrite n s2 0 (markB ++ le8 ls.length)).2 = 0 := h0
              rw [h0']
              clear h0 h0'
              obtain ⟨fp3, h9⟩ := h9
              have A6 := hid h9
              clear h9 TO
              generalize (doStp n s2 (.write 0 (markB ++ le8 ls.length))).1 = s3 at *
              go_wp2_with fail
              refine (xSync_any w6 r fp3 n s3 A6.out.2.1 (by have := A6.out.2.2.2.2.2; omega)).mono ?_
              rintro e1 w7 ⟨rfl, hd5, hc5, hs5⟩
              have TO : Hid (XTo w6 r fp3 n (doStp n s3 .sync).1 w7) := hid ⟨fp3, hd5, hc5, fun _ h => .inl h⟩
              clear hd5 hc5 hs5
              by_cases h0 : (doStp n s3 .sync).2 = 0
              · obtain ⟨fp4, h9⟩ := A6.out.step SE.out.2.2 h0 TO.out
                have h8 := h9.done (by rw [HCL.out])
                have A7 := hid h9
                have HE : Hid (cmt n s ls = runStps n (doStp n s3 .sync).1 (finSteps ls)) := hid (by unfold cmt; rw [if_pos CK0.out, h8.1, if_pos rfl])
                have h0' : (dSync s3).2 = 0 := h0
                rw [h0']
                clear h0 h0' h8 h9
                have OPS : Hid ((doStp n s3 .sync).1.ops + 1000 ≤ 1000000) := hid (by have := A7.out.2.2.2.2.2; omega)
                have PU7 := hid (HP.out.chg hpo A7.out.2.2.1 A7.out.2.2.2.1)
                have PO7 : Hid (PutsOut fp4 a) := hid (fun ad had hf => by
                  subst had
                  rcases A7.out.2.2.2.1 _ hf with h9 | h9
                  · exact hpo ad rfl h9
                  · obtain ⟨ab, ao, q, p, pc, he, _, k0, _⟩ := HP.out 0 (by omega)
                    cases he
                    have h8 : ab < w.heap.size := World.block_lt_of_cell? w ⟨ab, ao + 0 * 2, none⟩ k0
                    have h7 : w.heap.size ≤ ab := h9
                    omega)
                go_wp2_with fail
                refine (xhomes_any w7 r fp4 n (doStp n s3 .sync).1 a c ls A7.out.2.1 PU7.out PO7.out hl4 (fun q hq => (QS.out q hq).2.2) OPS.out).mono ?_
                rintro e1 w8 ⟨rfl, hto⟩
                have T8 := hid (XTo.after A7.out.2.2.1 A7.out.2.2.2.1 hto)
                clear hto
                go_wp2_with fail
                go_ret
                rw [HE.out]
                exact ⟨rfl, T8.out⟩
              · have ST := hid (A6.out.stop SE.out.2.2 h0 TO.out)
                have HE : Hid (cmt n s ls = doStp n s3 .sync) := hid (by unfold cmt; rw [if_pos CK0.out, ST.out.1, if_neg h0])
                have h0' : ((dSync s3).2 == 0) = false := by
                  have h1 : ¬ (dSync s3).2 = 0 := h0
                  simpa using h1
                clear h0
                go_wp2_with fail
                go_ret
                rw [HE.out]
                exact ⟨rfl, ST.out.2⟩
            · have ST := hid (A4.out.stop SE.out.2.1 h0 TO.out)
              have HE : Hid (cmt n s ls = doStp n s2 (.write 0 (markB ++ le8 ls.length))) := hid (by unfold cmt; rw [if_pos CK0.out, ST.out.1, if_neg h0])
              have h0' : ((dWrite n s2 0 (markB ++ le8 ls.length)).2 == 0) = false := by
                have h1 : ¬ (dWrite n s2 0 (markB ++ le8 ls.length)).2 = 0 := h0
                simpa using h1
              clear h0
              go_wp2_with fail
              go_ret
              rw [HE.out]
              exact ⟨rfl, ST.out.2⟩
          · have ST := hid (AT.out.stop SE.out.1 h0 TO.out)
            have HE : Hid (cmt n s ls = doStp n s1 .sync) := hid (by unfold cmt; rw [if_pos CK0.out, ST.out.1, if_neg h0])
            have h0' : ((dSync s1).2 == 0) = false := by
              have h1 : ¬ (dSync s1).2 = 0 := h0
              simpa using h1
            clear h0
            go_wp2_with fail
            go_ret
            rw [HE.out]
            exact ⟨rfl, ST.out.2⟩
      · have HR := hid hrun
        have HE : Hid (cmt n s ls = (s', ev)) := hid (by unfold cmt; rw [if_pos CK0.out, HR.out, if_neg hev])
        have hev' : (ev == 0) = false := by simpa using hev
        have TO := hid hto
        clear hrun hto hev
        by_cases hlt : j < ls.length
        · go_wp2_with fail
          go_ret
          rw [HE.out]
          exact ⟨rfl, TO.out⟩
        · go_wp2_with fail
          go_ret
          rw [HE.out]
          exact ⟨rfl, TO.out⟩
  · have HE : Hid (cmt n s ls = (s, ck)) := hid (by unfold cmt; rw [if_neg (by rw [hck]; exact h0), hck])
    have h0' : (ck == 0) = false := by simpa using h0
    clear hck h0
    go_enter Try.func31, Try.ntmps31
    go_wp2_with fail
    refine HF.out.mono ?_
    rintro e1 w0 ⟨rfl, hb0⟩
    have B00 := hid hb0
    clear hb0 HF
    go_wp2_with fail
    refine wp_loop_rounds 1 ?_
    rw [rounds_succ]
    have hlz : 0 < ls.length ∨ ls.length = 0 := by omega
    rcases hlz with hlz | hlz
    · go_wp2_with fail
      go_ret
      rw [HE.out]
      exact ⟨rfl, fp, H.out.chg (Chg.new B00.out NoFp) (fun _ _ h => h), Chg.new B00.out fp, fun k h => .inl h⟩
    · go_wp2_with fail
      go_ret
      rw [HE.out]
      exact ⟨rfl, fp, H.out.chg (Chg.new B00.out NoFp) (fun _ _ h => h), Chg.new B00.out fp, fun k h => .inl h⟩
end Go.Proofs.Ytplahohlmiphoaa
