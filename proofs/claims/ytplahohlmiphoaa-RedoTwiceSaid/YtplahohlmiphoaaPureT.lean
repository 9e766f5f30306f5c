/- a commit whole, and what is done again behind a crash. -/
import Derived.Test.YtplahohlmiphoaaPureS
namespace Go.Proofs.Ytplahohlmiphoaa
open Go.RowKit
set_option linter.unusedVariables false

def CrashOk (n : Nat) (s : DS) (P : List UInt8 → Prop) : Prop := ∃ F S, Gone n s F S ∧ (∀ p ∈ S, p.1 < n ∧ p.2.length = 512) ∧ ∀ F', Btw n F S F' → P F'

theorem CrashOk.crash {n : Nat} {s : DS} {P : List UInt8 → Prop} (h : CrashOk n s P) (keep : List Bool) : ∃ F', P F' ∧ Rest n (dCrash s keep) F' ∧ (dCrash s keep).stop = 0 := by
  obtain ⟨F, S, hg, hS, hP⟩ := h
  obtain ⟨F', hb, hr⟩ := hg.crash hS keep
  exact ⟨F', hP F' hb, hr⟩
theorem CrashOk.mono {n : Nat} {s : DS} {P Q : List UInt8 → Prop} (h : CrashOk n s P) (hPQ : ∀ F, P F → Q F) : CrashOk n s Q := by
  obtain ⟨F, S, hg, hS, hP⟩ := h
  exact ⟨F, S, hg, hS, fun F' hb => hPQ _ (hP F' hb)⟩

def PAny (n : Nat) (ls : List (Int × List UInt8)) (K F : List UInt8) : Prop := PA n K F ∨ PB n ls K F ∨ PC n ls K F

theorem com_run {n : Nat} {ls : List (Int × List UInt8)} (h : LOk n ls) {s : DS} {K : List UInt8} (hs : Rest n s K) (h0 : row K 0 = z512) :
    (((cmt n s ls).2 = 0 ∧ ∃ F, Rest n (cmt n s ls).1 F ∧ PC n ls K F) ∨ ((cmt n s ls).2 = 13 ∧ CrashOk n (cmt n s ls).1 (PAny n ls K))) ∧
    (s.stop < 1 → (cmt n s ls).2 = 0 ∧ (cmt n s ls).1.stop = s.stop ∧ (cmt n s ls).1.ops = s.ops + (2 * ls.length + 6)) := by
  have hn := h.n
  have hlw := h.logOk
  have hhw := h.headOk
  have plw := prs_ok hlw
  have phw := prs_ok hhw
  have hlen := h.len
  have inLog : ∀ p ∈ prs (logWs ls), ∃ (i : Nat) (q : Int × List UInt8), ls[i]? = some q ∧ p = (1 + i, pad (le8 q.1 ++ q.2)) ∧ i < ls.length := fun p hp => by
    obtain ⟨w, hw, rfl⟩ := List.mem_map.1 hp
    obtain ⟨i, q, hq, rfl⟩ := logWs_mem hw
    refine ⟨i, q, hq, ?_, (List.getElem?_eq_some_iff.1 hq).1⟩
    show ((1 + (i : Int)).toNat, pad (le8 q.1 ++ q.2)) = _
    rw [show (1 + (i : Int)).toNat = 1 + i by omega]
  have ecmt : cmt n s ls = if (runStps n s (comSteps ls)).2 = 0 then runStps n (runStps n s (comSteps ls)).1 (finSteps ls) else runStps n s (comSteps ls) := by
    unfold cmt; rw [if_pos h.chk]
  rw [ecmt, comSteps_eq, runStps_append]
  obtain ⟨h1, h2⟩ := run_phase hs hlw
  generalize hr : runStps n s (phase (logWs ls)) = r at h1 h2
  rcases h1 with ⟨e0, hr1⟩ | ⟨e13, hg⟩
  · simp only [e0, if_true]
    obtain ⟨h3, h4⟩ := run_phase hr1 hhw
    generalize hr2 : runStps n r.1 (phase [(0, headB ls)]) = r2 at h3 h4
    have k0 : row (dAll (prs (logWs ls)) K) 0 = z512 := (row_dAll_out hs.len plw (fun p hp he => by obtain ⟨i, q, _, rfl, _⟩ := inLog p hp; have : 1 + i = 0 := he; omega)).trans h0
    have kl : ∀ (i : Nat) (q : Int × List UInt8), ls[i]? = some q → row (dAll (prs (logWs ls)) K) (1 + i) = pad (le8 q.1 ++ q.2) := fun i q hq => by
      refine row_dAll _ _ hs.len plw (fun p hp he => ?_) (.inr ⟨(1 + i, pad (le8 q.1 ++ q.2)), List.mem_map.2 ⟨_, logWs_get hq, ?_⟩, rfl⟩)
      · obtain ⟨i2, q2, hq2, rfl, _⟩ := inLog p hp
        have e : i2 = i := by have : 1 + i2 = 1 + i := he; omega
        subst e
        rw [Option.some.inj (hq2.symm.trans hq)]
      · show ((1 + (i : Int)).toNat, pad (le8 q.1 ++ q.2)) = _
        rw [show (1 + (i : Int)).toNat = 1 + i by omega]
    have kh : ∀ k, 401 ≤ k → k < n → row (dAll (prs (logWs ls)) K) k = row K k := fun k hk1 hk2 =>
      row_dAll_out hs.len plw (fun p hp he => by obtain ⟨i, q, _, rfl, _⟩ := inLog p hp; have : 1 + i = k := he; omega)
    rcases h3 with ⟨e0', hr3⟩ | ⟨e13', hg⟩
    · simp only [e0', if_true]
      have hPB : PB n ls K (dAll (prs [(0, headB ls)]) (dAll (prs (logWs ls)) K)) := by
        refine ⟨?_, fun i q hq => ?_, fun k hk1 hk2 _ => ?_⟩
        · refine row_dAll _ _ hr1.len phw (fun p hp _ => ?_) (.inr ⟨(0, pad (headB ls)), List.mem_singleton.2 rfl, rfl⟩)
          rw [show p = (0, pad (headB ls)) from List.mem_singleton.1 hp]
        · rw [row_dAll_out hr1.len phw (fun p hp he => by rw [show p = (0, pad (headB ls)) from List.mem_singleton.1 hp] at he; have : 0 = 1 + i := he; omega)]
          exact kl i q hq
        · rw [row_dAll_out hr1.len phw (fun p hp he => by rw [show p = (0, pad (headB ls)) from List.mem_singleton.1 hp] at he; have : 0 = k := he; omega)]
          exact kh k hk1 hk2
      obtain ⟨h5, h6⟩ := fin_run h rfl h.homesOk' rfl hr3 hPB
      refine ⟨?_, fun hst => ?_⟩
      · rcases h5 with h5 | ⟨e5, F1, S, hg, hS, hF⟩
        · exact .inl h5
        · exact .inr ⟨e5, F1, S, hg, hS, fun F' hb => .inr (hF F' hb)⟩
      · have h7 := h2 hst
        have h8 := h4 (by rw [h7.2.1]; exact hst)
        have h9 := h6 (by rw [h8.2.1, h7.2.1]; exact hst)
        refine ⟨h9.1, h9.2.1.trans (h8.2.1.trans h7.2.1), ?_⟩
        rw [h9.2.2, h8.2.2, h7.2.2, logWs_length, List.length_singleton]
        omega
    · have hne : ¬ r2.2 = 0 := by rw [e13']; decide
      simp only [hne, if_false]
      refine ⟨.inr ⟨e13', _, _, hg, phw, fun F' hb => ?_⟩, fun hst => ?_⟩
      · have other : ∀ k, 1 ≤ k → k < n → row F' k = row (dAll (prs (logWs ls)) K) k := fun k hk1 hk2 => by
          rcases hb.2 k hk2 with h9 | ⟨p, hp, he, _⟩
          · exact h9
          · rw [show p = (0, pad (headB ls)) from List.mem_singleton.1 hp] at he
            have : (0 : Nat) = k := he
            omega
        rcases hb.2 0 (by omega) with h9 | ⟨p, hp, he, h9⟩
        · exact .inl ⟨h9.trans k0, fun k hk1 hk2 => by rw [other k (by omega) hk2]; exact kh k hk1 hk2⟩
        · rw [show p = (0, pad (headB ls)) from List.mem_singleton.1 hp] at h9
          refine .inr (.inl ⟨h9, fun i q hq => ?_, fun k hk1 hk2 _ => ?_⟩)
          · have h8 := (List.getElem?_eq_some_iff.1 hq).1
            rw [other _ (by omega) (by omega)]; exact kl i q hq
          · rw [other k (by omega) hk2]; exact kh k hk1 hk2
      · have h7 := h2 hst
        have h8 := h4 (by rw [h7.2.1]; exact hst)
        omega
  · have hne : ¬ r.2 = 0 := by rw [e13]; decide
    simp only [hne, if_false]
    refine ⟨.inr ⟨e13, _, _, hg, plw, fun F' hb => .inl ⟨?_, fun k hk1 hk2 => ?_⟩⟩, fun hst => ?_⟩
    · rcases hb.2 0 (by omega) with h9 | ⟨p, hp, he, _⟩
      · exact h9.trans h0
      · obtain ⟨i, q, _, rfl, _⟩ := inLog p hp; have : 1 + i = 0 := he; omega
    · rcases hb.2 k hk2 with h9 | ⟨p, hp, he, _⟩
      · exact h9
      · obtain ⟨i, q, _, rfl, _⟩ := inLog p hp; have : 1 + i = k := he; omega
    · have := (h2 hst).1
      omega

theorem recov_rest {n : Nat} {s : DS} {F : List UInt8} (hs : Rest n s F) (h0 : row F 0 = z512) : recov n s = (s, 0, 0) :=
  recov_none hs.alive (cntOf_zero n _ (by rw [hs.now, h0, z512_take]))

theorem headB_length (ls : List (Int × List UInt8)) : (headB ls).length = 16 := by
  unfold headB
  rw [List.length_append, le8_length]
  rfl
theorem pad_take {a b : List UInt8} {k : Nat} (h : a.length = k) : (pad (a ++ b)).take k = a := by
  unfold pad
  rw [List.append_assoc, List.take_left' h]
theorem pad_drop {a b : List UInt8} {k : Nat} (h : a.length = k) : (pad (a ++ b)).drop k = b ++ List.replicate (512 - (a ++ b).length) 0 := by
  unfold pad
  rw [List.append_assoc, List.drop_left' h]
theorem num_le8s {z : Int} (h0 : -9223372036854775808 ≤ z) (h1 : z ≤ 9223372036854775807) : wrap64 (num (le8 z) : Nat) = z := num8 z h0 h1

theorem cntOf_head {n : Nat} {ls : List (Int × List UInt8)} (h : LOk n ls) : cntOf n (pad (headB ls)) = (ls.length : Int) := by
  have h1 := h.len1
  have h2 := h.len
  have h3 := h.n
  have hh : headN (pad (headB ls)) = (ls.length : Int) := by
    unfold headN headB
    rw [pad_drop (show markB.length = 8 from rfl), List.take_left' (le8_length _), num_le8s (by omega) (by omega)]
  unfold cntOf
  rw [hh, if_pos]
  refine ⟨?_, by omega, by omega, by omega⟩
  unfold headB
  rw [pad_take (show markB.length = 8 from rfl)]
  decide

def padL (ls : List (Int × List UInt8)) : List (Int × List UInt8) := ls.map fun q => (q.1, pad504 q.2)
theorem logOf_PB {n : Nat} {ls : List (Int × List UInt8)} {K F : List UInt8} (h : LOk n ls) (hn : n ≤ 3000) (hF : PB n ls K F) : logOf F ls.length = padL ls := by
  apply List.ext_getElem?
  intro i
  rcases Nat.lt_or_ge i ls.length with hi | hi
  · have hq : ls[i]? = some ls[i] := List.getElem?_eq_getElem hi
    have h5 := h.each _ (List.getElem_mem hi)
    rw [logOf_get hi, padL, List.getElem?_map, hq]
    unfold logRow
    rw [hF.2.1 i _ hq, pad_take (le8_length _), pad_drop (le8_length _), num_le8s (by omega) (by omega)]
    simp only [Option.map_some, Option.some.injEq, Prod.mk.injEq, true_and]
    unfold pad504
    rw [List.length_append, le8_length]
    congr 2
    omega
  · rw [List.getElem?_eq_none (by rw [logOf_length]; omega), List.getElem?_eq_none (by simp [padL]; omega)]

theorem rec_run {n : Nat} {ls : List (Int × List UInt8)} (h : LOk n ls) (hn : n ≤ 3000) {s : DS} {F K : List UInt8} (hs : Rest n s F) (hF : PB n ls K F) :
    (((recov n s).2.2 = 0 ∧ (recov n s).2.1 = (ls.length : Int) ∧ ∃ F', Rest n (recov n s).1 F' ∧ PC n ls K F') ∨
     ((recov n s).2.2 = 13 ∧ (recov n s).2.1 = 0 ∧ CrashOk n (recov n s).1 (PAny n ls K))) ∧
    (s.stop < 1 → (recov n s).2.2 = 0 ∧ (recov n s).1.stop = s.stop) ∧ (recov n s).1.ops ≤ s.ops + 500 := by
  have hnd : ¬ s.dead = true := by rw [hs.alive]; decide
  have hlen := h.len
  have hlen1 := h.len1
  have hc : cntOf n (row s.now 0) = (ls.length : Int) := by rw [hs.now, hF.1, cntOf_head h]
  have hlo : logOf s.now ls.length = padL ls := by rw [hs.now]; exact logOf_PB h hn hF
  have hho : homesOk n (padL ls) = true := by
    unfold homesOk padL
    rw [List.all_eq_true]
    intro q hq
    obtain ⟨q', hq', rfl⟩ := List.mem_map.1 hq
    have := h.each q' hq'
    simp
    omega
  have hrec : recov n s = if (runStps n s (finSteps (padL ls))).2 = 0 then ((runStps n s (finSteps (padL ls))).1, (ls.length : Int), 0) else ((runStps n s (finSteps (padL ls))).1, 0, (runStps n s (finSteps (padL ls))).2) := by
    unfold recov
    rw [if_neg hnd, hc, if_neg (by omega), Int.toNat_natCast, hlo, if_pos hho]
  have hprs : prs (padL ls) = prs ls := by
    unfold prs padL
    rw [List.map_map]
    apply List.map_congr_left
    intro q hq
    have := h.each q hq
    show (q.1.toNat, pad (pad504 q.2)) = _
    rw [pad_pad504 this.2.2]
  have hws : WsOk n (padL ls) := fun q hq => by
    obtain ⟨q', hq', rfl⟩ := List.mem_map.1 hq
    have := h.each q' hq'
    refine ⟨by show 0 ≤ q'.1; omega, by show q'.1 < (n : Int); omega, ?_⟩
    show (pad504 q'.2).length ≤ 512
    simp [pad504]; omega
  have hpl : (padL ls).length = ls.length := by simp [padL]
  obtain ⟨h1, h2⟩ := fin_run h hprs hws hpl hs hF
  have hops := runStps_ops n (finSteps (padL ls)) s
  rw [finSteps_length, hpl] at hops
  rw [hrec]
  generalize runStps n s (finSteps (padL ls)) = r at *
  by_cases e0 : r.2 = 0
  · rw [if_pos e0]
    refine ⟨.inl ⟨rfl, rfl, ?_⟩, fun hst => ⟨rfl, (h2 hst).2.1⟩, by push_cast at hops; show r.1.ops ≤ _; omega⟩
    rcases h1 with ⟨_, h1⟩ | ⟨e, _⟩
    · exact h1
    · omega
  · rw [if_neg e0]
    refine ⟨.inr ?_, fun hst => absurd (h2 hst).1 e0, by push_cast at hops; show r.1.ops ≤ _; omega⟩
    rcases h1 with ⟨e, _⟩ | ⟨e, F1, S, hg, hS, hP⟩
    · exact absurd e e0
    · exact ⟨e, rfl, F1, S, hg, hS, fun F' hb => .inr (hP F' hb)⟩
end Go.Proofs.Ytplahohlmiphoaa
