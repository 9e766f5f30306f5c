/- a commit, and a recovering, wherever the power goes: pure laws. -/
import Derived.Test.YtplahohlmiphoaaPureR
namespace Go.Proofs.Ytplahohlmiphoaa
open Go.RowKit
set_option linter.unusedVariables false

structure LOk (n : Nat) (ls : List (Int × List UInt8)) : Prop where
  len1 : 1 ≤ ls.length
  len : ls.length ≤ 400
  each : ∀ q ∈ ls, 401 ≤ q.1 ∧ q.1 < (n : Int) ∧ q.2.length ≤ 504
  dist : ls.Pairwise (fun a b => a.1 ≠ b.1)

theorem LOk.chk {n : Nat} {ls : List (Int × List UInt8)} (h : LOk n ls) : chk n ls = 0 := by
  have go : ∀ (ls before : List (Int × List UInt8)), (∀ q ∈ ls, 401 ≤ q.1 ∧ q.1 < (n : Int) ∧ q.2.length ≤ 504) → ls.Pairwise (fun a b => a.1 ≠ b.1) → (∀ p ∈ before, ∀ q ∈ ls, p.1 ≠ q.1) → scanPuts n before ls = 0 := by
    intro ls
    induction ls with
    | nil => intro before _ _ _; rfl
    | cons q r ih =>
      intro before h1 h2 h3
      have hq := h1 q (List.mem_cons_self ..)
      have ha : before.any (fun p => p.1 == q.1) = false := by
        rw [List.any_eq_false]
        intro p hp
        have := h3 p hp q (List.mem_cons_self ..)
        simpa using this
      have hok : okAt n before q = true := by
        unfold okAt
        rw [ha]
        simp
        omega
      rw [scanPuts, if_pos hok]
      rw [List.pairwise_cons] at h2
      refine ih _ (fun q hq => h1 q (List.mem_cons_of_mem _ hq)) h2.2 (fun p hp x hx => ?_)
      rcases List.mem_append.1 hp with hp | hp
      · exact h3 p hp x (List.mem_cons_of_mem _ hx)
      · rw [List.mem_singleton] at hp; subst hp
        exact h2.1 x hx
  unfold Go.Proofs.Ytplahohlmiphoaa.chk
  rw [if_neg (by have := h.len1; omega), if_neg (by have := h.len; omega)]
  exact go ls [] h.each h.dist (fun p hp => by cases hp)

theorem scanPuts_dist {n : Nat} : ∀ (ls before : List (Int × List UInt8)), scanPuts n before ls = 0 → ls.Pairwise (fun a b => a.1 ≠ b.1) ∧ ∀ p ∈ before, ∀ q ∈ ls, p.1 ≠ q.1
  | [], before, h => ⟨List.Pairwise.nil, fun p hp q hq => by cases hq⟩
  | q :: r, before, h => by
    rw [scanPuts] at h
    split at h
    · rename_i hok
      have ih := scanPuts_dist r _ h
      have hany : before.any (fun p => p.1 == q.1) = false := by
        unfold okAt at hok
        rw [Bool.and_eq_true, Bool.and_eq_true] at hok
        simpa using hok.1.2
      rw [List.any_eq_false] at hany
      refine ⟨List.pairwise_cons.2 ⟨fun x hx => ih.2 q (List.mem_append_right _ (List.mem_singleton.2 rfl)) x hx, ih.1⟩, fun p hp x hx => ?_⟩
      rcases List.mem_cons.1 hx with rfl | hx
      · have := hany p hp; simpa using this
      · exact ih.2 p (List.mem_append_left _ hp) x hx
    · omega
theorem LOk.of {n : Nat} {ls : List (Int × List UInt8)} (h : Go.Proofs.Ytplahohlmiphoaa.chk n ls = 0) : LOk n ls := by
  obtain ⟨h1, h2, h3⟩ := chk_zero h
  have h4 : scanPuts n [] ls = 0 := by
    unfold Go.Proofs.Ytplahohlmiphoaa.chk at h
    rwa [if_neg h2, if_neg (by omega)] at h
  exact ⟨by omega, h1, h3, (scanPuts_dist ls [] h4).1⟩

theorem LOk.same {n : Nat} {ls : List (Int × List UInt8)} (h : LOk n ls) {p q : Int × List UInt8} (hp : p ∈ ls) (hq : q ∈ ls) (he : p.1 = q.1) : p = q := by
  have hd := h.dist
  clear h
  induction ls with
  | nil => cases hp
  | cons x r ih =>
    rw [List.pairwise_cons] at hd
    rcases List.mem_cons.1 hp with e1 | hp1 <;> rcases List.mem_cons.1 hq with e2 | hq1
    · rw [e1, e2]
    · rw [e1] at he; exact absurd he (hd.1 q hq1)
    · rw [e2] at he; exact absurd he.symm (hd.1 p hp1)
    · exact ih hp1 hq1 hd.2

def headB (ls : List (Int × List UInt8)) : List UInt8 := markB ++ le8 ls.length
def logWs (ls : List (Int × List UInt8)) : List (Int × List UInt8) := ls.mapIdx fun i q => (1 + (i : Int), le8 q.1 ++ q.2)
theorem comSteps_eq (ls : List (Int × List UInt8)) : comSteps ls = phase (logWs ls) ++ phase [(0, headB ls)] := by
  have e : homeSteps (logWs ls) = logSteps ls := by
    apply List.ext_getElem?
    intro i
    simp only [homeSteps, logWs, logSteps, List.getElem?_map, List.getElem?_mapIdx, Option.map_map]
    rfl
  unfold phase comSteps
  rw [e, List.append_assoc]
  rfl
theorem finSteps_eq (ls : List (Int × List UInt8)) : finSteps ls = phase ls ++ phase [(0, [])] := by
  unfold phase finSteps
  rw [List.append_assoc]
  rfl

theorem logWs_mem {ls : List (Int × List UInt8)} {p : Int × List UInt8} (h : p ∈ logWs ls) : ∃ (i : Nat) (q : Int × List UInt8), ls[i]? = some q ∧ p = (1 + (i : Int), le8 q.1 ++ q.2) := by
  obtain ⟨i, hi, rfl⟩ := List.mem_iff_getElem.1 h
  have hi' : i < ls.length := by simpa [logWs] using hi
  exact ⟨i, ls[i], List.getElem?_eq_getElem hi', by simp [logWs]⟩
theorem logWs_get {ls : List (Int × List UInt8)} {i : Nat} {q : Int × List UInt8} (h : ls[i]? = some q) : (1 + (i : Int), le8 q.1 ++ q.2) ∈ logWs ls := by
  obtain ⟨hi, rfl⟩ := List.getElem?_eq_some_iff.1 h
  refine List.mem_iff_getElem.2 ⟨i, by simpa [logWs] using hi, by simp [logWs]⟩
theorem logWs_length (ls : List (Int × List UInt8)) : (logWs ls).length = ls.length := by simp [logWs]

theorem LOk.n {n : Nat} {ls : List (Int × List UInt8)} (h : LOk n ls) : 402 ≤ n := by
  have h1 := h.len1
  have := h.each ls[0] (List.getElem_mem h1)
  omega
theorem LOk.logOk {n : Nat} {ls : List (Int × List UInt8)} (h : LOk n ls) : WsOk n (logWs ls) := fun p hp => by
  obtain ⟨i, q, hq, rfl⟩ := logWs_mem hp
  have h1 := h.each q (List.mem_of_getElem? hq)
  have h2 := (List.getElem?_eq_some_iff.1 hq).1
  have h3 := h.len
  have h4 := h.n
  refine ⟨by show 0 ≤ 1 + (i : Int); omega, by show 1 + (i : Int) < (n : Int); omega, ?_⟩
  show (le8 q.1 ++ q.2).length ≤ 512
  rw [List.length_append, le8_length]; omega
theorem LOk.headOk {n : Nat} {ls : List (Int × List UInt8)} (h : LOk n ls) : WsOk n [(0, headB ls)] := fun p hp => by
  rw [List.mem_singleton] at hp; subst hp
  have h4 := h.n
  refine ⟨Int.le_refl _, by show (0 : Int) < n; omega, ?_⟩
  show (markB ++ le8 _).length ≤ 512
  rw [List.length_append, le8_length]; decide
theorem zeroOk {n : Nat} (h : 402 ≤ n) : WsOk n [(0, [])] := fun p hp => by
  rw [List.mem_singleton] at hp; subst hp
  exact ⟨Int.le_refl _, by show (0 : Int) < n; omega, by simp⟩
theorem LOk.homesOk' {n : Nat} {ls : List (Int × List UInt8)} (h : LOk n ls) : WsOk n ls := fun q hq => by
  have := h.each q hq
  omega

def haf (ls : List (Int × List UInt8)) (F : List UInt8) (k : Nat) : List UInt8 :=
  match ls.find? (fun q => q.1 == (k : Int)) with
  | some q => pad q.2
  | none => row F k
theorem haf_in {n : Nat} {ls : List (Int × List UInt8)} (h : LOk n ls) {F : List UInt8} {k : Nat} {q : Int × List UInt8} (hq : q ∈ ls) (hk : q.1 = (k : Int)) : haf ls F k = pad q.2 := by
  unfold haf
  cases hf : ls.find? (fun q => q.1 == (k : Int)) with
  | none =>
    have := List.find?_eq_none.1 hf q hq
    simp [hk] at this
  | some p =>
    have h1 := List.find?_some hf
    have h2 := List.mem_of_find?_eq_some hf
    have h3 : p.1 = q.1 := by rw [hk]; simpa using h1
    rw [h.same h2 hq h3]
theorem haf_out {ls : List (Int × List UInt8)} {F : List UInt8} {k : Nat} (h : ∀ q ∈ ls, q.1 ≠ (k : Int)) : haf ls F k = row F k := by
  unfold haf
  have hf : ls.find? (fun q => q.1 == (k : Int)) = none := by
    rw [List.find?_eq_none]
    intro q hq
    have := h q hq
    simpa using this
  rw [hf]

def PA (n : Nat) (K F : List UInt8) : Prop := row F 0 = z512 ∧ ∀ k, 401 ≤ k → k < n → row F k = row K k
def PB (n : Nat) (ls : List (Int × List UInt8)) (K F : List UInt8) : Prop :=
  row F 0 = pad (headB ls) ∧ (∀ (i : Nat) (q : Int × List UInt8), ls[i]? = some q → row F (1 + i) = pad (le8 q.1 ++ q.2)) ∧ ∀ k, 401 ≤ k → k < n → (∀ q ∈ ls, q.1 ≠ (k : Int)) → row F k = row K k
def PC (n : Nat) (ls : List (Int × List UInt8)) (K F : List UInt8) : Prop := row F 0 = z512 ∧ ∀ k, 401 ≤ k → k < n → row F k = haf ls K k

theorem pad_nil : pad [] = z512 := rfl

/-- homes written, the head struck -/
theorem fin_run {n : Nat} {ls ls' : List (Int × List UInt8)} (h : LOk n ls) (hp : prs ls' = prs ls) (hw' : WsOk n ls') (hl' : ls'.length = ls.length) {s : DS} {F K : List UInt8} (hs : Rest n s F) (hF : PB n ls K F) :
    (((runStps n s (finSteps ls')).2 = 0 ∧ ∃ F', Rest n (runStps n s (finSteps ls')).1 F' ∧ PC n ls K F') ∨
     ((runStps n s (finSteps ls')).2 = 13 ∧ ∃ F1 S, Gone n (runStps n s (finSteps ls')).1 F1 S ∧ (∀ p ∈ S, p.1 < n ∧ p.2.length = 512) ∧ ∀ F', Btw n F1 S F' → PB n ls K F' ∨ PC n ls K F')) ∧
    (s.stop < 1 → (runStps n s (finSteps ls')).2 = 0 ∧ (runStps n s (finSteps ls')).1.stop = s.stop ∧ (runStps n s (finSteps ls')).1.ops = s.ops + (ls.length + 3)) := by
  have hn := h.n
  have hz := zeroOk hn
  have hprs := prs_ok h.homesOk'
  have hpz := prs_ok hz
  rw [finSteps_eq, runStps_append]
  obtain ⟨h1, h2⟩ := run_phase hs hw'
  rw [hp] at h1
  generalize hr : runStps n s (phase ls') = r at h1 h2
  have inHomes : ∀ p ∈ prs ls, ∃ q ∈ ls, p = (q.1.toNat, pad q.2) ∧ 401 ≤ p.1 ∧ ((p.1 : Int) = q.1) := fun p hp => by
    obtain ⟨q, hq, rfl⟩ := List.mem_map.1 hp
    have := h.each q hq
    exact ⟨q, hq, rfl, by show 401 ≤ q.1.toNat; omega, by show ((q.1.toNat : Nat) : Int) = q.1; omega⟩
  rcases h1 with ⟨e0, hr1⟩ | ⟨e13, hg⟩
  · rw [if_pos e0]
    obtain ⟨h3, h4⟩ := run_phase hr1 hz
    -- the homes are whole
    have f0 : row (dAll (prs ls) F) 0 = pad (headB ls) := (row_dAll_out hs.len hprs (fun p hp he => by obtain ⟨q, hq, _, h9, _⟩ := inHomes p hp; omega)).trans hF.1
    have fl : ∀ (i : Nat) (q : Int × List UInt8), ls[i]? = some q → row (dAll (prs ls) F) (1 + i) = pad (le8 q.1 ++ q.2) := fun i q hq => by
      have h9 := (List.getElem?_eq_some_iff.1 hq).1
      have h8 := h.len
      exact (row_dAll_out hs.len hprs (fun p hp he => by obtain ⟨q, hq, _, h9, _⟩ := inHomes p hp; omega)).trans (hF.2.1 i q hq)
    have fh : ∀ k, 401 ≤ k → k < n → row (dAll (prs ls) F) k = haf ls K k := fun k hk1 hk2 => by
      by_cases hin : ∃ q ∈ ls, q.1 = (k : Int)
      · obtain ⟨q, hq, he⟩ := hin
        rw [haf_in h hq he]
        refine row_dAll _ _ hs.len hprs (fun p hp he2 => ?_) (.inr ⟨(q.1.toNat, pad q.2), List.mem_map.2 ⟨q, hq, rfl⟩, by show q.1.toNat = k; omega⟩)
        obtain ⟨q2, hq2, rfl, _, h9⟩ := inHomes p hp
        have : q2 = q := h.same hq2 hq (by omega)
        rw [this]
      · have hno : ∀ q ∈ ls, q.1 ≠ (k : Int) := fun q hq he => hin ⟨q, hq, he⟩
        rw [haf_out hno, row_dAll_out hs.len hprs (fun p hp he => by
          obtain ⟨q, hq, _, _, h9⟩ := inHomes p hp
          exact hno q hq (by omega))]
        exact hF.2.2 k hk1 hk2 hno
    refine ⟨?_, fun hst => ?_⟩
    · rcases h3 with ⟨e0', hr2⟩ | ⟨e13', hg⟩
      · refine .inl ⟨e0', _, hr2, ?_, fun k hk1 hk2 => ?_⟩
        · refine row_dAll _ _ hr1.len hpz (fun p hp _ => ?_) (.inr ⟨(0, pad []), List.mem_singleton.2 rfl, rfl⟩)
          rw [show p = (0, pad []) from List.mem_singleton.1 hp]; rfl
        · rw [row_dAll_out hr1.len hpz (fun p hp he => by rw [show p = (0, pad []) from List.mem_singleton.1 hp] at he; have : (0 : Nat) = k := he; omega)]
          exact fh k hk1 hk2
      · refine .inr ⟨e13', _, _, hg, hpz, fun F' hb => ?_⟩
        have other : ∀ k, 1 ≤ k → k < n → row F' k = row (dAll (prs ls) F) k := fun k hk1 hk2 => by
          rcases hb.2 k hk2 with h9 | ⟨p, hp, he, _⟩
          · exact h9
          · rw [show p = (0, pad []) from List.mem_singleton.1 hp] at he
            have : (0 : Nat) = k := he
            omega
        rcases hb.2 0 (by omega) with h9 | ⟨p, hp, he, h9⟩
        · left
          refine ⟨h9.trans f0, fun i q hq => ?_, fun k hk1 hk2 hno => ?_⟩
          · have h8 := (List.getElem?_eq_some_iff.1 hq).1
            have h7 := h.len
            rw [other _ (by omega) (by omega)]; exact fl i q hq
          · rw [other _ (by omega) hk2, fh k hk1 hk2, haf_out hno]
        · right
          rw [show p = (0, pad []) from List.mem_singleton.1 hp] at h9
          exact ⟨h9, fun k hk1 hk2 => by rw [other _ (by omega) hk2]; exact fh k hk1 hk2⟩
    · have h5 := h2 hst
      have h6 := h4 (by rw [h5.2.1]; exact hst)
      refine ⟨h6.1, h6.2.1.trans h5.2.1, ?_⟩
      rw [h6.2.2, h5.2.2, hl', List.length_singleton]
      omega
  · rw [if_neg (by rw [e13]; decide)]
    refine ⟨.inr ⟨e13, _, _, hg, hprs, fun F' hb => .inl ⟨?_, fun i q hq => ?_, fun k hk1 hk2 hno => ?_⟩⟩, fun hst => ?_⟩
    · rcases hb.2 0 (by omega) with h9 | ⟨p, hp, he, _⟩
      · exact h9.trans hF.1
      · obtain ⟨q, hq, _, h9, _⟩ := inHomes p hp; omega
    · have h8 := (List.getElem?_eq_some_iff.1 hq).1
      have h7 := h.len
      rcases hb.2 (1 + i) (by omega) with h9 | ⟨p, hp, he, _⟩
      · exact h9.trans (hF.2.1 i q hq)
      · obtain ⟨q, hq, _, h9, _⟩ := inHomes p hp; omega
    · rcases hb.2 k hk2 with h9 | ⟨p, hp, he, _⟩
      · exact h9.trans (hF.2.2 k hk1 hk2 hno)
      · obtain ⟨q, hq, _, _, h9⟩ := inHomes p hp
        exact absurd (by omega) (hno q hq)
    · have := (h2 hst).1
      omega
end Go.Proofs.Ytplahohlmiphoaa
