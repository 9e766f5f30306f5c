/- a log of pages, as pure data: what a crash may leave, what is done again. a commit, and a recovering, wherever the power goes: pure laws. a commit whole, and what is done again behind a crash. -/
import Derived.Test.YtdilkgcoecipjaaDAll
import Derived.Test.YtdilkgcoecipjaaPuts2
import Derived.Test.YtdilkgcoecipjaaNumLe
import Derived.Test.YtdilkgcoecipjaaRecs2
namespace Go.Proofs.Ytdilkgcoecipjaa
open Go.RowKit
set_option linter.unusedVariables false

/-- a disk that is at rest, its sectors F -/
structure Rest (n : Nat) (s : DS) (F : List UInt8) : Prop where
  alive : s.dead = false
  since : s.since = []
  now : s.now = F
  kept : s.kept = F
  len : F.length = n * 512
/-- a disk without power; S: what was written since F -/
structure Gone (n : Nat) (s : DS) (F : List UInt8) (S : List (Nat × List UInt8)) : Prop where
  dead : s.dead = true
  kept : s.kept = F
  since : ∀ p ∈ s.since, p ∈ S
  len : F.length = n * 512

def prs (ws : List (Int × List UInt8)) : List (Nat × List UInt8) := ws.map fun q => (q.1.toNat, pad q.2)
def WsOk (n : Nat) (ws : List (Int × List UInt8)) : Prop := ∀ q ∈ ws, 0 ≤ q.1 ∧ q.1 < (n : Int) ∧ q.2.length ≤ 512
theorem prs_ok {n : Nat} {ws : List (Int × List UInt8)} (h : WsOk n ws) : ∀ p ∈ prs ws, p.1 < n ∧ p.2.length = 512 := by
  intro p hp
  obtain ⟨q, hq, rfl⟩ := List.mem_map.1 hp
  have := h q hq
  exact ⟨by show q.1.toNat < n; omega, pad_length this.2.2⟩

theorem runStps_append (n : Nat) (a b : List Stp) : ∀ s, runStps n s (a ++ b) = if (runStps n s a).2 = 0 then runStps n (runStps n s a).1 b else runStps n s a := by
  induction a with
  | nil => intro s; rw [List.nil_append, runStps, if_pos rfl]
  | cons x r ih =>
    intro s
    rw [List.cons_append, runStps, runStps]
    by_cases h : (doStp n s x).2 = 0
    · rw [if_pos h, if_pos h, ih]
    · rw [if_neg h, if_neg h, if_neg h]

theorem dStep_dead (s : DS) : (dStep s).dead = (if dStepGone s then true else (if s.stop < 1 then s.dead else false)) := by
  unfold dStep dStepGone
  by_cases h : s.stop < 1
  · rw [if_pos h, if_pos h]; simp [h]
  · rw [if_neg h, if_neg h]
    cases hb : (s.stop - 1 == 0) <;> simp [h]
theorem dStep_alive {s : DS} (h : s.dead = false) (hg : dStepGone s = false) : (dStep s).dead = false := by
  rw [dStep_dead, hg, if_neg (by decide), h]; simp
theorem dStep_gone {s : DS} (hg : dStepGone s = true) : (dStep s).dead = true := by rw [dStep_dead, hg, if_pos rfl]

/-- writes, one behind the other -/
theorem run_writes (n : Nat) (F : List UInt8) (hF : F.length = n * 512) : ∀ (ws : List (Int × List UInt8)) (W : List (Nat × List UInt8)) (s : DS), WsOk n ws → s.dead = false → s.kept = F → s.since = W → s.now = dAll W F →
    let r := runStps n s (homeSteps ws)
    ((r.2 = 0 ∧ r.1.dead = false ∧ r.1.kept = F ∧ r.1.since = W ++ prs ws ∧ r.1.now = dAll (W ++ prs ws) F) ∨
     (r.2 = 13 ∧ r.1.dead = true ∧ r.1.kept = F ∧ ∀ p ∈ r.1.since, p ∈ W ++ prs ws)) ∧
    (s.stop < 1 → r.2 = 0 ∧ r.1.stop = s.stop ∧ r.1.ops = s.ops + ws.length)
  | [], W, s, hw, hd, hk, hs, hn => by
    have e : runStps n s (homeSteps []) = (s, 0) := rfl
    rw [e]
    refine ⟨.inl ⟨rfl, hd, hk, by simpa [prs] using hs, by simpa [prs] using hn⟩, fun _ => ⟨rfl, rfl, by simp⟩⟩
  | q :: ws, W, s, hw, hd, hk, hs, hn => by
    have hq := hw q (List.mem_cons_self ..)
    have hw' : WsOk n ws := fun p hp => hw p (List.mem_cons_of_mem _ hp)
    have hdo : doStp n s (.write q.1 q.2) = (dStep (dWritten s q.1.toNat q.2), if dStepGone s then 13 else 0) := by
      show dWrite n s q.1 q.2 = _
      unfold dWrite
      rw [if_neg (by rw [hd]; decide), if_neg (by omega)]
    have hrun : runStps n s (homeSteps (q :: ws)) = if (doStp n s (.write q.1 q.2)).2 = 0 then runStps n (doStp n s (.write q.1 q.2)).1 (homeSteps ws) else doStp n s (.write q.1 q.2) := rfl
    have hgw : dStepGone (dWritten s q.1.toNat q.2) = dStepGone s := rfl
    have e1 : (dWritten s q.1.toNat q.2).since = W ++ [(q.1.toNat, pad q.2)] := by show s.since ++ _ = _; rw [hs]
    have e2 : (dWritten s q.1.toNat q.2).now = dAll (W ++ [(q.1.toNat, pad q.2)]) F := by
      show setRowAt s.now _ _ = _
      rw [hn, dAll_snoc]
    have hp : prs (q :: ws) = (q.1.toNat, pad q.2) :: prs ws := rfl
    rcases Bool.eq_false_or_eq_true (dStepGone s) with hg | hg
    · have h2 : ¬ (doStp n s (.write q.1 q.2)).2 = 0 := by rw [hdo, hg]; simp
      rw [hrun, if_neg h2, hdo, hg]
      refine ⟨.inr ⟨rfl, dStep_gone (hgw.trans hg), by rw [dStep_kept]; exact hk, ?_⟩, fun hst => ?_⟩
      · rw [dStep_since, e1, hp]
        intro p hp
        rcases List.mem_append.1 hp with h | h
        · exact List.mem_append_left _ h
        · rw [List.mem_singleton] at h; subst h
          exact List.mem_append_right _ (List.mem_cons_self ..)
      · rw [dStepGone_calm hst] at hg; cases hg
    · have h2 : (doStp n s (.write q.1 q.2)).2 = 0 := by rw [hdo, hg]; rfl
      rw [hrun, if_pos h2, hdo]
      have ih := run_writes n F hF ws (W ++ [(q.1.toNat, pad q.2)]) (dStep (dWritten s q.1.toNat q.2)) hw' (dStep_alive hd (hgw.trans hg)) (by rw [dStep_kept]; exact hk) (by rw [dStep_since]; exact e1) (by rw [dStep_now]; exact e2)
      have hpp : W ++ [(q.1.toNat, pad q.2)] ++ prs ws = W ++ prs (q :: ws) := by rw [hp, List.append_assoc]; rfl
      rw [hpp] at ih
      refine ⟨ih.1, fun hst => ?_⟩
      have hst2 : (dStep (dWritten s q.1.toNat q.2)).stop = s.stop := by rw [dStep_calm (show (dWritten s q.1.toNat q.2).stop < 1 from hst)]; rfl
      have h3 := ih.2 (by rw [hst2]; exact hst)
      refine ⟨h3.1, h3.2.1.trans hst2, ?_⟩
      rw [h3.2.2, dStep_ops]
      have : (dWritten s q.1.toNat q.2).ops = s.ops := rfl
      rw [this, List.length_cons]; push_cast; omega

def phase (ws : List (Int × List UInt8)) : List Stp := homeSteps ws ++ [.sync]

/-- writes, and a sync -/
theorem run_phase {n : Nat} {s : DS} {F : List UInt8} (hs : Rest n s F) {ws : List (Int × List UInt8)} (hw : WsOk n ws) :
    (((runStps n s (phase ws)).2 = 0 ∧ Rest n (runStps n s (phase ws)).1 (dAll (prs ws) F)) ∨ ((runStps n s (phase ws)).2 = 13 ∧ Gone n (runStps n s (phase ws)).1 F (prs ws))) ∧
    (s.stop < 1 → (runStps n s (phase ws)).2 = 0 ∧ (runStps n s (phase ws)).1.stop = s.stop ∧ (runStps n s (phase ws)).1.ops = s.ops + (ws.length + 1)) := by
  have h := run_writes n F hs.len ws [] s hw hs.alive hs.kept hs.since (by rw [hs.now]; rfl)
  simp only [List.nil_append] at h
  unfold phase
  rw [runStps_append]
  generalize hr : runStps n s (homeSteps ws) = r at h
  obtain ⟨h1, h2⟩ := h
  have hlen : (dAll (prs ws) F).length = n * 512 := dAll_length _ _ (prs_ok hw) hs.len
  rcases h1 with ⟨e0, ha, hk, hsi, hn⟩ | ⟨e13, hd, hk, hsi⟩
  · rw [if_pos e0]
    have hsy : runStps n r.1 [.sync] = dSync r.1 := by
      show (if (dSync r.1).2 = 0 then ((dSync r.1).1, (0 : Int)) else dSync r.1) = _
      by_cases h0 : (dSync r.1).2 = 0
      · rw [if_pos h0, ← h0]
      · rw [if_neg h0]
    rw [hsy]
    have hu : dSync r.1 = if dStepGone r.1 then (dStep r.1, 13) else (dSynced (dStep r.1), 0) := by unfold dSync; rw [if_neg (by rw [ha]; decide)]
    rw [hu]
    rcases Bool.eq_false_or_eq_true (dStepGone r.1) with hg | hg
    · rw [if_pos hg]
      refine ⟨.inr ⟨rfl, dStep_gone hg, by rw [dStep_kept]; exact hk, ?_, hs.len⟩, fun hst => ?_⟩
      · rw [dStep_since, hsi]; exact fun p hp => hp
      · have := h2 hst
        rw [dStepGone_calm (by omega)] at hg; cases hg
    · rw [if_neg (by rw [hg]; decide)]
      refine ⟨.inl ⟨rfl, ⟨dStep_alive ha hg, rfl, ?_, ?_, hlen⟩⟩, fun hst => ⟨rfl, ?_, ?_⟩⟩
      · show (dStep r.1).now = _; rw [dStep_now]; exact hn
      · show (dStep r.1).now = _; rw [dStep_now]; exact hn
      · have h3 := h2 hst
        show (dStep r.1).stop = _
        rw [dStep_calm (by omega)]; exact h3.2.1
      · have h3 := h2 hst
        show (dStep r.1).ops = _
        rw [dStep_ops, h3.2.2]; omega
  · rw [if_neg (by rw [e13]; decide)]
    refine ⟨.inr ⟨e13, hd, hk, hsi, hs.len⟩, fun hst => ?_⟩
    have := (h2 hst).1
    omega

/-- what a crash may leave of F, when S was written since -/
def Btw (n : Nat) (F : List UInt8) (S : List (Nat × List UInt8)) (F' : List UInt8) : Prop :=
  F'.length = n * 512 ∧ ∀ k, k < n → row F' k = row F k ∨ ∃ p ∈ S, p.1 = k ∧ row F' k = p.2

theorem dKept_btw {n : Nat} {S : List (Nat × List UInt8)} (hS : ∀ p ∈ S, p.1 < n ∧ p.2.length = 512) : ∀ (bs : List Bool) (ps : List (Nat × List UInt8)) (F : List UInt8), F.length = n * 512 → (∀ p ∈ ps, p ∈ S) →
    ∀ F0, Btw n F0 S F → Btw n F0 S (dKept bs ps F)
  | [], ps, F, hF, hp, F0, h => by rw [dKept_nil1]; exact h
  | b :: bs, [], F, hF, hp, F0, h => by rw [dKept_nil2]; exact h
  | b :: bs, p :: ps, F, hF, hp, F0, h => by
    have hp0 := hS p (hp p (List.mem_cons_self ..))
    have hps : ∀ q ∈ ps, q ∈ S := fun q hq => hp q (List.mem_cons_of_mem _ hq)
    show Btw n F0 S (dKept bs ps (if b then setRowAt F p.1 p.2 else F))
    cases b with
    | false => exact dKept_btw hS bs ps F hF hps F0 h
    | true =>
      rw [if_pos rfl]
      have hk512 : (p.1 + 1) * 512 ≤ n * 512 := Nat.mul_le_mul_right _ hp0.1
      have hl : (setRowAt F p.1 p.2).length = n * 512 := (splice_length _ _ _ (by rw [hp0.2, hF]; omega)).trans hF
      refine dKept_btw hS bs ps _ hl hps F0 ⟨hl, fun k hk => ?_⟩
      rw [row_set hF hp0.1 hp0.2]
      by_cases e : p.1 = k
      · rw [if_pos e]; exact .inr ⟨p, hp p (List.mem_cons_self ..), e, rfl⟩
      · rw [if_neg e]; exact h.2 k hk

theorem Btw.refl {n : Nat} {F : List UInt8} {S : List (Nat × List UInt8)} (h : F.length = n * 512) : Btw n F S F := ⟨h, fun _ _ => .inl rfl⟩

theorem Gone.crash {n : Nat} {s : DS} {F : List UInt8} {S : List (Nat × List UInt8)} (h : Gone n s F S) (hS : ∀ p ∈ S, p.1 < n ∧ p.2.length = 512) (keep : List Bool) : ∃ F', Btw n F S F' ∧ Rest n (dCrash s keep) F' ∧ (dCrash s keep).stop = 0 := by
  have h1 := dKept_btw hS keep s.since s.kept (by rw [h.kept]; exact h.len) h.since F (by rw [h.kept]; exact Btw.refl h.len)
  exact ⟨_, h1, ⟨rfl, rfl, rfl, rfl, h1.1⟩, rfl⟩
theorem Rest.crash {n : Nat} {s : DS} {F : List UInt8} (h : Rest n s F) (keep : List Bool) : Rest n (dCrash s keep) F ∧ (dCrash s keep).stop = 0 := by
  have e : dKept keep s.since s.kept = F := by rw [h.since, dKept_nil2, h.kept]
  exact ⟨⟨rfl, rfl, e, e, h.len⟩, rfl⟩

theorem row_dAll {n k : Nat} {b : List UInt8} : ∀ (ps : List (Nat × List UInt8)) (F : List UInt8), F.length = n * 512 → (∀ p ∈ ps, p.1 < n ∧ p.2.length = 512) → (∀ p ∈ ps, p.1 = k → p.2 = b) → (row F k = b ∨ ∃ p ∈ ps, p.1 = k) → row (dAll ps F) k = b
  | [], F, hF, hp, hb, h => by
    rcases h with h | ⟨p, hp, _⟩
    · exact h
    · cases hp
  | p :: ps, F, hF, hp, hb, h => by
    have hp0 := hp p (List.mem_cons_self ..)
    have hk512 : (p.1 + 1) * 512 ≤ n * 512 := Nat.mul_le_mul_right _ hp0.1
    have hl : (setRowAt F p.1 p.2).length = n * 512 := (splice_length _ _ _ (by rw [hp0.2, hF]; omega)).trans hF
    show row (dAll ps (setRowAt F p.1 p.2)) k = b
    refine row_dAll ps _ hl (fun q hq => hp q (List.mem_cons_of_mem _ hq)) (fun q hq => hb q (List.mem_cons_of_mem _ hq)) ?_
    rw [row_set hF hp0.1 hp0.2]
    by_cases e : p.1 = k
    · rw [if_pos e]; exact .inl (hb p (List.mem_cons_self ..) e)
    · rw [if_neg e]
      rcases h with h | ⟨q, hq, hk⟩
      · exact .inl h
      · rcases List.mem_cons.1 hq with rfl | hq
        · exact absurd hk e
        · exact .inr ⟨q, hq, hk⟩
theorem row_dAll_out {n k : Nat} {ps : List (Nat × List UInt8)} {F : List UInt8} (hF : F.length = n * 512) (hp : ∀ p ∈ ps, p.1 < n ∧ p.2.length = 512) (h : ∀ p ∈ ps, p.1 ≠ k) : row (dAll ps F) k = row F k :=
  row_dAll ps F hF hp (fun p hp e => absurd e (h p hp)) (.inl rfl)
end Go.Proofs.Ytdilkgcoecipjaa

namespace Go.Proofs.Ytdilkgcoecipjaa
open Go.RowKit
set_option linter.unusedVariables false

structure LOk (n : Nat) (ls : List (Int × List UInt8)) : Prop where
  len1 : 1 ≤ ls.length
  len : ls.length ≤ 400
  each : ∀ q ∈ ls, 401 ≤ q.1 ∧ q.1 < (n : Int) ∧ q.2.length ≤ 504
  dist : ls.Pairwise (fun a b => a.1 ≠ b.1)

theorem LOk.chk {n : Nat} {ls : List (Int × List UInt8)} (h : LOk n ls) : chk n ls = 0 := by
  have go : ∀ (ls before : List (Int × List UInt8)), (∀ q ∈ ls, 401 ≤ q.1 ∧ q.1 < (n : Int) ∧ q.2.length ≤ 504) → ls.Pairwise (fun a b => a.1 ≠ b.1) → (∀ p ∈ before, ∀ q ∈ ls, p.1 ≠ q.1) → scanPuts n before ls = 0 := by
    intro ls
    induction ls with
    | nil => intro before _ _ _; rfl
    | cons q r ih =>
      intro before h1 h2 h3
      have hq := h1 q (List.mem_cons_self ..)
      have ha : before.any (fun p => p.1 == q.1) = false := by
        rw [List.any_eq_false]
        intro p hp
        have := h3 p hp q (List.mem_cons_self ..)
        simpa using this
      have hok : okAt n before q = true := by
        unfold okAt
        rw [ha]
        simp
        omega
      rw [scanPuts, if_pos hok]
      rw [List.pairwise_cons] at h2
      refine ih _ (fun q hq => h1 q (List.mem_cons_of_mem _ hq)) h2.2 (fun p hp x hx => ?_)
      rcases List.mem_append.1 hp with hp | hp
      · exact h3 p hp x (List.mem_cons_of_mem _ hx)
      · rw [List.mem_singleton] at hp; subst hp
        exact h2.1 x hx
  unfold Go.Proofs.Ytdilkgcoecipjaa.chk
  rw [if_neg (by have := h.len1; omega), if_neg (by have := h.len; omega)]
  exact go ls [] h.each h.dist (fun p hp => by cases hp)

theorem scanPuts_dist {n : Nat} : ∀ (ls before : List (Int × List UInt8)), scanPuts n before ls = 0 → ls.Pairwise (fun a b => a.1 ≠ b.1) ∧ ∀ p ∈ before, ∀ q ∈ ls, p.1 ≠ q.1
  | [], before, h => ⟨List.Pairwise.nil, fun p hp q hq => by cases hq⟩
  | q :: r, before, h => by
    rw [scanPuts] at h
    split at h
    · rename_i hok
      have ih := scanPuts_dist r _ h
      have hany : before.any (fun p => p.1 == q.1) = false := by
        unfold okAt at hok
        rw [Bool.and_eq_true, Bool.and_eq_true] at hok
        simpa using hok.1.2
      rw [List.any_eq_false] at hany
      refine ⟨List.pairwise_cons.2 ⟨fun x hx => ih.2 q (List.mem_append_right _ (List.mem_singleton.2 rfl)) x hx, ih.1⟩, fun p hp x hx => ?_⟩
      rcases List.mem_cons.1 hx with rfl | hx
      · have := hany p hp; simpa using this
      · exact ih.2 p (List.mem_append_left _ hp) x hx
    · omega
theorem LOk.of {n : Nat} {ls : List (Int × List UInt8)} (h : Go.Proofs.Ytdilkgcoecipjaa.chk n ls = 0) : LOk n ls := by
  obtain ⟨h1, h2, h3⟩ := chk_zero h
  have h4 : scanPuts n [] ls = 0 := by
    unfold Go.Proofs.Ytdilkgcoecipjaa.chk at h
    rwa [if_neg h2, if_neg (by omega)] at h
  exact ⟨by omega, h1, h3, (scanPuts_dist ls [] h4).1⟩

theorem LOk.same {n : Nat} {ls : List (Int × List UInt8)} (h : LOk n ls) {p q : Int × List UInt8} (hp : p ∈ ls) (hq : q ∈ ls) (he : p.1 = q.1) : p = q := by
  have hd := h.dist
  clear h
  induction ls with
  | nil => cases hp
  | cons x r ih =>
    rw [List.pairwise_cons] at hd
    rcases List.mem_cons.1 hp with e1 | hp1 <;> rcases List.mem_cons.1 hq with e2 | hq1
    · rw [e1, e2]
    · rw [e1] at he; exact absurd he (hd.1 q hq1)
    · rw [e2] at he; exact absurd he.symm (hd.1 p hp1)
    · exact ih hp1 hq1 hd.2

def headB (ls : List (Int × List UInt8)) : List UInt8 := markB ++ le8 ls.length
def logWs (ls : List (Int × List UInt8)) : List (Int × List UInt8) := ls.mapIdx fun i q => (1 + (i : Int), le8 q.1 ++ q.2)
theorem comSteps_eq (ls : List (Int × List UInt8)) : comSteps ls = phase (logWs ls) ++ phase [(0, headB ls)] := by
  have e : homeSteps (logWs ls) = logSteps ls := by
    apply List.ext_getElem?
    intro i
    simp only [homeSteps, logWs, logSteps, List.getElem?_map, List.getElem?_mapIdx, Option.map_map]
    rfl
  unfold phase comSteps
  rw [e, List.append_assoc]
  rfl
theorem finSteps_eq (ls : List (Int × List UInt8)) : finSteps ls = phase ls ++ phase [(0, [])] := by
  unfold phase finSteps
  rw [List.append_assoc]
  rfl

theorem logWs_mem {ls : List (Int × List UInt8)} {p : Int × List UInt8} (h : p ∈ logWs ls) : ∃ (i : Nat) (q : Int × List UInt8), ls[i]? = some q ∧ p = (1 + (i : Int), le8 q.1 ++ q.2) := by
  obtain ⟨i, hi, rfl⟩ := List.mem_iff_getElem.1 h
  have hi' : i < ls.length := by simpa [logWs] using hi
  exact ⟨i, ls[i], List.getElem?_eq_getElem hi', by simp [logWs]⟩
theorem logWs_get {ls : List (Int × List UInt8)} {i : Nat} {q : Int × List UInt8} (h : ls[i]? = some q) : (1 + (i : Int), le8 q.1 ++ q.2) ∈ logWs ls := by
  obtain ⟨hi, rfl⟩ := List.getElem?_eq_some_iff.1 h
  refine List.mem_iff_getElem.2 ⟨i, by simpa [logWs] using hi, by simp [logWs]⟩
theorem logWs_length (ls : List (Int × List UInt8)) : (logWs ls).length = ls.length := by simp [logWs]

theorem LOk.n {n : Nat} {ls : List (Int × List UInt8)} (h : LOk n ls) : 402 ≤ n := by
  have h1 := h.len1
  have := h.each ls[0] (List.getElem_mem h1)
  omega
theorem LOk.logOk {n : Nat} {ls : List (Int × List UInt8)} (h : LOk n ls) : WsOk n (logWs ls) := fun p hp => by
  obtain ⟨i, q, hq, rfl⟩ := logWs_mem hp
  have h1 := h.each q (List.mem_of_getElem? hq)
  have h2 := (List.getElem?_eq_some_iff.1 hq).1
  have h3 := h.len
  have h4 := h.n
  refine ⟨by show 0 ≤ 1 + (i : Int); omega, by show 1 + (i : Int) < (n : Int); omega, ?_⟩
  show (le8 q.1 ++ q.2).length ≤ 512
  rw [List.length_append, le8_length]; omega
theorem LOk.headOk {n : Nat} {ls : List (Int × List UInt8)} (h : LOk n ls) : WsOk n [(0, headB ls)] := fun p hp => by
  rw [List.mem_singleton] at hp; subst hp
  have h4 := h.n
  refine ⟨Int.le_refl _, by show (0 : Int) < n; omega, ?_⟩
  show (markB ++ le8 _).length ≤ 512
  rw [List.length_append, le8_length]; decide
theorem zeroOk {n : Nat} (h : 402 ≤ n) : WsOk n [(0, [])] := fun p hp => by
  rw [List.mem_singleton] at hp; subst hp
  exact ⟨Int.le_refl _, by show (0 : Int) < n; omega, by simp⟩
theorem LOk.homesOk' {n : Nat} {ls : List (Int × List UInt8)} (h : LOk n ls) : WsOk n ls := fun q hq => by
  have := h.each q hq
  omega

def haf (ls : List (Int × List UInt8)) (F : List UInt8) (k : Nat) : List UInt8 :=
  match ls.find? (fun q => q.1 == (k : Int)) with
  | some q => pad q.2
  | none => row F k
theorem haf_in {n : Nat} {ls : List (Int × List UInt8)} (h : LOk n ls) {F : List UInt8} {k : Nat} {q : Int × List UInt8} (hq : q ∈ ls) (hk : q.1 = (k : Int)) : haf ls F k = pad q.2 := by
  unfold haf
  cases hf : ls.find? (fun q => q.1 == (k : Int)) with
  | none =>
    have := List.find?_eq_none.1 hf q hq
    simp [hk] at this
  | some p =>
    have h1 := List.find?_some hf
    have h2 := List.mem_of_find?_eq_some hf
    have h3 : p.1 = q.1 := by rw [hk]; simpa using h1
    rw [h.same h2 hq h3]
theorem haf_out {ls : List (Int × List UInt8)} {F : List UInt8} {k : Nat} (h : ∀ q ∈ ls, q.1 ≠ (k : Int)) : haf ls F k = row F k := by
  unfold haf
  have hf : ls.find? (fun q => q.1 == (k : Int)) = none := by
    rw [List.find?_eq_none]
    intro q hq
    have := h q hq
    simpa using this
  rw [hf]

def PA (n : Nat) (K F : List UInt8) : Prop := row F 0 = z512 ∧ ∀ k, 401 ≤ k → k < n → row F k = row K k
def PB (n : Nat) (ls : List (Int × List UInt8)) (K F : List UInt8) : Prop :=
  row F 0 = pad (headB ls) ∧ (∀ (i : Nat) (q : Int × List UInt8), ls[i]? = some q → row F (1 + i) = pad (le8 q.1 ++ q.2)) ∧ ∀ k, 401 ≤ k → k < n → (∀ q ∈ ls, q.1 ≠ (k : Int)) → row F k = row K k
def PC (n : Nat) (ls : List (Int × List UInt8)) (K F : List UInt8) : Prop := row F 0 = z512 ∧ ∀ k, 401 ≤ k → k < n → row F k = haf ls K k

theorem pad_nil : pad [] = z512 := rfl

/-- homes written, the head struck -/
theorem fin_run {n : Nat} {ls ls' : List (Int × List UInt8)} (h : LOk n ls) (hp : prs ls' = prs ls) (hw' : WsOk n ls') (hl' : ls'.length = ls.length) {s : DS} {F K : List UInt8} (hs : Rest n s F) (hF : PB n ls K F) :
    (((runStps n s (finSteps ls')).2 = 0 ∧ ∃ F', Rest n (runStps n s (finSteps ls')).1 F' ∧ PC n ls K F') ∨
     ((runStps n s (finSteps ls')).2 = 13 ∧ ∃ F1 S, Gone n (runStps n s (finSteps ls')).1 F1 S ∧ (∀ p ∈ S, p.1 < n ∧ p.2.length = 512) ∧ ∀ F', Btw n F1 S F' → PB n ls K F' ∨ PC n ls K F')) ∧
    (s.stop < 1 → (runStps n s (finSteps ls')).2 = 0 ∧ (runStps n s (finSteps ls')).1.stop = s.stop ∧ (runStps n s (finSteps ls')).1.ops = s.ops + (ls.length + 3)) := by
  have hn := h.n
  have hz := zeroOk hn
  have hprs := prs_ok h.homesOk'
  have hpz := prs_ok hz
  rw [finSteps_eq, runStps_append]
  obtain ⟨h1, h2⟩ := run_phase hs hw'
  rw [hp] at h1
  generalize hr : runStps n s (phase ls') = r at h1 h2
  have inHomes : ∀ p ∈ prs ls, ∃ q ∈ ls, p = (q.1.toNat, pad q.2) ∧ 401 ≤ p.1 ∧ ((p.1 : Int) = q.1) := fun p hp => by
    obtain ⟨q, hq, rfl⟩ := List.mem_map.1 hp
    have := h.each q hq
    exact ⟨q, hq, rfl, by show 401 ≤ q.1.toNat; omega, by show ((q.1.toNat : Nat) : Int) = q.1; omega⟩
  rcases h1 with ⟨e0, hr1⟩ | ⟨e13, hg⟩
  · rw [if_pos e0]
    obtain ⟨h3, h4⟩ := run_phase hr1 hz
    -- the homes are whole
    have f0 : row (dAll (prs ls) F) 0 = pad (headB ls) := (row_dAll_out hs.len hprs (fun p hp he => by obtain ⟨q, hq, _, h9, _⟩ := inHomes p hp; omega)).trans hF.1
    have fl : ∀ (i : Nat) (q : Int × List UInt8), ls[i]? = some q → row (dAll (prs ls) F) (1 + i) = pad (le8 q.1 ++ q.2) := fun i q hq => by
      have h9 := (List.getElem?_eq_some_iff.1 hq).1
      have h8 := h.len
      exact (row_dAll_out hs.len hprs (fun p hp he => by obtain ⟨q, hq, _, h9, _⟩ := inHomes p hp; omega)).trans (hF.2.1 i q hq)
    have fh : ∀ k, 401 ≤ k → k < n → row (dAll (prs ls) F) k = haf ls K k := fun k hk1 hk2 => by
      by_cases hin : ∃ q ∈ ls, q.1 = (k : Int)
      · obtain ⟨q, hq, he⟩ := hin
        rw [haf_in h hq he]
        refine row_dAll _ _ hs.len hprs (fun p hp he2 => ?_) (.inr ⟨(q.1.toNat, pad q.2), List.mem_map.2 ⟨q, hq, rfl⟩, by show q.1.toNat = k; omega⟩)
        obtain ⟨q2, hq2, rfl, _, h9⟩ := inHomes p hp
        have : q2 = q := h.same hq2 hq (by omega)
        rw [this]
      · have hno : ∀ q ∈ ls, q.1 ≠ (k : Int) := fun q hq he => hin ⟨q, hq, he⟩
        rw [haf_out hno, row_dAll_out hs.len hprs (fun p hp he => by
          obtain ⟨q, hq, _, _, h9⟩ := inHomes p hp
          exact hno q hq (by omega))]
        exact hF.2.2 k hk1 hk2 hno
    refine ⟨?_, fun hst => ?_⟩
    · rcases h3 with ⟨e0', hr2⟩ | ⟨e13', hg⟩
      · refine .inl ⟨e0', _, hr2, ?_, fun k hk1 hk2 => ?_⟩
        · refine row_dAll _ _ hr1.len hpz (fun p hp _ => ?_) (.inr ⟨(0, pad []), List.mem_singleton.2 rfl, rfl⟩)
          rw [show p = (0, pad []) from List.mem_singleton.1 hp]; rfl
        · rw [row_dAll_out hr1.len hpz (fun p hp he => by rw [show p = (0, pad []) from List.mem_singleton.1 hp] at he; have : (0 : Nat) = k := he; omega)]
          exact fh k hk1 hk2
      · refine .inr ⟨e13', _, _, hg, hpz, fun F' hb => ?_⟩
        have other : ∀ k, 1 ≤ k → k < n → row F' k = row (dAll (prs ls) F) k := fun k hk1 hk2 => by
          rcases hb.2 k hk2 with h9 | ⟨p, hp, he, _⟩
          · exact h9
          · rw [show p = (0, pad []) from List.mem_singleton.1 hp] at he
            have : (0 : Nat) = k := he
            omega
        rcases hb.2 0 (by omega) with h9 | ⟨p, hp, he, h9⟩
        · left
          refine ⟨h9.trans f0, fun i q hq => ?_, fun k hk1 hk2 hno => ?_⟩
          · have h8 := (List.getElem?_eq_some_iff.1 hq).1
            have h7 := h.len
            rw [other _ (by omega) (by omega)]; exact fl i q hq
          · rw [other _ (by omega) hk2, fh k hk1 hk2, haf_out hno]
        · right
          rw [show p = (0, pad []) from List.mem_singleton.1 hp] at h9
          exact ⟨h9, fun k hk1 hk2 => by rw [other _ (by omega) hk2]; exact fh k hk1 hk2⟩
    · have h5 := h2 hst
      have h6 := h4 (by rw [h5.2.1]; exact hst)
      refine ⟨h6.1, h6.2.1.trans h5.2.1, ?_⟩
      rw [h6.2.2, h5.2.2, hl', List.length_singleton]
      omega
  · rw [if_neg (by rw [e13]; decide)]
    refine ⟨.inr ⟨e13, _, _, hg, hprs, fun F' hb => .inl ⟨?_, fun i q hq => ?_, fun k hk1 hk2 hno => ?_⟩⟩, fun hst => ?_⟩
    · rcases hb.2 0 (by omega) with h9 | ⟨p, hp, he, _⟩
      · exact h9.trans hF.1
      · obtain ⟨q, hq, _, h9, _⟩ := inHomes p hp; omega
    · have h8 := (List.getElem?_eq_some_iff.1 hq).1
      have h7 := h.len
      rcases hb.2 (1 + i) (by omega) with h9 | ⟨p, hp, he, _⟩
      · exact h9.trans (hF.2.1 i q hq)
      · obtain ⟨q, hq, _, h9, _⟩ := inHomes p hp; omega
    · rcases hb.2 k hk2 with h9 | ⟨p, hp, he, _⟩
      · exact h9.trans (hF.2.2 k hk1 hk2 hno)
      · obtain ⟨q, hq, _, _, h9⟩ := inHomes p hp
        exact absurd (by omega) (hno q hq)
    · have := (h2 hst).1
      omega
end Go.Proofs.Ytdilkgcoecipjaa

namespace Go.Proofs.Ytdilkgcoecipjaa
open Go.RowKit
set_option linter.unusedVariables false

def CrashOk (n : Nat) (s : DS) (P : List UInt8 → Prop) : Prop := ∃ F S, Gone n s F S ∧ (∀ p ∈ S, p.1 < n ∧ p.2.length = 512) ∧ ∀ F', Btw n F S F' → P F'

theorem CrashOk.crash {n : Nat} {s : DS} {P : List UInt8 → Prop} (h : CrashOk n s P) (keep : List Bool) : ∃ F', P F' ∧ Rest n (dCrash s keep) F' ∧ (dCrash s keep).stop = 0 := by
  obtain ⟨F, S, hg, hS, hP⟩ := h
  obtain ⟨F', hb, hr⟩ := hg.crash hS keep
  exact ⟨F', hP F' hb, hr⟩
theorem CrashOk.mono {n : Nat} {s : DS} {P Q : List UInt8 → Prop} (h : CrashOk n s P) (hPQ : ∀ F, P F → Q F) : CrashOk n s Q := by
  obtain ⟨F, S, hg, hS, hP⟩ := h
  exact ⟨F, S, hg, hS, fun F' hb => hPQ _ (hP F' hb)⟩

def PAny (n : Nat) (ls : List (Int × List UInt8)) (K F : List UInt8) : Prop := PA n K F ∨ PB n ls K F ∨ PC n ls K F

theorem com_run {n : Nat} {ls : List (Int × List UInt8)} (h : LOk n ls) {s : DS} {K : List UInt8} (hs : Rest n s K) (h0 : row K 0 = z512) :
    (((cmt n s ls).2 = 0 ∧ ∃ F, Rest n (cmt n s ls).1 F ∧ PC n ls K F) ∨ ((cmt n s ls).2 = 13 ∧ CrashOk n (cmt n s ls).1 (PAny n ls K))) ∧
    (s.stop < 1 → (cmt n s ls).2 = 0 ∧ (cmt n s ls).1.stop = s.stop ∧ (cmt n s ls).1.ops = s.ops + (2 * ls.length + 6)) := by
  have hn := h.n
  have hlw := h.logOk
  have hhw := h.headOk
  have plw := prs_ok hlw
  have phw := prs_ok hhw
  have hlen := h.len
  have inLog : ∀ p ∈ prs (logWs ls), ∃ (i : Nat) (q : Int × List UInt8), ls[i]? = some q ∧ p = (1 + i, pad (le8 q.1 ++ q.2)) ∧ i < ls.length := fun p hp => by
    obtain ⟨w, hw, rfl⟩ := List.mem_map.1 hp
    obtain ⟨i, q, hq, rfl⟩ := logWs_mem hw
    refine ⟨i, q, hq, ?_, (List.getElem?_eq_some_iff.1 hq).1⟩
    show ((1 + (i : Int)).toNat, pad (le8 q.1 ++ q.2)) = _
    rw [show (1 + (i : Int)).toNat = 1 + i by omega]
  have ecmt : cmt n s ls = if (runStps n s (comSteps ls)).2 = 0 then runStps n (runStps n s (comSteps ls)).1 (finSteps ls) else runStps n s (comSteps ls) := by
    unfold cmt; rw [if_pos h.chk]
  rw [ecmt, comSteps_eq, runStps_append]
  obtain ⟨h1, h2⟩ := run_phase hs hlw
  generalize hr : runStps n s (phase (logWs ls)) = r at h1 h2
  rcases h1 with ⟨e0, hr1⟩ | ⟨e13, hg⟩
  · simp only [e0, if_true]
    obtain ⟨h3, h4⟩ := run_phase hr1 hhw
    generalize hr2 : runStps n r.1 (phase [(0, headB ls)]) = r2 at h3 h4
    have k0 : row (dAll (prs (logWs ls)) K) 0 = z512 := (row_dAll_out hs.len plw (fun p hp he => by obtain ⟨i, q, _, rfl, _⟩ := inLog p hp; have : 1 + i = 0 := he; omega)).trans h0
    have kl : ∀ (i : Nat) (q : Int × List UInt8), ls[i]? = some q → row (dAll (prs (logWs ls)) K) (1 + i) = pad (le8 q.1 ++ q.2) := fun i q hq => by
      refine row_dAll _ _ hs.len plw (fun p hp he => ?_) (.inr ⟨(1 + i, pad (le8 q.1 ++ q.2)), List.mem_map.2 ⟨_, logWs_get hq, ?_⟩, rfl⟩)
      · obtain ⟨i2, q2, hq2, rfl, _⟩ := inLog p hp
        have e : i2 = i := by have : 1 + i2 = 1 + i := he; omega
        subst e
        rw [Option.some.inj (hq2.symm.trans hq)]
      · show ((1 + (i : Int)).toNat, pad (le8 q.1 ++ q.2)) = _
        rw [show (1 + (i : Int)).toNat = 1 + i by omega]
    have kh : ∀ k, 401 ≤ k → k < n → row (dAll (prs (logWs ls)) K) k = row K k := fun k hk1 hk2 =>
      row_dAll_out hs.len plw (fun p hp he => by obtain ⟨i, q, _, rfl, _⟩ := inLog p hp; have : 1 + i = k := he; omega)
    rcases h3 with ⟨e0', hr3⟩ | ⟨e13', hg⟩
    · simp only [e0', if_true]
      have hPB : PB n ls K (dAll (prs [(0, headB ls)]) (dAll (prs (logWs ls)) K)) := by
        refine ⟨?_, fun i q hq => ?_, fun k hk1 hk2 _ => ?_⟩
        · refine row_dAll _ _ hr1.len phw (fun p hp _ => ?_) (.inr ⟨(0, pad (headB ls)), List.mem_singleton.2 rfl, rfl⟩)
          rw [show p = (0, pad (headB ls)) from List.mem_singleton.1 hp]
        · rw [row_dAll_out hr1.len phw (fun p hp he => by rw [show p = (0, pad (headB ls)) from List.mem_singleton.1 hp] at he; have : 0 = 1 + i := he; omega)]
          exact kl i q hq
        · rw [row_dAll_out hr1.len phw (fun p hp he => by rw [show p = (0, pad (headB ls)) from List.mem_singleton.1 hp] at he; have : 0 = k := he; omega)]
          exact kh k hk1 hk2
      obtain ⟨h5, h6⟩ := fin_run h rfl h.homesOk' rfl hr3 hPB
      refine ⟨?_, fun hst => ?_⟩
      · rcases h5 with h5 | ⟨e5, F1, S, hg, hS, hF⟩
        · exact .inl h5
        · exact .inr ⟨e5, F1, S, hg, hS, fun F' hb => .inr (hF F' hb)⟩
      · have h7 := h2 hst
        have h8 := h4 (by rw [h7.2.1]; exact hst)
        have h9 := h6 (by rw [h8.2.1, h7.2.1]; exact hst)
        refine ⟨h9.1, h9.2.1.trans (h8.2.1.trans h7.2.1), ?_⟩
        rw [h9.2.2, h8.2.2, h7.2.2, logWs_length, List.length_singleton]
        omega
    · have hne : ¬ r2.2 = 0 := by rw [e13']; decide
      simp only [hne, if_false]
      refine ⟨.inr ⟨e13', _, _, hg, phw, fun F' hb => ?_⟩, fun hst => ?_⟩
      · have other : ∀ k, 1 ≤ k → k < n → row F' k = row (dAll (prs (logWs ls)) K) k := fun k hk1 hk2 => by
          rcases hb.2 k hk2 with h9 | ⟨p, hp, he, _⟩
          · exact h9
          · rw [show p = (0, pad (headB ls)) from List.mem_singleton.1 hp] at he
            have : (0 : Nat) = k := he
            omega
        rcases hb.2 0 (by omega) with h9 | ⟨p, hp, he, h9⟩
        · exact .inl ⟨h9.trans k0, fun k hk1 hk2 => by rw [other k (by omega) hk2]; exact kh k hk1 hk2⟩
        · rw [show p = (0, pad (headB ls)) from List.mem_singleton.1 hp] at h9
          refine .inr (.inl ⟨h9, fun i q hq => ?_, fun k hk1 hk2 _ => ?_⟩)
          · have h8 := (List.getElem?_eq_some_iff.1 hq).1
            rw [other _ (by omega) (by omega)]; exact kl i q hq
          · rw [other k (by omega) hk2]; exact kh k hk1 hk2
      · have h7 := h2 hst
        have h8 := h4 (by rw [h7.2.1]; exact hst)
        omega
  · have hne : ¬ r.2 = 0 := by rw [e13]; decide
    simp only [hne, if_false]
    refine ⟨.inr ⟨e13, _, _, hg, plw, fun F' hb => .inl ⟨?_, fun k hk1 hk2 => ?_⟩⟩, fun hst => ?_⟩
    · rcases hb.2 0 (by omega) with h9 | ⟨p, hp, he, _⟩
      · exact h9.trans h0
      · obtain ⟨i, q, _, rfl, _⟩ := inLog p hp; have : 1 + i = 0 := he; omega
    · rcases hb.2 k hk2 with h9 | ⟨p, hp, he, _⟩
      · exact h9
      · obtain ⟨i, q, _, rfl, _⟩ := inLog p hp; have : 1 + i = k := he; omega
    · have := (h2 hst).1
      omega

theorem recov_rest {n : Nat} {s : DS} {F : List UInt8} (hs : Rest n s F) (h0 : row F 0 = z512) : recov n s = (s, 0, 0) :=
  recov_none hs.alive (cntOf_zero n _ (by rw [hs.now, h0, z512_take]))

theorem headB_length (ls : List (Int × List UInt8)) : (headB ls).length = 16 := by
  unfold headB
  rw [List.length_append, le8_length]
  rfl
theorem pad_take {a b : List UInt8} {k : Nat} (h : a.length = k) : (pad (a ++ b)).take k = a := by
  unfold pad
  rw [List.append_assoc, List.take_left' h]
theorem pad_drop {a b : List UInt8} {k : Nat} (h : a.length = k) : (pad (a ++ b)).drop k = b ++ List.replicate (512 - (a ++ b).length) 0 := by
  unfold pad
  rw [List.append_assoc, List.drop_left' h]
theorem num_le8s {z : Int} (h0 : -9223372036854775808 ≤ z) (h1 : z ≤ 9223372036854775807) : wrap64 (num (le8 z) : Nat) = z := num8 z h0 h1

theorem cntOf_head {n : Nat} {ls : List (Int × List UInt8)} (h : LOk n ls) : cntOf n (pad (headB ls)) = (ls.length : Int) := by
  have h1 := h.len1
  have h2 := h.len
  have h3 := h.n
  have hh : headN (pad (headB ls)) = (ls.length : Int) := by
    unfold headN headB
    rw [pad_drop (show markB.length = 8 from rfl), List.take_left' (le8_length _), num_le8s (by omega) (by omega)]
  unfold cntOf
  rw [hh, if_pos]
  refine ⟨?_, by omega, by omega, by omega⟩
  unfold headB
  rw [pad_take (show markB.length = 8 from rfl)]
  decide

def padL (ls : List (Int × List UInt8)) : List (Int × List UInt8) := ls.map fun q => (q.1, pad504 q.2)
theorem logOf_PB {n : Nat} {ls : List (Int × List UInt8)} {K F : List UInt8} (h : LOk n ls) (hn : n ≤ 3000) (hF : PB n ls K F) : logOf F ls.length = padL ls := by
  apply List.ext_getElem?
  intro i
  rcases Nat.lt_or_ge i ls.length with hi | hi
  · have hq : ls[i]? = some ls[i] := List.getElem?_eq_getElem hi
    have h5 := h.each _ (List.getElem_mem hi)
    rw [logOf_get hi, padL, List.getElem?_map, hq]
    unfold logRow
    rw [hF.2.1 i _ hq, pad_take (le8_length _), pad_drop (le8_length _), num_le8s (by omega) (by omega)]
    simp only [Option.map_some, Option.some.injEq, Prod.mk.injEq, true_and]
    unfold pad504
    rw [List.length_append, le8_length]
    congr 2
    omega
  · rw [List.getElem?_eq_none (by rw [logOf_length]; omega), List.getElem?_eq_none (by simp [padL]; omega)]

theorem rec_run {n : Nat} {ls : List (Int × List UInt8)} (h : LOk n ls) (hn : n ≤ 3000) {s : DS} {F K : List UInt8} (hs : Rest n s F) (hF : PB n ls K F) :
    (((recov n s).2.2 = 0 ∧ (recov n s).2.1 = (ls.length : Int) ∧ ∃ F', Rest n (recov n s).1 F' ∧ PC n ls K F') ∨
     ((recov n s).2.2 = 13 ∧ (recov n s).2.1 = 0 ∧ CrashOk n (recov n s).1 (PAny n ls K))) ∧
    (s.stop < 1 → (recov n s).2.2 = 0 ∧ (recov n s).1.stop = s.stop) ∧ (recov n s).1.ops ≤ s.ops + 500 := by
  have hnd : ¬ s.dead = true := by rw [hs.alive]; decide
  have hlen := h.len
  have hlen1 := h.len1
  have hc : cntOf n (row s.now 0) = (ls.length : Int) := by rw [hs.now, hF.1, cntOf_head h]
  have hlo : logOf s.now ls.length = padL ls := by rw [hs.now]; exact logOf_PB h hn hF
  have hho : homesOk n (padL ls) = true := by
    unfold homesOk padL
    rw [List.all_eq_true]
    intro q hq
    obtain ⟨q', hq', rfl⟩ := List.mem_map.1 hq
    have := h.each q' hq'
    simp
    omega
  have hrec : recov n s = if (runStps n s (finSteps (padL ls))).2 = 0 then ((runStps n s (finSteps (padL ls))).1, (ls.length : Int), 0) else ((runStps n s (finSteps (padL ls))).1, 0, (runStps n s (finSteps (padL ls))).2) := by
    unfold recov
    rw [if_neg hnd, hc, if_neg (by omega), Int.toNat_natCast, hlo, if_pos hho]
  have hprs : prs (padL ls) = prs ls := by
    unfold prs padL
    rw [List.map_map]
    apply List.map_congr_left
    intro q hq
    have := h.each q hq
    show (q.1.toNat, pad (pad504 q.2)) = _
    rw [pad_pad504 this.2.2]
  have hws : WsOk n (padL ls) := fun q hq => by
    obtain ⟨q', hq', rfl⟩ := List.mem_map.1 hq
    have := h.each q' hq'
    refine ⟨by show 0 ≤ q'.1; omega, by show q'.1 < (n : Int); omega, ?_⟩
    show (pad504 q'.2).length ≤ 512
    simp [pad504]; omega
  have hpl : (padL ls).length = ls.length := by simp [padL]
  obtain ⟨h1, h2⟩ := fin_run h hprs hws hpl hs hF
  have hops := runStps_ops n (finSteps (padL ls)) s
  rw [finSteps_length, hpl] at hops
  rw [hrec]
  generalize runStps n s (finSteps (padL ls)) = r at *
  by_cases e0 : r.2 = 0
  · rw [if_pos e0]
    refine ⟨.inl ⟨rfl, rfl, ?_⟩, fun hst => ⟨rfl, (h2 hst).2.1⟩, by push_cast at hops; show r.1.ops ≤ _; omega⟩
    rcases h1 with ⟨_, h1⟩ | ⟨e, _⟩
    · exact h1
    · omega
  · rw [if_neg e0]
    refine ⟨.inr ?_, fun hst => absurd (h2 hst).1 e0, by push_cast at hops; show r.1.ops ≤ _; omega⟩
    rcases h1 with ⟨e, _⟩ | ⟨e, F1, S, hg, hS, hP⟩
    · exact absurd e e0
    · exact ⟨e, rfl, F1, S, hg, hS, fun F' hb => .inr (hP F' hb)⟩

theorem rest_new (n : Nat) : Rest n (dNew n) (List.replicate (n * 512) 0) := ⟨rfl, rfl, rfl, rfl, List.length_replicate⟩
end Go.Proofs.Ytdilkgcoecipjaa
