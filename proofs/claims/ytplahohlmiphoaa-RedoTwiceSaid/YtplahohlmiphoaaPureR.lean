/- a log of pages, as pure data: what a crash may leave, what is done again. -/
import Derived.Test.YtplahohlmiphoaaPuts2
import Derived.Test.YtplahohlmiphoaaNumLe
namespace Go.Proofs.Ytplahohlmiphoaa
open Go.RowKit
set_option linter.unusedVariables false

/-- a disk that is at rest, its sectors F -/
structure Rest (n : Nat) (s : DS) (F : List UInt8) : Prop where
  alive : s.dead = false
  since : s.since = []
  now : s.now = F
  kept : s.kept = F
  len : F.length = n * 512
/-- a disk without power; S: what was written since F -/
structure Gone (n : Nat) (s : DS) (F : List UInt8) (S : List (Nat × List UInt8)) : Prop where
  dead : s.dead = true
  kept : s.kept = F
  since : ∀ p ∈ s.since, p ∈ S
  len : F.length = n * 512

def prs (ws : List (Int × List UInt8)) : List (Nat × List UInt8) := ws.map fun q => (q.1.toNat, pad q.2)
def WsOk (n : Nat) (ws : List (Int × List UInt8)) : Prop := ∀ q ∈ ws, 0 ≤ q.1 ∧ q.1 < (n : Int) ∧ q.2.length ≤ 512
theorem prs_ok {n : Nat} {ws : List (Int × List UInt8)} (h : WsOk n ws) : ∀ p ∈ prs ws, p.1 < n ∧ p.2.length = 512 := by
  intro p hp
  obtain ⟨q, hq, rfl⟩ := List.mem_map.1 hp
  have := h q hq
  exact ⟨by show q.1.toNat < n; omega, pad_length this.2.2⟩

theorem runStps_append (n : Nat) (a b : List Stp) : ∀ s, runStps n s (a ++ b) = if (runStps n s a).2 = 0 then runStps n (runStps n s a).1 b else runStps n s a := by
  induction a with
  | nil => intro s; rw [List.nil_append, runStps, if_pos rfl]
  | cons x r ih =>
    intro s
    rw [List.cons_append, runStps, runStps]
    by_cases h : (doStp n s x).2 = 0
    · rw [if_pos h, if_pos h, ih]
    · rw [if_neg h, if_neg h, if_neg h]

theorem dStep_dead (s : DS) : (dStep s).dead = (if dStepGone s then true else (if s.stop < 1 then s.dead else false)) := by
  unfold dStep dStepGone
  by_cases h : s.stop < 1
  · rw [if_pos h, if_pos h]; simp [h]
  · rw [if_neg h, if_neg h]
    cases hb : (s.stop - 1 == 0) <;> simp [h]
theorem dStep_alive {s : DS} (h : s.dead = false) (hg : dStepGone s = false) : (dStep s).dead = false := by
  rw [dStep_dead, hg, if_neg (by decide), h]; simp
theorem dStep_gone {s : DS} (hg : dStepGone s = true) : (dStep s).dead = true := by rw [dStep_dead, hg, if_pos rfl]

/-- writes, one behind the other -/
theorem run_writes (n : Nat) (F : List UInt8) (hF : F.length = n * 512) : ∀ (ws : List (Int × List UInt8)) (W : List (Nat × List UInt8)) (s : DS), WsOk n ws → s.dead = false → s.kept = F → s.since = W → s.now = dAll W F →
    let r := runStps n s (homeSteps ws)
    ((r.2 = 0 ∧ r.1.dead = false ∧ r.1.kept = F ∧ r.1.since = W ++ prs ws ∧ r.1.now = dAll (W ++ prs ws) F) ∨
     (r.2 = 13 ∧ r.1.dead = true ∧ r.1.kept = F ∧ ∀ p ∈ r.1.since, p ∈ W ++ prs ws)) ∧
    (s.stop < 1 → r.2 = 0 ∧ r.1.stop = s.stop ∧ r.1.ops = s.ops + ws.length)
  | [], W, s, hw, hd, hk, hs, hn => by
    have e : runStps n s (homeSteps []) = (s, 0) := rfl
    rw [e]
    refine ⟨.inl ⟨rfl, hd, hk, by simpa [prs] using hs, by simpa [prs] using hn⟩, fun _ => ⟨rfl, rfl, by simp⟩⟩
  | q :: ws, W, s, hw, hd, hk, hs, hn => by
    have hq := hw q (List.mem_cons_self ..)
    have hw' : WsOk n ws := fun p hp => hw p (List.mem_cons_of_mem _ hp)
    have hdo : doStp n s (.write q.1 q.2) = (dStep (dWritten s q.1.toNat q.2), if dStepGone s then 13 else 0) := by
      show dWrite n s q.1 q.2 = _
      unfold dWrite
      rw [if_neg (by rw [hd]; decide), if_neg (by omega)]
    have hrun : runStps n s (homeSteps (q :: ws)) = if (doStp n s (.write q.1 q.2)).2 = 0 then runStps n (doStp n s (.write q.1 q.2)).1 (homeSteps ws) else doStp n s (.write q.1 q.2) := rfl
    have hgw : dStepGone (dWritten s q.1.toNat q.2) = dStepGone s := rfl
    have e1 : (dWritten s q.1.toNat q.2).since = W ++ [(q.1.toNat, pad q.2)] := by show s.since ++ _ = _; rw [hs]
    have e2 : (dWritten s q.1.toNat q.2).now = dAll (W ++ [(q.1.toNat, pad q.2)]) F := by
      show setRowAt s.now _ _ = _
      rw [hn, dAll_snoc]
    have hp : prs (q :: ws) = (q.1.toNat, pad q.2) :: prs ws := rfl
    rcases Bool.eq_false_or_eq_true (dStepGone s) with hg | hg
    · have h2 : ¬ (doStp n s (.write q.1 q.2)).2 = 0 := by rw [hdo, hg]; simp
      rw [hrun, if_neg h2, hdo, hg]
      refine ⟨.inr ⟨rfl, dStep_gone (hgw.trans hg), by rw [dStep_kept]; exact hk, ?_⟩, fun hst => ?_⟩
      · rw [dStep_since, e1, hp]
        intro p hp
        rcases List.mem_append.1 hp with h | h
        · exact List.mem_append_left _ h
        · rw [List.mem_singleton] at h; subst h
          exact List.mem_append_right _ (List.mem_cons_self ..)
      · rw [dStepGone_calm hst] at hg; cases hg
    · have h2 : (doStp n s (.write q.1 q.2)).2 = 0 := by rw [hdo, hg]; rfl
      rw [hrun, if_pos h2, hdo]
      have ih := run_writes n F hF ws (W ++ [(q.1.toNat, pad q.2)]) (dStep (dWritten s q.1.toNat q.2)) hw' (dStep_alive hd (hgw.trans hg)) (by rw [dStep_kept]; exact hk) (by rw [dStep_since]; exact e1) (by rw [dStep_now]; exact e2)
      have hpp : W ++ [(q.1.toNat, pad q.2)] ++ prs ws = W ++ prs (q :: ws) := by rw [hp, List.append_assoc]; rfl
      rw [hpp] at ih
      refine ⟨ih.1, fun hst => ?_⟩
      have hst2 : (dStep (dWritten s q.1.toNat q.2)).stop = s.stop := by rw [dStep_calm (show (dWritten s q.1.toNat q.2).stop < 1 from hst)]; rfl
      have h3 := ih.2 (by rw [hst2]; exact hst)
      refine ⟨h3.1, h3.2.1.trans hst2, ?_⟩
      rw [h3.2.2, dStep_ops]
      have : (dWritten s q.1.toNat q.2).ops = s.ops := rfl
      rw [this, List.length_cons]; push_cast; omega

def phase (ws : List (Int × List UInt8)) : List Stp := homeSteps ws ++ [.sync]

/-- writes, and a sync -/
theorem run_phase {n : Nat} {s : DS} {F : List UInt8} (hs : Rest n s F) {ws : List (Int × List UInt8)} (hw : WsOk n ws) :
    (((runStps n s (phase ws)).2 = 0 ∧ Rest n (runStps n s (phase ws)).1 (dAll (prs ws) F)) ∨ ((runStps n s (phase ws)).2 = 13 ∧ Gone n (runStps n s (phase ws)).1 F (prs ws))) ∧
    (s.stop < 1 → (runStps n s (phase ws)).2 = 0 ∧ (runStps n s (phase ws)).1.stop = s.stop ∧ (runStps n s (phase ws)).1.ops = s.ops + (ws.length + 1)) := by
  have h := run_writes n F hs.len ws [] s hw hs.alive hs.kept hs.since (by rw [hs.now]; rfl)
  simp only [List.nil_append] at h
  unfold phase
  rw [runStps_append]
  generalize hr : runStps n s (homeSteps ws) = r at h
  obtain ⟨h1, h2⟩ := h
  have hlen : (dAll (prs ws) F).length = n * 512 := dAll_length _ _ (prs_ok hw) hs.len
  rcases h1 with ⟨e0, ha, hk, hsi, hn⟩ | ⟨e13, hd, hk, hsi⟩
  · rw [if_pos e0]
    have hsy : runStps n r.1 [.sync] = dSync r.1 := by
      show (if (dSync r.1).2 = 0 then ((dSync r.1).1, (0 : Int)) else dSync r.1) = _
      by_cases h0 : (dSync r.1).2 = 0
      · rw [if_pos h0, ← h0]
      · rw [if_neg h0]
    rw [hsy]
    have hu : dSync r.1 = if dStepGone r.1 then (dStep r.1, 13) else (dSynced (dStep r.1), 0) := by unfold dSync; rw [if_neg (by rw [ha]; decide)]
    rw [hu]
    rcases Bool.eq_false_or_eq_true (dStepGone r.1) with hg | hg
    · rw [if_pos hg]
      refine ⟨.inr ⟨rfl, dStep_gone hg, by rw [dStep_kept]; exact hk, ?_, hs.len⟩, fun hst => ?_⟩
      · rw [dStep_since, hsi]; exact fun p hp => hp
      · have := h2 hst
        rw [dStepGone_calm (by omega)] at hg; cases hg
    · rw [if_neg (by rw [hg]; decide)]
      refine ⟨.inl ⟨rfl, ⟨dStep_alive ha hg, rfl, ?_, ?_, hlen⟩⟩, fun hst => ⟨rfl, ?_, ?_⟩⟩
      · show (dStep r.1).now = _; rw [dStep_now]; exact hn
      · show (dStep r.1).now = _; rw [dStep_now]; exact hn
      · have h3 := h2 hst
        show (dStep r.1).stop = _
        rw [dStep_calm (by omega)]; exact h3.2.1
      · have h3 := h2 hst
        show (dStep r.1).ops = _
        rw [dStep_ops, h3.2.2]; omega
  · rw [if_neg (by rw [e13]; decide)]
    refine ⟨.inr ⟨e13, hd, hk, hsi, hs.len⟩, fun hst => ?_⟩
    have := (h2 hst).1
    omega

/-- what a crash may leave of F, when S was written since -/
def Btw (n : Nat) (F : List UInt8) (S : List (Nat × List UInt8)) (F' : List UInt8) : Prop :=
  F'.length = n * 512 ∧ ∀ k, k < n → row F' k = row F k ∨ ∃ p ∈ S, p.1 = k ∧ row F' k = p.2

theorem dKept_btw {n : Nat} {S : List (Nat × List UInt8)} (hS : ∀ p ∈ S, p.1 < n ∧ p.2.length = 512) : ∀ (bs : List Bool) (ps : List (Nat × List UInt8)) (F : List UInt8), F.length = n * 512 → (∀ p ∈ ps, p ∈ S) →
    ∀ F0, Btw n F0 S F → Btw n F0 S (dKept bs ps F)
  | [], ps, F, hF, hp, F0, h => by rw [dKept_nil1]; exact h
  | b :: bs, [], F, hF, hp, F0, h => by rw [dKept_nil2]; exact h
  | b :: bs, p :: ps, F, hF, hp, F0, h => by
    have hp0 := hS p (hp p (List.mem_cons_self ..))
    have hps : ∀ q ∈ ps, q ∈ S := fun q hq => hp q (List.mem_cons_of_mem _ hq)
    show Btw n F0 S (dKept bs ps (if b then setRowAt F p.1 p.2 else F))
    cases b with
    | false => exact dKept_btw hS bs ps F hF hps F0 h
    | true =>
      rw [if_pos rfl]
      have hk512 : (p.1 + 1) * 512 ≤ n * 512 := Nat.mul_le_mul_right _ hp0.1
      have hl : (setRowAt F p.1 p.2).length = n * 512 := (splice_length _ _ _ (by rw [hp0.2, hF]; omega)).trans hF
      refine dKept_btw hS bs ps _ hl hps F0 ⟨hl, fun k hk => ?_⟩
      rw [row_set hF hp0.1 hp0.2]
      by_cases e : p.1 = k
      · rw [if_pos e]; exact .inr ⟨p, hp p (List.mem_cons_self ..), e, rfl⟩
      · rw [if_neg e]; exact h.2 k hk

theorem Btw.refl {n : Nat} {F : List UInt8} {S : List (Nat × List UInt8)} (h : F.length = n * 512) : Btw n F S F := ⟨h, fun _ _ => .inl rfl⟩

theorem Gone.crash {n : Nat} {s : DS} {F : List UInt8} {S : List (Nat × List UInt8)} (h : Gone n s F S) (hS : ∀ p ∈ S, p.1 < n ∧ p.2.length = 512) (keep : List Bool) : ∃ F', Btw n F S F' ∧ Rest n (dCrash s keep) F' ∧ (dCrash s keep).stop = 0 := by
  have h1 := dKept_btw hS keep s.since s.kept (by rw [h.kept]; exact h.len) h.since F (by rw [h.kept]; exact Btw.refl h.len)
  exact ⟨_, h1, ⟨rfl, rfl, rfl, rfl, h1.1⟩, rfl⟩
theorem Rest.crash {n : Nat} {s : DS} {F : List UInt8} (h : Rest n s F) (keep : List Bool) : Rest n (dCrash s keep) F ∧ (dCrash s keep).stop = 0 := by
  have e : dKept keep s.since s.kept = F := by rw [h.since, dKept_nil2, h.kept]
  exact ⟨⟨rfl, rfl, e, e, h.len⟩, rfl⟩

theorem row_dAll {n k : Nat} {b : List UInt8} : ∀ (ps : List (Nat × List UInt8)) (F : List UInt8), F.length = n * 512 → (∀ p ∈ ps, p.1 < n ∧ p.2.length = 512) → (∀ p ∈ ps, p.1 = k → p.2 = b) → (row F k = b ∨ ∃ p ∈ ps, p.1 = k) → row (dAll ps F) k = b
  | [], F, hF, hp, hb, h => by
    rcases h with h | ⟨p, hp, _⟩
    · exact h
    · cases hp
  | p :: ps, F, hF, hp, hb, h => by
    have hp0 := hp p (List.mem_cons_self ..)
    have hk512 : (p.1 + 1) * 512 ≤ n * 512 := Nat.mul_le_mul_right _ hp0.1
    have hl : (setRowAt F p.1 p.2).length = n * 512 := (splice_length _ _ _ (by rw [hp0.2, hF]; omega)).trans hF
    show row (dAll ps (setRowAt F p.1 p.2)) k = b
    refine row_dAll ps _ hl (fun q hq => hp q (List.mem_cons_of_mem _ hq)) (fun q hq => hb q (List.mem_cons_of_mem _ hq)) ?_
    rw [row_set hF hp0.1 hp0.2]
    by_cases e : p.1 = k
    · rw [if_pos e]; exact .inl (hb p (List.mem_cons_self ..) e)
    · rw [if_neg e]
      rcases h with h | ⟨q, hq, hk⟩
      · exact .inl h
      · rcases List.mem_cons.1 hq with rfl | hq
        · exact absurd hk e
        · exact .inr ⟨q, hq, hk⟩
theorem row_dAll_out {n k : Nat} {ps : List (Nat × List UInt8)} {F : List UInt8} (hF : F.length = n * 512) (hp : ∀ p ∈ ps, p.1 < n ∧ p.2.length = 512) (h : ∀ p ∈ ps, p.1 ≠ k) : row (dAll ps F) k = row F k :=
  row_dAll ps F hF hp (fun p hp e => absurd e (h p hp)) (.inl rfl)
end Go.Proofs.Ytplahohlmiphoaa
