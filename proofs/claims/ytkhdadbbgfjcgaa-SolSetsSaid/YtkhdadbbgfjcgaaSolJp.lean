/- meets: of two it does not count which one is which; of three, which two come first. -/
import Derived.Test.YtkhdadbbgfjcgaaSolD
namespace Go.Proofs.Ytkhdadbbgfjcgaa
set_option linter.unusedVariables false

theorem getP_mem : ∀ {s : Sl} {v : List UInt8} {t : T4}, getP s v = some t → (v, t) ∈ s
  | [], v, t, h => by simp [getP] at h
  | p :: s, v, t, h => by
    unfold getP at h
    split at h
    · rename_i he
      injection h with h
      obtain ⟨p1, p2⟩ := p
      simp only at he h
      subst he; subst h
      exact List.mem_cons_self ..
    · exact List.mem_cons_of_mem _ (getP_mem h)
theorem mem_getP : ∀ {s : Sl} {v : List UInt8} {t : T4}, Asc s → (v, t) ∈ s → getP s v = some t
  | [], v, t, _, h => by cases h
  | p :: s, v, t, ha, h => by
    have hp := List.pairwise_cons.1 ha
    unfold getP
    rcases List.mem_cons.1 h with rfl | h
    · simp
    · have h1 := hp.1 _ h
      have hne : ¬ p.1 = v := fun e => by simp only at h1; rw [e, ltB_irr] at h1; cases h1
      rw [if_neg hne]
      exact mem_getP hp.2 h
theorem asc_ext : ∀ {x y : Sl}, Asc x → Asc y → (∀ v, getP x v = getP y v) → x = y
  | [], [], _, _, _ => rfl
  | [], q :: ys, _, _, h => by have := h q.1; simp [getP] at this
  | p :: xs, [], _, _, h => by have := h p.1; simp [getP] at this
  | p :: xs, q :: ys, hx, hy, h => by
    have px := List.pairwise_cons.1 hx
    have py := List.pairwise_cons.1 hy
    have h1 : (p.1, p.2) ∈ q :: ys := getP_mem (by rw [← h]; simp [getP])
    have h2 : (q.1, q.2) ∈ p :: xs := getP_mem (by rw [h]; simp [getP])
    have hpq : p = q := by
      rcases List.mem_cons.1 h1 with e | e
      · exact e
      · rcases List.mem_cons.1 h2 with e2 | e2
        · exact e2.symm
        · have a1 := py.1 _ e
          have a2 := px.1 _ e2
          rw [ltB_asym a1] at a2; cases a2
    subst hpq
    have ht : ∀ v, getP xs v = getP ys v := fun v => by
      by_cases hv : p.1 = v
      · have n1 : getP xs v = none := by
          cases hg : getP xs v with
          | none => rfl
          | some t => have := px.1 _ (getP_mem hg); simp only at this; rw [hv, ltB_irr] at this; cases this
        have n2 : getP ys v = none := by
          cases hg : getP ys v with
          | none => rfl
          | some t => have := py.1 _ (getP_mem hg); simp only at this; rw [hv, ltB_irr] at this; cases this
        rw [n1, n2]
      · have := h v
        unfold getP at this
        rwa [if_neg hv, if_neg hv] at this
    rw [asc_ext px.2 py.2 ht]

theorem setP_get : ∀ {s : Sl} {v : List UInt8} {t : T4}, Asc s → match setP s v t with
    | none => ∃ t', getP s v = some t' ∧ t' ≠ t
    | some x => (∀ t', getP s v = some t' → t' = t) ∧ ∀ u, getP x u = if u = v then some t else getP s u
  | [], v, t, _ => by
    simp only [setP]
    refine ⟨fun t' h => by simp [getP] at h, fun u => ?_⟩
    simp only [getP]
    by_cases h : v = u
    · rw [if_pos h, if_pos h.symm]
    · rw [if_neg h, if_neg (fun e => h e.symm)]
  | p :: s, v, t, ha => by
    have hp := List.pairwise_cons.1 ha
    have ih := setP_get (s := s) (v := v) (t := t) hp.2
    unfold setP
    by_cases hlt : ltB p.1 v = true
    · rw [if_pos hlt]
      have hne : ¬ p.1 = v := fun e => by rw [e, ltB_irr] at hlt; cases hlt
      cases hs : setP s v t with
      | none =>
        rw [hs] at ih
        obtain ⟨t', h1, h2⟩ := ih
        exact ⟨t', by unfold getP; rw [if_neg hne]; exact h1, h2⟩
      | some x =>
        rw [hs] at ih
        refine ⟨fun t' h => ih.1 t' (by unfold getP at h; rwa [if_neg hne] at h), fun u => ?_⟩
        show getP (p :: x) u = _
        unfold getP
        by_cases hu : p.1 = u
        · rw [if_pos hu, if_pos hu, if_neg (fun e => hne (hu.trans e))]
        · rw [if_neg hu, if_neg hu]; exact ih.2 u
    · rw [if_neg hlt]
      by_cases he : p.1 = v
      · rw [if_pos he]
        by_cases ht : p.2 = t
        · rw [if_pos ht]
          refine ⟨fun t' h => ?_, fun u => ?_⟩
          · unfold getP at h; rw [if_pos he] at h; injection h with h; rw [← h, ht]
          · unfold getP
            by_cases hu : p.1 = u
            · rw [if_pos hu, if_pos (hu.symm.trans he), ht]
            · rw [if_neg hu, if_neg (fun e => hu (he.trans e.symm))]
        · rw [if_neg ht]
          exact ⟨p.2, by unfold getP; rw [if_pos he], ht⟩
      · rw [if_neg he]
        have hn : getP (p :: s) v = none := by
          cases hg : getP (p :: s) v with
          | none => rfl
          | some t' =>
            exfalso
            rcases List.mem_cons.1 (getP_mem hg) with e | e
            · exact he (by rw [← e])
            · exact hlt (hp.1 _ e)
        refine ⟨fun t' h => (by rw [hn] at h; cases h), fun u => ?_⟩
        show getP ((v, t) :: p :: s) u = _
        rw [getP]
        by_cases hu : u = v
        · rw [if_pos hu.symm, if_pos hu]
        · rw [if_neg (fun e => hu e.symm), if_neg hu]

def conf (a b : Sl) : Prop := ∃ v t t', getP a v = some t ∧ getP b v = some t' ∧ t ≠ t'
theorem meetP_get : ∀ {b a : Sl}, Asc a → Asc b → match meetP a b with
    | none => conf a b
    | some x => ¬ conf a b ∧ Asc x ∧ ∀ u, getP x u = (getP a u).or (getP b u)
  | [], a, ha, _ => by
    simp only [meetP]
    refine ⟨?_, ha, fun u => by simp [getP]⟩
    rintro ⟨v, t, t', _, h, _⟩
    simp [getP] at h
  | p :: b, a, ha, hb => by
    have hp := List.pairwise_cons.1 hb
    have hs := setP_get (s := a) (v := p.1) (t := p.2) ha
    have hpn : getP b p.1 = none := by
      cases hg : getP b p.1 with
      | none => rfl
      | some t => have := hp.1 _ (getP_mem hg); simp only at this; rw [ltB_irr] at this; cases this
    have hget : ∀ u, getP (p :: b) u = if u = p.1 then some p.2 else getP b u := fun u => by
      rw [getP]
      by_cases hu : p.1 = u
      · rw [if_pos hu, if_pos hu.symm]
      · rw [if_neg hu, if_neg (fun e => hu e.symm)]
    cases hset : setP a p.1 p.2 with
    | none =>
      rw [hset] at hs
      obtain ⟨t', h1, h2⟩ := hs
      rw [show meetP a (p :: b) = none by simp [meetP, hset]]
      exact ⟨p.1, t', p.2, h1, by rw [hget, if_pos rfl], h2⟩
    | some y =>
      rw [hset] at hs
      have hy := setP_asc ha hset
      have ih := meetP_get (b := b) (a := y) hy hp.2
      rw [show meetP a (p :: b) = meetP y b by simp [meetP, hset]]
      have hcf : conf a (p :: b) ↔ conf y b := by
        constructor
        · rintro ⟨v, t, t', h1, h2, h3⟩
          rw [hget] at h2
          by_cases hv : v = p.1
          · rw [if_pos hv] at h2
            injection h2 with h2
            rw [hv] at h1
            exact absurd ((hs.1 t h1).trans h2) h3
          · rw [if_neg hv] at h2
            exact ⟨v, t, t', by rw [hs.2, if_neg hv]; exact h1, h2, h3⟩
        · rintro ⟨v, t, t', h1, h2, h3⟩
          have hv : ¬ v = p.1 := fun e => by rw [e, hpn] at h2; cases h2
          rw [hs.2, if_neg hv] at h1
          exact ⟨v, t, t', h1, by rw [hget, if_neg hv]; exact h2, h3⟩
      cases hm : meetP y b with
      | none => rw [hm] at ih; exact hcf.2 ih
      | some x =>
        rw [hm] at ih
        refine ⟨fun h => ih.1 (hcf.1 h), ih.2.1, fun u => ?_⟩
        rw [ih.2.2, hs.2, hget]
        by_cases hu : u = p.1
        · rw [if_pos hu, if_pos hu, hu]
          cases hg : getP a p.1 with
          | none => rfl
          | some t' => simp only [Option.or_some, hs.1 t' hg]; rfl
        · rw [if_neg hu, if_neg hu]

theorem conf_symm {a b : Sl} (h : conf a b) : conf b a := by
  obtain ⟨v, t, t', h1, h2, h3⟩ := h
  exact ⟨v, t', t, h2, h1, fun e => h3 e.symm⟩
theorem noconf {a b : Sl} (h : ¬ conf a b) {v : List UInt8} {t t' : T4} (h1 : getP a v = some t) (h2 : getP b v = some t') : t = t' := by
  by_cases e : t = t'
  · exact e
  · exact absurd ⟨v, t, t', h1, h2, e⟩ h
theorem meet_comm {a b : Sl} (ha : Asc a) (hb : Asc b) : meetP a b = meetP b a := by
  have h1 := meetP_get ha hb
  have h2 := meetP_get hb ha
  cases e1 : meetP a b with
  | none =>
    rw [e1] at h1
    cases e2 : meetP b a with
    | none => rfl
    | some y => rw [e2] at h2; exact absurd (conf_symm h1) h2.1
  | some x =>
    rw [e1] at h1
    cases e2 : meetP b a with
    | none => rw [e2] at h2; exact absurd (conf_symm h2) h1.1
    | some y =>
      rw [e2] at h2
      congr 1
      refine asc_ext h1.2.1 h2.2.1 (fun v => ?_)
      rw [h1.2.2, h2.2.2]
      cases ga : getP a v <;> cases gb : getP b v <;> try rfl
      exact congrArg some (noconf h1.1 ga gb)
/-- one that meets both meets what they have -/
theorem conf_meet {a b x c : Sl} (h : ∀ u, getP x u = (getP a u).or (getP b u)) (hab : ¬ conf a b) : conf x c ↔ conf a c ∨ conf b c := by
  constructor
  · rintro ⟨v, t, t', h1, h2, h3⟩
    rw [h] at h1
    cases ga : getP a v with
    | some s =>
      rw [ga] at h1
      injection h1 with h1
      exact .inl ⟨v, s, t', ga, h2, by rw [h1]; exact h3⟩
    | none =>
      rw [ga] at h1
      exact .inr ⟨v, t, t', by simpa using h1, h2, h3⟩
  · rintro (⟨v, t, t', h1, h2, h3⟩ | ⟨v, t, t', h1, h2, h3⟩)
    · exact ⟨v, t, t', by rw [h, h1]; rfl, h2, h3⟩
    · refine ⟨v, t, t', ?_, h2, h3⟩
      rw [h]
      cases ga : getP a v with
      | none => simpa using h1
      | some s => rw [noconf hab ga h1]; rfl
theorem meet_assoc {a b c : Sl} (ha : Asc a) (hb : Asc b) (hc : Asc c) : ((meetP a b).bind fun x => meetP x c) = ((meetP b c).bind fun y => meetP a y) := by
  have h1 := meetP_get ha hb
  have h2 := meetP_get hb hc
  cases e1 : meetP a b with
  | none =>
    rw [e1] at h1
    show none = _
    cases e2 : meetP b c with
    | none => rfl
    | some y =>
      rw [e2] at h2
      have h3 := meetP_get ha h2.2.1
      show none = meetP a y
      cases e3 : meetP a y with
      | none => rfl
      | some z => rw [e3] at h3; exact absurd (conf_symm ((conf_meet h2.2.2 h2.1).2 (.inl (conf_symm h1)))) h3.1
  | some x =>
    rw [e1] at h1
    have h4 := meetP_get h1.2.1 hc
    show meetP x c = _
    cases e2 : meetP b c with
    | none =>
      rw [e2] at h2
      show meetP x c = none
      cases e4 : meetP x c with
      | none => rfl
      | some z => rw [e4] at h4; exact absurd ((conf_meet h1.2.2 h1.1).2 (.inr h2)) h4.1
    | some y =>
      rw [e2] at h2
      have h3 := meetP_get ha h2.2.1
      show meetP x c = meetP a y
      cases e4 : meetP x c with
      | none =>
        rw [e4] at h4
        cases e3 : meetP a y with
        | none => rfl
        | some z =>
          rw [e3] at h3
          rcases (conf_meet h1.2.2 h1.1).1 h4 with h | h
          · exact absurd (conf_symm ((conf_meet h2.2.2 h2.1).2 (.inr (conf_symm h)))) h3.1
          · exact absurd h h2.1
      | some z =>
        rw [e4] at h4
        cases e3 : meetP a y with
        | none =>
          rw [e3] at h3
          rcases (conf_meet h2.2.2 h2.1).1 (conf_symm h3) with h | h
          · exact absurd (conf_symm h) h1.1
          · exact absurd ((conf_meet h1.2.2 h1.1).2 (.inl (conf_symm h))) h4.1
        | some z' =>
          rw [e3] at h3
          congr 1
          refine asc_ext h4.2.1 h3.2.1 (fun v => ?_)
          rw [h4.2.2, h3.2.2, h1.2.2, h2.2.2]
          cases getP a v <;> cases getP b v <;> cases getP c v <;> rfl
end Go.Proofs.Ytkhdadbbgfjcgaa
