/- What the calls on solutions compute, as plain functions. -/
import Derived.Test.YtkhdadbbgfjcgaaSolP
namespace Go.Proofs.Ytkhdadbbgfjcgaa
open Go.RowKit
set_option linter.unusedVariables false

/-- where a variable stands, or would -/
def rk : Sl → List UInt8 → Nat
  | [], _ => 0
  | p :: s, v => if ltB p.1 v = true then rk s v + 1 else 0
def setP : Sl → List UInt8 → T4 → Option Sl
  | [], v, t => some [(v, t)]
  | p :: s, v, t => if ltB p.1 v = true then (setP s v t).map (p :: ·) else if p.1 = v then (if p.2 = t then some (p :: s) else none) else some ((v, t) :: p :: s)
def getP : Sl → List UInt8 → Option T4
  | [], _ => none
  | p :: s, v => if p.1 = v then some p.2 else getP s v
def meetP : Sl → Sl → Option Sl
  | a, [] => some a
  | a, p :: b => (setP a p.1 p.2).bind fun x => meetP x b
def Asc (s : Sl) : Prop := s.Pairwise fun p q => ltB p.1 q.1 = true
def hitB (s : Sl) (v : List UInt8) : Bool := match s[rk s v]? with | some p => p.1 == v | none => false

theorem rk_le : ∀ (s : Sl) (v : List UInt8), rk s v ≤ s.length
  | [], _ => Nat.le_refl _
  | p :: s, v => by unfold rk; have := rk_le s v; split <;> simp <;> omega
theorem rk_lt : ∀ (s : Sl) (v : List UInt8) (i : Nat) (hi : i < s.length), i < rk s v → ltB s[i].1 v = true
  | p :: s, v, i, hi, h => by
    unfold rk at h
    split at h
    · rename_i hp
      cases i with
      | zero => exact hp
      | succ i => exact rk_lt s v i (by simpa using hi) (by omega)
    · omega
theorem rk_at : ∀ (s : Sl) (v : List UInt8) (hi : rk s v < s.length), ltB (s[rk s v]'hi).1 v = false
  | p :: s, v, hi => by
    by_cases hp : ltB p.1 v = true
    · have e : rk (p :: s) v = rk s v + 1 := by simp [rk, hp]
      have hi2 : rk s v < s.length := by rw [e] at hi; simpa using hi
      have h := rk_at s v hi2
      simp only [e, List.getElem_cons_succ]
      exact h
    · have e : rk (p :: s) v = 0 := by simp [rk, hp]
      simp only [e, List.getElem_cons_zero]
      simpa using hp
theorem rk_of {s : Sl} {v : List UInt8} {k : Nat} (hk : k ≤ s.length) (h1 : ∀ i (hi : i < s.length), i < k → ltB s[i].1 v = true) (h2 : ∀ (hi : k < s.length), ltB s[k].1 v = false) : rk s v = k := by
  rcases Nat.lt_trichotomy (rk s v) k with h | h | h
  · have hi : rk s v < s.length := by omega
    have := rk_at s v hi
    rw [h1 _ hi h] at this; cases this
  · exact h
  · have hle := rk_le s v
    have := rk_lt s v k (by omega) h
    rw [h2 (by omega)] at this; cases this
theorem setP_rk : ∀ (s : Sl) (v : List UInt8) (t : T4), setP s v t =
    if h : rk s v < s.length then (if (s[rk s v]).1 = v then (if (s[rk s v]).2 = t then some s else none) else some (s.take (rk s v) ++ (v, t) :: s.drop (rk s v))) else some (s ++ [(v, t)])
  | [], v, t => by simp [setP, rk]
  | p :: s, v, t => by
    have ih := setP_rk s v t
    by_cases hp : ltB p.1 v = true
    · have e : rk (p :: s) v = rk s v + 1 := by simp [rk, hp]
      unfold setP
      rw [if_pos hp, ih]
      simp only [e]
      by_cases hl : rk s v < s.length
      · rw [dif_pos hl, dif_pos (by simpa using hl)]
        simp only [List.getElem_cons_succ, List.take_succ_cons, List.drop_succ_cons]
        split
        · split <;> simp
        · simp
      · rw [dif_neg hl, dif_neg (by simpa using hl)]
        simp
    · have e : rk (p :: s) v = 0 := by simp [rk, hp]
      unfold setP
      rw [if_neg hp]
      simp only [e]
      rw [dif_pos (by simp)]
      simp
theorem setP_same {s : Sl} {v : List UInt8} {t : T4} (h : rk s v < s.length) (h1 : (s[rk s v]).1 = v) (h2 : (s[rk s v]).2 = t) : setP s v t = some s := by
  rw [setP_rk, dif_pos h, if_pos h1, if_pos h2]
theorem setP_other {s : Sl} {v : List UInt8} {t : T4} (h : rk s v < s.length) (h1 : (s[rk s v]).1 = v) (h2 : ¬ (s[rk s v]).2 = t) : setP s v t = none := by
  rw [setP_rk, dif_pos h, if_pos h1, if_neg h2]
theorem setP_new {s : Sl} {v : List UInt8} {t : T4} (h : ∀ hh : rk s v < s.length, ¬ (s[rk s v]).1 = v) : setP s v t = some (s.take (rk s v) ++ (v, t) :: s.drop (rk s v)) := by
  rw [setP_rk]
  by_cases hl : rk s v < s.length
  · rw [dif_pos hl, if_neg (h hl)]
  · have : rk s v = s.length := by have := rk_le s v; omega
    rw [dif_neg hl, this]; simp
theorem hitB_iff {s : Sl} {v : List UInt8} : hitB s v = true ↔ ∃ h : rk s v < s.length, (s[rk s v]).1 = v := by
  unfold hitB
  by_cases hl : rk s v < s.length
  · rw [List.getElem?_eq_getElem hl]; simp [hl]
  · rw [List.getElem?_eq_none (by omega)]; simp [hl]
theorem Asc.tail {p : Pr} {s : Sl} (h : Asc (p :: s)) : Asc s := (List.pairwise_cons.1 h).2
theorem Asc.lt {s : Sl} (h : Asc s) {i j : Nat} (hj : j < s.length) (hij : i < j) : ltB (s[i]).1 (s[j]).1 = true := List.pairwise_iff_getElem.1 h i j (by omega) hj hij
theorem getP_rk : ∀ {s : Sl} {v : List UInt8}, Asc s → getP s v = if h : rk s v < s.length then (if (s[rk s v]).1 = v then some (s[rk s v]).2 else none) else none
  | [], v, _ => by simp [getP]
  | p :: s, v, ha => by
    have ih := getP_rk (v := v) ha.tail
    by_cases hp : ltB p.1 v = true
    · have e : rk (p :: s) v = rk s v + 1 := by simp [rk, hp]
      have hne : ¬ p.1 = v := fun h => by subst h; rw [ltB_irr] at hp; cases hp
      unfold getP
      rw [if_neg hne, ih]
      simp only [e, List.getElem_cons_succ, List.length_cons, Nat.add_lt_add_iff_right]
    · have e : rk (p :: s) v = 0 := by simp [rk, hp]
      unfold getP
      simp only [e]
      rw [dif_pos (by simp)]
      simp only [List.getElem_cons_zero]
      split
      · rfl
      · rename_i hne
        rw [ih]
        by_cases hl : rk s v < s.length
        · rw [dif_pos hl, if_neg]
          intro h
          have h1 := (List.pairwise_cons.1 ha).1 _ (List.getElem_mem hl)
          rw [h] at h1
          exact hp h1
        · rw [dif_neg hl]
theorem setP_mem : ∀ {s : Sl} {v : List UInt8} {t : T4} {x : Sl}, setP s v t = some x → ∀ p ∈ x, p ∈ s ∨ p = (v, t)
  | [], v, t, x, h, p, hp => by
    simp [setP] at h; subst h; simp at hp; exact .inr hp
  | q :: s, v, t, x, h, p, hp => by
    unfold setP at h
    split at h
    · obtain ⟨y, hy, rfl⟩ := Option.map_eq_some_iff.1 h
      rcases List.mem_cons.1 hp with rfl | hp
      · exact .inl (List.mem_cons_self ..)
      · rcases setP_mem hy p hp with h | h
        · exact .inl (List.mem_cons_of_mem _ h)
        · exact .inr h
    · split at h
      · split at h
        · cases h; exact .inl hp
        · cases h
      · cases h
        rcases List.mem_cons.1 hp with rfl | hp
        · exact .inr rfl
        · exact .inl hp
theorem setP_asc : ∀ {s : Sl} {v : List UInt8} {t : T4} {x : Sl}, Asc s → setP s v t = some x → Asc x
  | [], v, t, x, _, h => by simp [setP] at h; subst h; exact List.pairwise_singleton _ _
  | q :: s, v, t, x, ha, h => by
    have hq := List.pairwise_cons.1 ha
    unfold setP at h
    split at h
    · rename_i hlt
      obtain ⟨y, hy, rfl⟩ := Option.map_eq_some_iff.1 h
      refine List.pairwise_cons.2 ⟨fun p hp => ?_, setP_asc hq.2 hy⟩
      rcases setP_mem hy p hp with h | rfl
      · exact hq.1 p h
      · exact hlt
    · rename_i hlt
      split at h
      · split at h
        · cases h; exact ha
        · cases h
      · rename_i hne
        cases h
        have hv : ltB v q.1 = true := by
          cases hc : ltB v q.1 with
          | true => rfl
          | false => exact absurd (ltB_tri (by simpa using hlt) hc) hne
        refine List.pairwise_cons.2 ⟨fun p hp => ?_, ha⟩
        rcases List.mem_cons.1 hp with rfl | hp
        · exact hv
        · exact ltB_trans hv (hq.1 p hp)
theorem setP_len : ∀ {s : Sl} {v : List UInt8} {t : T4} {x : Sl}, setP s v t = some x → x.length ≤ s.length + 1
  | [], v, t, x, h => by simp [setP] at h; subst h; simp
  | q :: s, v, t, x, h => by
    unfold setP at h
    split at h
    · obtain ⟨y, hy, rfl⟩ := Option.map_eq_some_iff.1 h
      have := setP_len hy
      simp; omega
    · split at h
      · split at h
        · cases h; omega
        · cases h
      · cases h; simp

/-- solutions that a walk takes: texts of some length, in order -/
structure OkS (n : Nat) (s : Sl) : Prop where
  len : s.length ≤ n
  asc : Asc s
  ok : ∀ p ∈ s, p.1.length ≤ 100 ∧ OkT p.2
theorem OkS.mono {n m : Nat} {s : Sl} (h : OkS n s) (hm : n ≤ m) : OkS m s := ⟨Nat.le_trans h.len hm, h.asc, h.ok⟩
theorem OkS.nil (n : Nat) : OkS n [] := ⟨by simp, List.Pairwise.nil, fun p hp => by cases hp⟩
theorem OkS.set {n : Nat} {s x : Sl} {v : List UInt8} {t : T4} (h : OkS n s) (hv : v.length ≤ 100) (ht : OkT t) (hx : setP s v t = some x) : OkS (n + 1) x :=
  ⟨Nat.le_trans (setP_len hx) (by have := h.len; omega), setP_asc h.asc hx, fun p hp => by
    rcases setP_mem hx p hp with h1 | rfl
    · exact h.ok p h1
    · exact ⟨hv, ht⟩⟩
theorem OkS.meet : ∀ {b a x : Sl} {n m : Nat}, OkS n a → (∀ p ∈ b, p.1.length ≤ 100 ∧ OkT p.2) → b.length ≤ m → meetP a b = some x → OkS (n + m) x
  | [], a, x, n, m, ha, hb, hl, h => by simp [meetP] at h; subst h; exact ha.mono (by omega)
  | p :: b, a, x, n, m, ha, hb, hl, h => by
    unfold meetP at h
    obtain ⟨y, hy, hx⟩ := Option.bind_eq_some_iff.1 h
    have hp := hb p (List.mem_cons_self ..)
    have hy2 := ha.set hp.1 hp.2 hy
    have hl2 : b.length ≤ m - 1 := by simp at hl; omega
    have hm : 1 ≤ m := by simp at hl; omega
    exact (OkS.meet hy2 (fun q hq => hb q (List.mem_cons_of_mem _ hq)) hl2 hx).mono (by omega)
end Go.Proofs.Ytkhdadbbgfjcgaa
