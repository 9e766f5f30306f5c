/- Regions whose order is open: as XOrd, but only some of the stable operations lean on what is known of the memory. -/
import Derived.Test.YtdilkgcoecipjaaOrd
namespace Go.Proofs.Ytdilkgcoecipjaa
open Go.RowKit
set_option linter.unusedVariables false

section
variable {P : Program} {ops : Array Oper} {Q : Exit → Act → World → Prop} {md : Region.Mode} {S : World → Prop}

def wpJ (P : Program) (md : Region.Mode) (ops : Array Oper) (Q : Exit → Act → World → Prop) (S : World → Prop) (brk : Nat → Bool) : Nat → Array Bool → Act → World → Prop
  | 0, listed, a, w => Region.ready md ops listed = [] ∧ Q .normal a w
  | fuel + 1, listed, a, w =>
    (Region.ready md ops listed = [] → Q .normal a w) ∧
    ∀ i ∈ Region.ready md ops listed, wpOp P ops Q i (fun a' w' => (brk i = false → S w → S w') ∧ wpJ P md ops Q S brk fuel (listed.setIfInBounds i true) a' w') a w

theorem wpJ_any {brk : Nat → Bool} : ∀ (fuel : Nat) (listed : Array Bool) (a : Act) (w : World), wpJ P md ops Q S brk fuel listed a w → wpAny P md ops Q fuel listed a w := by
  intro fuel
  induction fuel with
  | zero => intro listed a w h; exact h
  | succ fuel ih => intro listed a w h; exact ⟨h.1, fun i hi => wpOp_mono (fun a' w' hk => ih _ _ _ hk.2) (h.2 i hi)⟩

theorem wpJ_first {ln brk : Nat → Bool} (hbrk : brkB md ops ln brk = true) {i : Nat} {oi : Oper} {v : Value} (hi : ops[i]? = some oi) (hsel : ∀ (j : Nat) (o : Oper) cs b, ops[j]? = some o → o.op ≠ .select cs b)
    (hQ : ∀ c a w d u, Q (.panic c) (Act.put a d u) w → Q (.panic c) a w) :
    ∀ (fuel : Nat) (listed : Array Bool) (a : Act) (w : World), Closed md ops listed →
      (∀ j oj, ops[j]? = some oj → j ≠ i → listed.getD j true = false → (∀ e ∈ oj.after, Region.binds md e = true → e.on ≠ i) → oi.apart ops oj = true) →
      i ∈ Region.ready md ops listed → (ln i = true → S w) → Stable P ops (fun w => ln i = true → S w) oi v a →
      wpJ P md ops Q S brk fuel (listed.setIfInBounds i true) (a.put oi.dst v) w → wpJ P md ops Q S brk (fuel + 1) listed a w := by
  intro fuel
  induction fuel with
  | zero =>
    intro listed a w _ _ hr hS hy H
    refine ⟨fun h => (by rw [h] at hr; cases hr), fun j hj => ?_⟩
    by_cases hji : j = i
    · subst hji; exact hy.op hi hS ⟨fun _ h => h, H⟩
    · have := ready_mono hj hji
      rw [H.1] at this
      cases this
  | succ fuel ih =>
    intro listed a w hcl hfree hr hS hy H
    refine ⟨fun h => (by rw [h] at hr; cases hr), fun j hj => ?_⟩
    by_cases hji : j = i
    · subst hji; exact hy.op hi hS ⟨fun _ h => h, H⟩
    · have h1 := H.2 j (ready_mono hj hji)
      have hbj := fun hl => brkB_spec (st := ln) hbrk hcl hr hl hj
      obtain ⟨hjun, oj, hoj, hall⟩ := mem_ready.1 hj
      have hnot : ∀ e ∈ oj.after, Region.binds md e = true → e.on ≠ i := fun e he hb heq => by
        have h1 := hall e he hb
        have h0 := (mem_ready.1 hr).1
        rw [heq] at h1
        rcases Nat.lt_or_ge i listed.size with h' | h'
        · simp [h'] at h0 h1; rw [h0] at h1; cases h1
        · simp [Array.getElem?_eq_none h'] at h1
      have h2 := op_swap hoj (hfree j oj hoj hji hjun hnot) (fun cs b => hsel i oi cs b hi) (fun cs b => hsel j oj cs b hoj) hQ hy h1
      have hfree' : ∀ k ok, ops[k]? = some ok → k ≠ i → (listed.setIfInBounds j true).getD k true = false →
          (∀ e ∈ ok.after, Region.binds md e = true → e.on ≠ i) → oi.apart ops ok = true := fun k ok hk hki hun hno => by
        refine hfree k ok hk hki ?_ hno
        by_cases hjk : j = k
        · subst hjk; exact hjun
        · rw [getD_set_ne true hjk] at hun; exact hun
      refine wpOp_mono (fun a' w' h3 => ⟨h3.2.1, ih (listed.setIfInBounds j true) a' w' (hcl.set hj) hfree' (ready_mono hr (Ne.symm hji)) (fun hl => h3.2.1 (hbj hl) (hS hl)) h3.1 ?_⟩) h2
      rw [Array.setIfInBounds_comm _ _ hji]
      exact h3.2.2

def wpPlan2 (P : Program) (ops : Array Oper) (Q : Exit → Act → World → Prop) (S : World → Prop) (st ln brk : Nat → Bool) : List Nat → Act → World → Prop
  | [], a, w => Q .normal a w
  | j :: rest, a, w =>
    match ops[j]? with
    | none => False
    | some o => if st j then ∃ v, Stable P ops (fun w => ln j = true → S w) o v a ∧ wpPlan2 P ops Q S st ln brk rest (a.put o.dst v) w
      else effect P ops Q S j (!brk j || rest.any ln) (wpPlan2 P ops Q S st ln brk rest) a w

def planB2 (md : Region.Mode) (ops : Array Oper) (st ln brk : Nat → Bool) : List Nat → Array Bool → Bool
  | [], listed => Region.ready md ops listed == []
  | j :: rest, listed => (if st j then (Region.ready md ops listed).contains j && Region.free md ops listed j else Region.ready md ops listed == [j] && !ln j && (!brk j || !rest.any ln)) && planB2 md ops st ln brk rest (listed.setIfInBounds j true)

theorem effect_op2 {ln brk : Nat → Bool} {j : Nat} {rest : List Nat} {fuel : Nat} {listed : Array Bool} {a : Act} {w : World} {K0 : Act → World → Prop}
    (ih : ∀ a w, (rest.any ln = true → S w) → K0 a w → wpJ P md ops Q S brk fuel (listed.setIfInBounds j true) a w)
    (h : effect P ops Q S j (!brk j || rest.any ln) K0 a w) : wpOp P ops Q j (fun a' w' => (brk j = false → S w → S w') ∧ wpJ P md ops Q S brk fuel (listed.setIfInBounds j true) a' w') a w := by
  unfold effect at h
  unfold wpOp
  cases ho : ops[j]? with
  | none => simp only [ho] at h
  | some o =>
    simp only [ho] at h ⊢
    by_cases hw : Region.wanted o (yielded ops a.tmps) = true
    · rw [if_pos hw] at h ⊢
      exact h.imp (Oper.wp_mono (fun a' w' hk => ⟨fun hb _ => hk.1 (by simp [hb]), ih _ _ (fun hr => hk.1 (by simp [hr])) hk.2⟩)) id
    · rw [if_neg hw] at h ⊢
      exact ⟨fun hb _ => h.1 (by simp [hb]), ih _ _ (fun hr => h.1 (by simp [hr])) h.2⟩

theorem wpJ_plan (hsel : Region.noSelect ops = true) (hQ : ∀ c a w d u, Q (.panic c) (Act.put a d u) w → Q (.panic c) a w) (st ln brk : Nat → Bool) (hbrk : brkB md ops ln brk = true) :
    ∀ (l : List Nat) (listed : Array Bool) (a : Act) (w : World), Closed md ops listed → planB2 md ops st ln brk l listed = true → (l.any ln = true → S w) → wpPlan2 P ops Q S st ln brk l a w → wpJ P md ops Q S brk l.length listed a w := by
  intro l
  induction l with
  | nil => intro listed a w _ hp hS h; exact ⟨by simpa [planB2] using hp, h⟩
  | cons j rest ih =>
    intro listed a w hcl hp hS h
    simp only [planB2, Bool.and_eq_true] at hp
    obtain ⟨hp1, hp2⟩ := hp
    simp only [wpPlan2] at h
    cases ho : ops[j]? with
    | none => simp only [ho] at h
    | some o =>
      simp only [ho] at h
      by_cases hst : st j = true
      · rw [if_pos hst] at h hp1
        simp only [Bool.and_eq_true] at hp1
        obtain ⟨v, hy, h⟩ := h
        have hrd : j ∈ Region.ready md ops listed := by simpa using hp1.1
        exact wpJ_first hbrk ho (Region.noSelect_spec hsel) hQ _ listed a w hcl (Region.free_spec ho hp1.2) hrd (fun hl => hS (by simp [hl])) hy (ih _ _ _ (hcl.set hrd) hp2 (fun hr => hS (by simp only [List.any_cons, hr, Bool.or_true])) h)
      · rw [if_neg hst] at h hp1
        simp only [Bool.and_eq_true] at hp1
        have hr : Region.ready md ops listed = [j] := by simpa using hp1.1.1
        have hrd : j ∈ Region.ready md ops listed := by rw [hr]; simp
        refine ⟨fun h0 => (by rw [hr] at h0; cases h0), fun i hi => ?_⟩
        rw [hr] at hi
        obtain rfl : i = j := by simpa using hi
        exact effect_op2 (fun a w hs hk => ih _ a w (hcl.set hrd) hp2 hs hk) h

theorem wp_region_plan2 {id : Nat} {a : Act} {w : World} (S : World → Prop) (st ln brk : Nat → Bool) (l : List Nat) (hm : P.follows .mixedOrders = true) (hsel : Region.noSelect ops = true) (hlen : l.length = ops.size)
    (hb : brkB .any ops ln brk = true) (hp : planB2 .any ops st ln brk l (Array.replicate ops.size false) = true) (hS : S w.drew)
    (h : wpPlan2 P ops (Qn Q) S st ln brk l a w.drew) : (Code.region id ops true).wp P Q a w := by
  refine wp_region_any hm (wpAny_weak Qn.of _ _ _ _ (wpJ_any (S := S) (brk := brk) _ _ _ _ ?_))
  rw [← hlen]
  exact wpJ_plan hsel (fun _ _ _ _ _ h => h.elim) st ln brk hb l _ a w.drew (by rw [hlen]; exact Closed.none) (by rw [hlen]; exact hp) (fun _ => hS) h

theorem wpPlan2_val {st ln brk : Nat → Bool} {j : Nat} {rest : List Nat} {a : Act} {w : World} {o : Oper} (v : Value) (ho : ops[j]? = some o) (hst : st j = true) (hw : Region.wanted o (yielded ops a.tmps) = true)
    (hv : ∀ w', (ln j = true → S w') → (execOp a.eval o).run P w' = .ok (.value v) w') (h : ∀ K : Act → Prop, (∀ a', wpPlan2 P ops Q S st ln brk rest a' w → K a') → K (a.put o.dst v)) : wpPlan2 P ops Q S st ln brk (j :: rest) a w := by
  have h := h _ fun _ h => h
  simp only [wpPlan2, ho, hst, if_true]
  exact ⟨v, .inl ⟨hw, fun w' hS => .inl (hv w' hS)⟩, h⟩
theorem wpPlan2_list {st ln brk : Nat → Bool} {j : Nat} {rest : List Nat} {a : Act} {w : World} {o : Oper} (ho : ops[j]? = some o) (hst : st j = false) (hw : Region.wanted o (yielded ops a.tmps) = true)
    (h : ∀ K : Act → World → Prop, (∀ a' w', ((!brk j || rest.any ln) = true → S w') → wpPlan2 P ops Q S st ln brk rest a' w' → K a' w') →
      wpList P ops (fun e a' w' => match e with | .normal => K a' w' | e => Q e a' w') [o] a w) : wpPlan2 P ops Q S st ln brk (j :: rest) a w := by
  simp only [wpPlan2, ho, hst, Bool.false_eq_true, if_false]
  exact effect_list ho hw h
theorem wpPlan2_off {st ln brk : Nat → Bool} {j : Nat} {rest : List Nat} {a : Act} {w : World} {o : Oper} (ho : ops[j]? = some o) (hst : st j = true) (hw : Region.wanted o (yielded ops a.tmps) = false)
    (h : ∀ K : Act → Prop, (∀ a', wpPlan2 P ops Q S st ln brk rest a' w → K a') → K (a.put o.dst undef)) : wpPlan2 P ops Q S st ln brk (j :: rest) a w := by
  have h := h _ fun _ h => h
  simp only [wpPlan2, ho, hst, if_true]
  exact ⟨undef, .inr ⟨hw, rfl⟩, h⟩
theorem wpPlan2_nil {st ln brk : Nat → Bool} {a : Act} {w : World} (h : Q .normal a w) : wpPlan2 P ops Q S st ln brk [] a w := h
end
end Go.Proofs.Ytdilkgcoecipjaa
