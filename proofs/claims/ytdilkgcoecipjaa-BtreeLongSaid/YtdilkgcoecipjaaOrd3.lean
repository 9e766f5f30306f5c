/- Regions whose order is open: as XOrd2, with forks. -/
import Derived.Test.YtdilkgcoecipjaaOrd2
namespace Go.Proofs.Ytdilkgcoecipjaa
open Go.RowKit
set_option linter.unusedVariables false

section
variable {P : Program} {ops : Array Oper} {Q : Exit → Act → World → Prop} {md : Region.Mode} {S : World → Prop}

def wpPlan3 (P : Program) (ops : Array Oper) (Q : Exit → Act → World → Prop) (S : World → Prop) (st ln brk : Nat → Bool) : Plan → Act → World → Prop
  | .nil, a, w => Q .normal a w
  | .cons j rest, a, w =>
    match ops[j]? with
    | none => False
    | some o => if st j then ∃ v, Stable P ops (fun w => ln j = true → S w) o v a ∧ wpPlan3 P ops Q S st ln brk rest (a.put o.dst v) w
      else effect P ops Q S j (!brk j || rest.any ln) (wpPlan3 P ops Q S st ln brk rest) a w
  | .fork j k r1 r2, a, w => effect P ops Q S j (!brk j || r1.any ln) (wpPlan3 P ops Q S st ln brk r1) a w ∧ effect P ops Q S k (!brk k || r2.any ln) (wpPlan3 P ops Q S st ln brk r2) a w

def planB3 (md : Region.Mode) (ops : Array Oper) (st ln brk : Nat → Bool) : Plan → Array Bool → Bool
  | .nil, listed => Region.ready md ops listed == []
  | .cons j rest, listed => (if st j then (Region.ready md ops listed).contains j && Region.free md ops listed j else Region.ready md ops listed == [j] && !ln j && (!brk j || !rest.any ln)) && planB3 md ops st ln brk rest (listed.setIfInBounds j true)
  | .fork j k r1 r2, listed => Region.ready md ops listed == [j, k] && !ln j && !ln k && (!brk j || !r1.any ln) && (!brk k || !r2.any ln) && r1.depth == r2.depth &&
      planB3 md ops st ln brk r1 (listed.setIfInBounds j true) && planB3 md ops st ln brk r2 (listed.setIfInBounds k true)

theorem effect_op3 {ln brk : Nat → Bool} {j : Nat} {rest : Plan} {fuel : Nat} {listed : Array Bool} {a : Act} {w : World} {K0 : Act → World → Prop}
    (ih : ∀ a w, (rest.any ln = true → S w) → K0 a w → wpJ P md ops Q S brk fuel (listed.setIfInBounds j true) a w)
    (h : effect P ops Q S j (!brk j || rest.any ln) K0 a w) : wpOp P ops Q j (fun a' w' => (brk j = false → S w → S w') ∧ wpJ P md ops Q S brk fuel (listed.setIfInBounds j true) a' w') a w := by
  unfold effect at h
  unfold wpOp
  cases ho : ops[j]? with
  | none => simp only [ho] at h
  | some o =>
    simp only [ho] at h ⊢
    by_cases hw : Region.wanted o (yielded ops a.tmps) = true
    · rw [if_pos hw] at h ⊢
      exact h.imp (Oper.wp_mono (fun a' w' hk => ⟨fun hb _ => hk.1 (by simp [hb]), ih _ _ (fun hr => hk.1 (by simp [hr])) hk.2⟩)) id
    · rw [if_neg hw] at h ⊢
      exact ⟨fun hb _ => h.1 (by simp [hb]), ih _ _ (fun hr => h.1 (by simp [hr])) h.2⟩

theorem wpJ_plan3 (hsel : Region.noSelect ops = true) (hQ : ∀ c a w d u, Q (.panic c) (Act.put a d u) w → Q (.panic c) a w) (st ln brk : Nat → Bool) (hbrk : brkB md ops ln brk = true) :
    ∀ (l : Plan) (listed : Array Bool) (a : Act) (w : World), Closed md ops listed → planB3 md ops st ln brk l listed = true → (l.any ln = true → S w) → wpPlan3 P ops Q S st ln brk l a w → wpJ P md ops Q S brk l.depth listed a w := by
  intro l
  induction l with
  | nil => intro listed a w _ hp hS h; exact ⟨by simpa [planB3] using hp, h⟩
  | cons j rest ih =>
    intro listed a w hcl hp hS h
    simp only [planB3, Bool.and_eq_true] at hp
    obtain ⟨hp1, hp2⟩ := hp
    simp only [wpPlan3] at h
    cases ho : ops[j]? with
    | none => simp only [ho] at h
    | some o =>
      simp only [ho] at h
      by_cases hst : st j = true
      · rw [if_pos hst] at h hp1
        simp only [Bool.and_eq_true] at hp1
        obtain ⟨v, hy, h⟩ := h
        have hrd : j ∈ Region.ready md ops listed := by simpa using hp1.1
        exact wpJ_first hbrk ho (Region.noSelect_spec hsel) hQ _ listed a w hcl (Region.free_spec ho hp1.2) hrd (fun hl => hS (by simp [Plan.any, hl])) hy (ih _ _ _ (hcl.set hrd) hp2 (fun hr => hS (by simp only [Plan.any, hr, Bool.or_true])) h)
      · rw [if_neg hst] at h hp1
        simp only [Bool.and_eq_true] at hp1
        have hr : Region.ready md ops listed = [j] := by simpa using hp1.1.1
        have hrd : j ∈ Region.ready md ops listed := by rw [hr]; simp
        refine ⟨fun h0 => (by rw [hr] at h0; cases h0), fun i hi => ?_⟩
        rw [hr] at hi
        obtain rfl : i = j := by simpa using hi
        exact effect_op3 (fun a w hs hk => ih _ a w (hcl.set hrd) hp2 hs hk) h
  | fork j k r1 r2 ih1 ih2 =>
    intro listed a w hcl hp hS h
    simp only [planB3, Bool.and_eq_true] at hp
    obtain ⟨⟨⟨⟨⟨⟨⟨hp1, _⟩, _⟩, _⟩, _⟩, hd⟩, hq1⟩, hq2⟩ := hp
    have hr : Region.ready md ops listed = [j, k] := by simpa using hp1
    have hd : r1.depth = r2.depth := by simpa using hd
    have hj : j ∈ Region.ready md ops listed := by rw [hr]; simp
    have hk : k ∈ Region.ready md ops listed := by rw [hr]; simp
    refine ⟨fun h0 => (by rw [hr] at h0; cases h0), fun i hi => ?_⟩
    rw [hr] at hi
    rcases List.mem_cons.1 hi with rfl | hi
    · exact effect_op3 (fun a w hs hk => ih1 _ a w (hcl.set hj) hq1 hs hk) h.1
    · obtain rfl := List.mem_singleton.1 hi
      refine effect_op3 (fun a w hs hkk => ?_) h.2
      show wpJ P md ops Q S brk r1.depth _ a w
      rw [hd]
      exact ih2 _ a w (hcl.set hk) hq2 hs hkk

theorem wp_region_plan3 {id : Nat} {a : Act} {w : World} (S : World → Prop) (st ln brk : Nat → Bool) (l : Plan) (hm : P.follows .mixedOrders = true) (hsel : Region.noSelect ops = true) (hlen : l.depth = ops.size)
    (hb : brkB .any ops ln brk = true) (hp : planB3 .any ops st ln brk l (Array.replicate ops.size false) = true) (hS : S w.drew)
    (h : wpPlan3 P ops (Qn Q) S st ln brk l a w.drew) : (Code.region id ops true).wp P Q a w := by
  refine wp_region_any hm (wpAny_weak Qn.of _ _ _ _ (wpJ_any (S := S) (brk := brk) _ _ _ _ ?_))
  rw [← hlen]
  exact wpJ_plan3 hsel (fun _ _ _ _ _ h => h.elim) st ln brk hb l _ a w.drew (by rw [hlen]; exact Closed.none) (by rw [hlen]; exact hp) (fun _ => hS) h

theorem wpPlan3_val {st ln brk : Nat → Bool} {j : Nat} {rest : Plan} {a : Act} {w : World} {o : Oper} (v : Value) (ho : ops[j]? = some o) (hst : st j = true) (hw : Region.wanted o (yielded ops a.tmps) = true)
    (hv : ∀ w', (ln j = true → S w') → (execOp a.eval o).run P w' = .ok (.value v) w') (h : ∀ K : Act → Prop, (∀ a', wpPlan3 P ops Q S st ln brk rest a' w → K a') → K (a.put o.dst v)) : wpPlan3 P ops Q S st ln brk (.cons j rest) a w := by
  have h := h _ fun _ h => h
  simp only [wpPlan3, ho, hst, if_true]
  exact ⟨v, .inl ⟨hw, fun w' hS => .inl (hv w' hS)⟩, h⟩
theorem wpPlan3_list {st ln brk : Nat → Bool} {j : Nat} {rest : Plan} {a : Act} {w : World} {o : Oper} (ho : ops[j]? = some o) (hst : st j = false) (hw : Region.wanted o (yielded ops a.tmps) = true)
    (h : ∀ K : Act → World → Prop, (∀ a' w', ((!brk j || rest.any ln) = true → S w') → wpPlan3 P ops Q S st ln brk rest a' w' → K a' w') →
      wpList P ops (fun e a' w' => match e with | .normal => K a' w' | e => Q e a' w') [o] a w) : wpPlan3 P ops Q S st ln brk (.cons j rest) a w := by
  simp only [wpPlan3, ho, hst, Bool.false_eq_true, if_false]
  exact effect_list ho hw h
theorem wpPlan3_off {st ln brk : Nat → Bool} {j : Nat} {rest : Plan} {a : Act} {w : World} {o : Oper} (ho : ops[j]? = some o) (hst : st j = true) (hw : Region.wanted o (yielded ops a.tmps) = false)
    (h : ∀ K : Act → Prop, (∀ a', wpPlan3 P ops Q S st ln brk rest a' w → K a') → K (a.put o.dst undef)) : wpPlan3 P ops Q S st ln brk (.cons j rest) a w := by
  have h := h _ fun _ h => h
  simp only [wpPlan3, ho, hst, if_true]
  exact ⟨undef, .inr ⟨hw, rfl⟩, h⟩
theorem wpPlan3_nil {st ln brk : Nat → Bool} {a : Act} {w : World} (h : Q .normal a w) : wpPlan3 P ops Q S st ln brk .nil a w := h
end
end Go.Proofs.Ytdilkgcoecipjaa
