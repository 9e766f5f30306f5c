/- Regions whose order is open: operations that give the same in every world along the way may be done first; what writes stands in one forced order. -/
import Derived.Test.YtdilkgcoecipjaaHeap
import Derived.Orders
namespace Go.Proofs.Ytdilkgcoecipjaa
open Go.RowKit
set_option linter.unusedVariables false

section
variable {P : Program} {ops : Array Oper} {Q : Exit → Act → World → Prop} {md : Region.Mode} {S : World → Prop}

/-- an operation that gives v in every world of S, and leaves it -/
def Stable (P : Program) (ops : Array Oper) (S : World → Prop) (o : Oper) (v : Value) (a : Act) : Prop :=
  (Region.wanted o (yielded ops a.tmps) = true ∧ ∀ w, S w → (execOp a.eval o).run P w = .ok (.value v) w ∨
    ∃ f args, (execOp a.eval o).run P w = .ok (.enter f args) w ∧ Calls P f args w (fun e w'' => e = .returned v ∧ w'' = w)) ∨
  (Region.wanted o (yielded ops a.tmps) = false ∧ v = undef)

theorem Stable.op {i : Nat} {o : Oper} {v : Value} {a : Act} {w : World} (hi : ops[i]? = some o) (hS : S w) (hy : Stable P ops S o v a) {K : Act → World → Prop} (h : K (a.put o.dst v) w) :
    wpOp P ops Q i K a w := by
  unfold wpOp
  simp only [hi]
  rcases hy with ⟨hw, hv⟩ | ⟨hw, rfl⟩
  · rcases hv w hS with hr | ⟨f, args, hr, hc⟩
    · simp only [hw, if_true, Oper.wp, hr, Oper.upon]; exact .inl h
    · simp only [hw, if_true, Oper.wp, hr, Oper.upon]
      refine .inl (hc.mono fun e w'' he => ?_)
      obtain ⟨rfl, rfl⟩ := he
      exact h
  · simp only [hw, Bool.false_eq_true, if_false]; exact h

theorem Stable.same {o : Oper} {v : Value} {a a' : Act} (hy : Stable P ops S o v a) (he : execOp a'.eval o = execOp a.eval o)
    (hw : Region.wanted o (yielded ops a'.tmps) = Region.wanted o (yielded ops a.tmps)) : Stable P ops S o v a' := by
  unfold Stable at *
  rw [he, hw]
  exact hy

/-- another operation is done ahead of a stable one -/
theorem op_swap {j : Nat} {oi oj : Oper} {v : Value} (hj : ops[j]? = some oj) (hap : oi.apart ops oj = true)
    (hsi : ∀ cs b, oi.op ≠ .select cs b) (hsj : ∀ cs b, oj.op ≠ .select cs b)
    (hQ : ∀ c a w d u, Q (.panic c) (Act.put a d u) w → Q (.panic c) a w) {K : Act → World → Prop} {a : Act} {w : World}
    (hy : Stable P ops S oi v a) (h : wpOp P ops Q j K (a.put oi.dst v) w) :
    wpOp P ops Q j (fun a' w' => Stable P ops S oi v a' ∧ K (a'.put oi.dst v) w') a w := by
  obtain ⟨h1, h2, h3⟩ := Oper.apart_spec hap
  have keep : ∀ a : Act, Stable P ops S oi v a → ∀ u, Stable P ops S oi v (a.put oj.dst u) := fun a hy u =>
    hy.same (execOp_put oi hsi a oj.dst u h3) (wanted_put oi a oj.dst u h3)
  unfold wpOp at *
  simp only [hj] at *
  rw [wanted_put oj a oi.dst v h1] at h
  by_cases hw : Region.wanted oj (yielded ops a.tmps) = true
  · rw [if_pos hw] at h ⊢
    rcases h with h | ⟨ha, hl⟩
    · refine .inl ?_
      unfold Oper.wp at *
      rw [execOp_put oj hsj a oi.dst v h1] at h
      generalize (execOp a.eval oj).run P w = r at *
      cases r with
      | ok n w' =>
        cases n <;> simp only [Oper.upon] at h ⊢
        case value u => exact ⟨keep a hy u, by rw [← Act.put_comm a v u h2]; exact h⟩
        case skip => exact ⟨keep a hy _, by rw [← Act.put_comm a v undef h2]; exact h⟩
        case defer d =>
          refine ⟨keep { a with defers := d :: a.defers } (hy.same rfl rfl) _, ?_⟩
          rw [← Act.put_comm _ v undef h2, ← Act.put_defers]
          exact h
        case enter f args =>
          refine Calls.mono h fun e w'' he => ?_
          cases e with
          | returned u => exact ⟨keep a hy u, by rw [← Act.put_comm a v u h2]; exact he⟩
          | panicked c => exact hQ _ _ _ _ _ he
          | outgrown => exact he
        case row row args => exact Rows.mono h fun u w'' he => ⟨keep a hy u, by rw [← Act.put_comm a v u h2]; exact he⟩
      | halt x w' =>
        cases x <;> simp only [Oper.upon] at h ⊢
        case panic u => exact hQ _ _ _ _ _ h
    · refine .inr ⟨?_, hl⟩
      unfold Oper.asks at *
      rw [execOp_put oj hsj a oi.dst v h1] at ha
      exact ha
  · rw [if_neg hw] at h ⊢
    exact ⟨keep a hy _, by rw [← Act.put_comm a v undef h2]; exact h⟩

/-- what an operation waits for; and what that waits for -/
def depsOf (md : Region.Mode) (ops : Array Oper) (j : Nat) : List Nat :=
  match ops[j]? with
  | some o => (o.after.toList.filter fun e => Region.binds md e).map (·.on)
  | none => []
def depsAll (md : Region.Mode) (ops : Array Oper) : Nat → List Nat → List Nat
  | 0, l => l
  | n + 1, l => depsAll md ops n (l ++ l.flatMap (depsOf md ops)).eraseDups

/-- what is listed is listed with what it waited for -/
def Closed (md : Region.Mode) (ops : Array Oper) (listed : Array Bool) : Prop :=
  listed.size = ops.size ∧ ∀ j oj, ops[j]? = some oj → listed.getD j false = true → ∀ e ∈ oj.after, Region.binds md e = true → listed.getD e.on false = true

theorem Closed.deps {listed : Array Bool} (hc : Closed md ops listed) {j : Nat} (h : listed.getD j false = true) : ∀ k ∈ depsOf md ops j, listed.getD k false = true := by
  intro k hk
  unfold depsOf at hk
  cases ho : ops[j]? with
  | none => simp [ho] at hk
  | some o =>
    simp only [ho, List.mem_map, List.mem_filter, Array.mem_toList_iff] at hk
    obtain ⟨e, ⟨he, hb⟩, rfl⟩ := hk
    exact hc.2 j o ho h e he hb

theorem Closed.all {listed : Array Bool} (hc : Closed md ops listed) : ∀ (n : Nat) (l : List Nat), (∀ k ∈ l, listed.getD k false = true) → ∀ k ∈ depsAll md ops n l, listed.getD k false = true := by
  intro n
  induction n with
  | zero => intro l h; exact h
  | succ n ih =>
    intro l h
    refine ih _ fun k hk => ?_
    rw [List.mem_eraseDups, List.mem_append] at hk
    rcases hk with hk | hk
    · exact h k hk
    · obtain ⟨j, hj, hk⟩ := List.mem_flatMap.1 hk
      exact hc.deps (h j hj) k hk

theorem ready_deps {listed : Array Bool} {j : Nat} (hr : j ∈ Region.ready md ops listed) : ∀ k ∈ depsOf md ops j, listed.getD k false = true := by
  intro k hk
  obtain ⟨_, o, ho, hall⟩ := mem_ready.1 hr
  unfold depsOf at hk
  simp only [ho, List.mem_map, List.mem_filter, Array.mem_toList_iff] at hk
  obtain ⟨e, ⟨he, hb⟩, rfl⟩ := hk
  exact hall e he hb

theorem Closed.set {listed : Array Bool} (hc : Closed md ops listed) {i : Nat} (hi : i ∈ Region.ready md ops listed) : Closed md ops (listed.setIfInBounds i true) := by
  obtain ⟨_, oi, hoi, hall⟩ := mem_ready.1 hi
  refine ⟨by simp [hc.1], fun j oj hj hl e he hb => ?_⟩
  by_cases hij : i = j
  · subst hij
    have : oj = oi := Option.some.inj (hj.symm.trans hoi)
    subst this
    exact getD_set_true (hall e he hb)
  · rw [getD_set_ne false hij] at hl
    exact getD_set_true (hc.2 j oj hj hl e he hb)

theorem Closed.none : Closed md ops (Array.replicate ops.size false) := by
  refine ⟨by simp, fun j oj hj hl => ?_⟩
  have : (Array.replicate ops.size false).getD j false = false := by
    rcases Nat.lt_or_ge j ops.size with h | h
    · simp [h]
    · simp [h]
  rw [this] at hl
  cases hl

/-- an operation behind which S need not hold: it waits for all that is stable -/
def brkB (md : Region.Mode) (ops : Array Oper) (st brk : Nat → Bool) : Bool :=
  (List.range ops.size).all fun j => !brk j || (List.range ops.size).all fun k => !st k || (depsAll md ops ops.size (depsOf md ops j)).contains k

theorem brkB_spec {st brk : Nat → Bool} (h : brkB md ops st brk = true) {listed : Array Bool} (hc : Closed md ops listed) {i j : Nat} (hi : i ∈ Region.ready md ops listed) (hst : st i = true) (hj : j ∈ Region.ready md ops listed) : brk j = false := by
  cases hb : brk j with
  | false => rfl
  | true =>
    obtain ⟨hiun, oi, hoi, _⟩ := mem_ready.1 hi
    obtain ⟨_, oj, hoj, _⟩ := mem_ready.1 hj
    have h1 := List.all_eq_true.1 h j (List.mem_range.2 (Array.getElem?_eq_some_iff.1 hoj).1)
    simp only [hb, Bool.not_true, Bool.false_or] at h1
    have h2 := List.all_eq_true.1 h1 i (List.mem_range.2 (Array.getElem?_eq_some_iff.1 hoi).1)
    simp only [hst, Bool.not_true, Bool.false_or, List.contains_iff_mem] at h2
    have h3 := hc.all _ _ (ready_deps hj) i h2
    have hlt : i < listed.size := by rw [hc.1]; exact (Array.getElem?_eq_some_iff.1 hoi).1
    simp [hlt] at hiun h3
    rw [hiun] at h3
    cases h3

/-- any order, S holding behind each step but those of brk -/
def wpI (P : Program) (md : Region.Mode) (ops : Array Oper) (Q : Exit → Act → World → Prop) (S : World → Prop) (brk : Nat → Bool) : Nat → Array Bool → Act → World → Prop
  | 0, listed, a, w => Region.ready md ops listed = [] ∧ Q .normal a w
  | fuel + 1, listed, a, w =>
    (Region.ready md ops listed = [] → Q .normal a w) ∧
    ∀ i ∈ Region.ready md ops listed, wpOp P ops Q i (fun a' w' => (brk i = false → S w') ∧ wpI P md ops Q S brk fuel (listed.setIfInBounds i true) a' w') a w

theorem wpI_any {brk : Nat → Bool} : ∀ (fuel : Nat) (listed : Array Bool) (a : Act) (w : World), wpI P md ops Q S brk fuel listed a w → wpAny P md ops Q fuel listed a w := by
  intro fuel
  induction fuel with
  | zero => intro listed a w h; exact h
  | succ fuel ih => intro listed a w h; exact ⟨h.1, fun i hi => wpOp_mono (fun a' w' hk => ih _ _ _ hk.2) (h.2 i hi)⟩

theorem wpI_first {st brk : Nat → Bool} (hbrk : brkB md ops st brk = true) {i : Nat} {oi : Oper} {v : Value} (hi : ops[i]? = some oi) (hst : st i = true) (hsel : ∀ (j : Nat) (o : Oper) cs b, ops[j]? = some o → o.op ≠ .select cs b)
    (hQ : ∀ c a w d u, Q (.panic c) (Act.put a d u) w → Q (.panic c) a w) :
    ∀ (fuel : Nat) (listed : Array Bool) (a : Act) (w : World), Closed md ops listed →
      (∀ j oj, ops[j]? = some oj → j ≠ i → listed.getD j true = false → (∀ e ∈ oj.after, Region.binds md e = true → e.on ≠ i) → oi.apart ops oj = true) →
      i ∈ Region.ready md ops listed → S w → Stable P ops S oi v a →
      wpI P md ops Q S brk fuel (listed.setIfInBounds i true) (a.put oi.dst v) w → wpI P md ops Q S brk (fuel + 1) listed a w := by
  intro fuel
  induction fuel with
  | zero =>
    intro listed a w _ _ hr hS hy H
    refine ⟨fun h => (by rw [h] at hr; cases hr), fun j hj => ?_⟩
    by_cases hji : j = i
    · subst hji; exact hy.op hi hS ⟨fun _ => hS, H⟩
    · have := ready_mono hj hji
      rw [H.1] at this
      cases this
  | succ fuel ih =>
    intro listed a w hcl hfree hr hS hy H
    refine ⟨fun h => (by rw [h] at hr; cases hr), fun j hj => ?_⟩
    by_cases hji : j = i
    · subst hji; exact hy.op hi hS ⟨fun _ => hS, H⟩
    · have h1 := H.2 j (ready_mono hj hji)
      have hbj := brkB_spec hbrk hcl hr hst hj
      obtain ⟨hjun, oj, hoj, hall⟩ := mem_ready.1 hj
      have hnot : ∀ e ∈ oj.after, Region.binds md e = true → e.on ≠ i := fun e he hb heq => by
        have h1 := hall e he hb
        have h0 := (mem_ready.1 hr).1
        rw [heq] at h1
        rcases Nat.lt_or_ge i listed.size with h' | h'
        · simp [h'] at h0 h1; rw [h0] at h1; cases h1
        · simp [Array.getElem?_eq_none h'] at h1
      have h2 := op_swap hoj (hfree j oj hoj hji hjun hnot) (fun cs b => hsel i oi cs b hi) (fun cs b => hsel j oj cs b hoj) hQ hy h1
      have hfree' : ∀ k ok, ops[k]? = some ok → k ≠ i → (listed.setIfInBounds j true).getD k true = false →
          (∀ e ∈ ok.after, Region.binds md e = true → e.on ≠ i) → oi.apart ops ok = true := fun k ok hk hki hun hno => by
        refine hfree k ok hk hki ?_ hno
        by_cases hjk : j = k
        · subst hjk; exact hjun
        · rw [getD_set_ne true hjk] at hun; exact hun
      refine wpOp_mono (fun a' w' h3 => ⟨h3.2.1, ih (listed.setIfInBounds j true) a' w' (hcl.set hj) hfree' (ready_mono hr (Ne.symm hji)) (h3.2.1 hbj) h3.1 ?_⟩) h2
      rw [Array.setIfInBounds_comm _ _ hji]
      exact h3.2.2

/-- a plan: which operation next; at a fork two that write may come in either order -/
inductive Plan where
  | nil : Plan
  | cons (j : Nat) (rest : Plan) : Plan
  | fork (j k : Nat) (r1 r2 : Plan) : Plan
def Plan.of : List Nat → Plan
  | [] => .nil
  | j :: l => .cons j (Plan.of l)
def Plan.depth : Plan → Nat
  | .nil => 0
  | .cons _ r => r.depth + 1
  | .fork _ _ r _ => r.depth + 1
def Plan.any (st : Nat → Bool) : Plan → Bool
  | .nil => false
  | .cons j r => st j || r.any st
  | .fork j k r1 r2 => st j || st k || r1.any st || r2.any st

/-- one that writes, and what is to hold behind it -/
def effect (P : Program) (ops : Array Oper) (Q : Exit → Act → World → Prop) (S : World → Prop) (j : Nat) (must : Bool) (K : Act → World → Prop) (a : Act) (w : World) : Prop :=
  match ops[j]? with
  | none => False
  | some o => if Region.wanted o (yielded ops a.tmps) then o.wp P a w (fun a' w' => (must = true → S w') ∧ K a' w') Q ∨ (o.asks P a w ∧ LetsOut Q) else (must = true → S w) ∧ K (a.put o.dst undef) w

/-- st: is it stable; brk: need S not hold behind it -/
def wpPlan (P : Program) (ops : Array Oper) (Q : Exit → Act → World → Prop) (S : World → Prop) (st brk : Nat → Bool) : Plan → Act → World → Prop
  | .nil, a, w => Q .normal a w
  | .cons j rest, a, w =>
    match ops[j]? with
    | none => False
    | some o => if st j then ∃ v, Stable P ops S o v a ∧ wpPlan P ops Q S st brk rest (a.put o.dst v) w
      else effect P ops Q S j (!brk j || rest.any st) (wpPlan P ops Q S st brk rest) a w
  | .fork j k r1 r2, a, w => effect P ops Q S j (!brk j || r1.any st) (wpPlan P ops Q S st brk r1) a w ∧ effect P ops Q S k (!brk k || r2.any st) (wpPlan P ops Q S st brk r2) a w

/-- may the plan be taken: a stable operation is ready and apart from the others; another one is the only one that is ready, or they are the two -/
def planB (md : Region.Mode) (ops : Array Oper) (st brk : Nat → Bool) : Plan → Array Bool → Bool
  | .nil, listed => Region.ready md ops listed == []
  | .cons j rest, listed => (if st j then (Region.ready md ops listed).contains j && Region.free md ops listed j else Region.ready md ops listed == [j] && (!brk j || !rest.any st)) && planB md ops st brk rest (listed.setIfInBounds j true)
  | .fork j k r1 r2, listed => Region.ready md ops listed == [j, k] && (!brk j || !r1.any st) && (!brk k || !r2.any st) && r1.depth == r2.depth &&
      planB md ops st brk r1 (listed.setIfInBounds j true) && planB md ops st brk r2 (listed.setIfInBounds k true)

theorem effect_op {st brk : Nat → Bool} {j : Nat} {rest : Plan} {fuel : Nat} {listed : Array Bool} {a : Act} {w : World} (hrd : j ∈ Region.ready md ops listed) (hcl : Closed md ops listed)
    (ih : ∀ a w, (rest.any st = true → S w) → wpPlan P ops Q S st brk rest a w → wpI P md ops Q S brk fuel (listed.setIfInBounds j true) a w)
    (h : effect P ops Q S j (!brk j || rest.any st) (wpPlan P ops Q S st brk rest) a w) : wpOp P ops Q j (fun a' w' => (brk j = false → S w') ∧ wpI P md ops Q S brk fuel (listed.setIfInBounds j true) a' w') a w := by
  unfold effect at h
  unfold wpOp
  cases ho : ops[j]? with
  | none => simp only [ho] at h
  | some o =>
    simp only [ho] at h ⊢
    by_cases hw : Region.wanted o (yielded ops a.tmps) = true
    · rw [if_pos hw] at h ⊢
      exact h.imp (Oper.wp_mono (fun a' w' hk => ⟨fun hb => hk.1 (by simp [hb]), ih _ _ (fun hr => hk.1 (by simp [hr])) hk.2⟩)) id
    · rw [if_neg hw] at h ⊢
      exact ⟨fun hb => h.1 (by simp [hb]), ih _ _ (fun hr => h.1 (by simp [hr])) h.2⟩

theorem wpI_plan (hsel : Region.noSelect ops = true) (hQ : ∀ c a w d u, Q (.panic c) (Act.put a d u) w → Q (.panic c) a w) (st brk : Nat → Bool) (hbrk : brkB md ops st brk = true) :
    ∀ (l : Plan) (listed : Array Bool) (a : Act) (w : World), Closed md ops listed → planB md ops st brk l listed = true → (l.any st = true → S w) → wpPlan P ops Q S st brk l a w → wpI P md ops Q S brk l.depth listed a w := by
  intro l
  induction l with
  | nil => intro listed a w _ hp hS h; exact ⟨by simpa [planB] using hp, h⟩
  | cons j rest ih =>
    intro listed a w hcl hp hS h
    simp only [planB, Bool.and_eq_true] at hp
    obtain ⟨hp1, hp2⟩ := hp
    simp only [wpPlan] at h
    cases ho : ops[j]? with
    | none => simp only [ho] at h
    | some o =>
      simp only [ho] at h
      by_cases hst : st j = true
      · rw [if_pos hst] at h hp1
        simp only [Bool.and_eq_true] at hp1
        obtain ⟨v, hy, h⟩ := h
        have hrd : j ∈ Region.ready md ops listed := by simpa using hp1.1
        have hSw := hS (by simp [Plan.any, hst])
        exact wpI_first hbrk ho hst (Region.noSelect_spec hsel) hQ _ listed a w hcl (Region.free_spec ho hp1.2) hrd hSw hy (ih _ _ _ (hcl.set hrd) hp2 (fun _ => hSw) h)
      · rw [if_neg hst] at h hp1
        simp only [Bool.and_eq_true] at hp1
        have hr : Region.ready md ops listed = [j] := by simpa using hp1.1
        have hrd : j ∈ Region.ready md ops listed := by rw [hr]; simp
        refine ⟨fun h0 => (by rw [hr] at h0; cases h0), fun i hi => ?_⟩
        rw [hr] at hi
        obtain rfl : i = j := by simpa using hi
        exact effect_op hrd hcl (fun a w hs hk => ih _ a w (hcl.set hrd) hp2 hs hk) h
  | fork j k r1 r2 ih1 ih2 =>
    intro listed a w hcl hp hS h
    simp only [planB, Bool.and_eq_true] at hp
    obtain ⟨⟨⟨⟨⟨hp1, _⟩, _⟩, hd⟩, hq1⟩, hq2⟩ := hp
    have hr : Region.ready md ops listed = [j, k] := by simpa using hp1
    have hd : r1.depth = r2.depth := by simpa using hd
    have hj : j ∈ Region.ready md ops listed := by rw [hr]; simp
    have hk : k ∈ Region.ready md ops listed := by rw [hr]; simp
    refine ⟨fun h0 => (by rw [hr] at h0; cases h0), fun i hi => ?_⟩
    rw [hr] at hi
    rcases List.mem_cons.1 hi with rfl | hi
    · exact effect_op hj hcl (fun a w hs hk => ih1 _ a w (hcl.set hj) hq1 hs hk) h.1
    · obtain rfl := List.mem_singleton.1 hi
      refine effect_op hk hcl (fun a w hs hkk => ?_) h.2
      show wpI P md ops Q S brk r1.depth _ a w
      rw [hd]
      exact ih2 _ a w (hcl.set hk) hq2 hs hkk

/-- no panic -/
def Qn (Q : Exit → Act → World → Prop) : Exit → Act → World → Prop
  | .normal, a, w => Q .normal a w
  | .outgrown, a, w => Q .outgrown a w
  | _, _, _ => False
theorem Qn.of {Q : Exit → Act → World → Prop} : ∀ e a w, Qn Q e a w → Q e a w := fun e a w h => by cases e <;> first | exact h | exact h.elim
theorem LetsOut.weak {Q Q' : Exit → Act → World → Prop} (h : ∀ e a w, Q e a w → Q' e a w) : LetsOut Q → LetsOut Q' := fun ⟨a, w, hq⟩ => ⟨a, w, h _ _ _ hq⟩

theorem wpOp_weak {Q' : Exit → Act → World → Prop} (hq : ∀ e a w, Q e a w → Q' e a w) {i : Nat} {a : Act} {w : World} {K K' : Act → World → Prop} (hk : ∀ a w, K a w → K' a w) (h : wpOp P ops Q i K a w) : wpOp P ops Q' i K' a w := by
  unfold wpOp at *
  cases ho : ops[i]? with
  | none => simp only [ho] at h ⊢; exact hk _ _ h
  | some o =>
    simp only [ho] at h ⊢
    by_cases hw : Region.wanted o (yielded ops a.tmps) = true
    · rw [if_pos hw] at h ⊢
      refine h.imp (fun h2 => ?_) (fun h2 => ⟨h2.1, LetsOut.weak hq h2.2⟩)
      unfold Oper.wp at *
      generalize (execOp a.eval o).run P w = r at *
      cases r with
      | ok n w' =>
        cases n <;> simp only [Oper.upon] at h2 ⊢ <;>
          first
            | exact hk _ _ h2
            | exact Calls.mono h2 (fun e w'' he => by cases e <;> first | exact hk _ _ he | exact hq _ _ _ he | exact LetsOut.weak hq he)
            | exact Rows.mono h2 (fun _ _ he => hk _ _ he)
      | halt x w' => cases x <;> simp only [Oper.upon] at h2 ⊢ <;> exact hq _ _ _ h2
    · rw [if_neg hw] at h ⊢
      exact hk _ _ h

theorem wpAny_weak {Q' : Exit → Act → World → Prop} (hq : ∀ e a w, Q e a w → Q' e a w) : ∀ (fuel : Nat) (listed : Array Bool) (a : Act) (w : World), wpAny P md ops Q fuel listed a w → wpAny P md ops Q' fuel listed a w := by
  intro fuel
  induction fuel with
  | zero => intro listed a w h; exact ⟨h.1, hq _ _ _ h.2⟩
  | succ fuel ih => intro listed a w h; exact ⟨fun h0 => hq _ _ _ (h.1 h0), fun i hi => wpOp_weak hq (fun a' w' hk => ih _ _ _ hk) (h.2 i hi)⟩

theorem wp_region_plan {id : Nat} {a : Act} {w : World} (S : World → Prop) (st brk : Nat → Bool) (l : Plan) (hm : P.follows .mixedOrders = true) (hsel : Region.noSelect ops = true) (hlen : l.depth = ops.size)
    (hb : brkB .any ops st brk = true) (hp : planB .any ops st brk l (Array.replicate ops.size false) = true) (hS : S w.drew)
    (h : wpPlan P ops (Qn Q) S st brk l a w.drew) : (Code.region id ops true).wp P Q a w := by
  refine wp_region_any hm (wpAny_weak Qn.of _ _ _ _ (wpI_any (S := S) (brk := brk) _ _ _ _ ?_))
  rw [← hlen]
  exact wpI_plan hsel (fun _ _ _ _ _ h => h.elim) st brk hb l _ a w.drew (by rw [hlen]; exact Closed.none) (by rw [hlen]; exact hp) (fun _ => hS) h

/-- one stable step of a plan -/
theorem wpPlan_st {st brk : Nat → Bool} {j : Nat} {rest : Plan} {a a' : Act} {w : World} {o : Oper} {v : Value} (ho : ops[j]? = some o) (hst : st j = true) (hw : Region.wanted o (yielded ops a.tmps) = true)
    (hv : ∀ w', S w' → (execOp a.eval o).run P w' = .ok (.value v) w') (ha : a.put o.dst v = a') (h : wpPlan P ops Q S st brk rest a' w) : wpPlan P ops Q S st brk (.cons j rest) a w := by
  subst ha
  simp only [wpPlan, ho, hst, if_true]
  exact ⟨v, .inl ⟨hw, fun w' hS => .inl (hv w' hS)⟩, h⟩
/-- one stable step that is a call -/
theorem wpPlan_call {st brk : Nat → Bool} {j : Nat} {rest : Plan} {a a' : Act} {w : World} {o : Oper} {v : Value} (ho : ops[j]? = some o) (hst : st j = true) (hw : Region.wanted o (yielded ops a.tmps) = true) (f : FuncId) (args : Array Value)
    (hr : ∀ w', S w' → (execOp a.eval o).run P w' = .ok (.enter f args) w') (hc : ∀ w', S w' → Calls P f args w' (fun e w'' => e = .returned v ∧ w'' = w')) (ha : a.put o.dst v = a') (h : wpPlan P ops Q S st brk rest a' w) :
    wpPlan P ops Q S st brk (.cons j rest) a w := by
  subst ha
  simp only [wpPlan, ho, hst, if_true]
  exact ⟨v, .inl ⟨hw, fun w' hS => .inr ⟨f, args, hr w' hS, hc w' hS⟩⟩, h⟩
/-- one step of a plan that writes -/
theorem wpPlan_eff {st brk : Nat → Bool} {j : Nat} {rest : Plan} {a : Act} {w : World} {o : Oper} (ho : ops[j]? = some o) (hst : st j = false) (hw : Region.wanted o (yielded ops a.tmps) = true)
    (h : ∀ K : Act → World → Prop, (∀ a' w', ((!brk j || rest.any st) = true → S w') → wpPlan P ops Q S st brk rest a' w' → K a' w') → o.wp P a w K Q ∨ (o.asks P a w ∧ LetsOut Q)) : wpPlan P ops Q S st brk (.cons j rest) a w := by
  simp only [wpPlan, ho, hst, Bool.false_eq_true, if_false, effect]
  rw [if_pos hw]
  exact h _ fun a' w' hS hk => ⟨hS, hk⟩
/-- one stable step, shown as a step of a still region -/
theorem wpPlan_val {st brk : Nat → Bool} {j : Nat} {rest : Plan} {a : Act} {w : World} {o : Oper} (v : Value) (ho : ops[j]? = some o) (hst : st j = true) (hw : Region.wanted o (yielded ops a.tmps) = true)
    (hv : ∀ w', S w' → (execOp a.eval o).run P w' = .ok (.value v) w') (h : ∀ K : Act → Prop, (∀ a', wpPlan P ops Q S st brk rest a' w → K a') → K (a.put o.dst v)) : wpPlan P ops Q S st brk (.cons j rest) a w :=
  wpPlan_st ho hst hw hv rfl (h _ fun _ h => h)
theorem effect_list {j : Nat} {must : Bool} {K0 : Act → World → Prop} {a : Act} {w : World} {o : Oper} (ho : ops[j]? = some o) (hw : Region.wanted o (yielded ops a.tmps) = true)
    (h : ∀ K : Act → World → Prop, (∀ a' w', (must = true → S w') → K0 a' w' → K a' w') →
      wpList P ops (fun e a' w' => match e with | .normal => K a' w' | e => Q e a' w') [o] a w) : effect P ops Q S j must K0 a w := by
  simp only [effect, ho]
  rw [if_pos hw]
  have h1 := h (fun a' w' => (must = true → S w') ∧ K0 a' w') (fun a' w' hs hk => ⟨hs, hk⟩)
  simp only [wpList] at h1
  rw [if_pos hw] at h1
  refine h1.imp (fun h2 => ?_) (fun h2 => ⟨h2.1, ?_⟩)
  · unfold Oper.wp at *
    generalize (execOp a.eval o).run P w = r at *
    cases r with
    | ok n w' =>
      cases n <;> simp only [Oper.upon] at h2 ⊢ <;>
        first
          | exact h2
          | exact Calls.mono h2 (fun e w'' he => by cases e <;> first | exact he | exact (by obtain ⟨a1, w1, h3⟩ := he; exact ⟨a1, w1, h3⟩))
          | exact Rows.mono h2 (fun _ _ he => he)
    | halt x w' => cases x <;> simp only [Oper.upon] at h2 ⊢ <;> exact h2
  · obtain ⟨a1, w1, h3⟩ := h2.2
    exact ⟨a1, w1, h3⟩
/-- one step that writes, by the laws of a list -/
theorem wpPlan_list {st brk : Nat → Bool} {j : Nat} {rest : Plan} {a : Act} {w : World} {o : Oper} (ho : ops[j]? = some o) (hst : st j = false) (hw : Region.wanted o (yielded ops a.tmps) = true)
    (h : ∀ K : Act → World → Prop, (∀ a' w', ((!brk j || rest.any st) = true → S w') → wpPlan P ops Q S st brk rest a' w' → K a' w') →
      wpList P ops (fun e a' w' => match e with | .normal => K a' w' | e => Q e a' w') [o] a w) : wpPlan P ops Q S st brk (.cons j rest) a w := by
  simp only [wpPlan, ho, hst, Bool.false_eq_true, if_false]
  exact effect_list ho hw h
/-- one that is not wanted -/
theorem wpPlan_off {st brk : Nat → Bool} {j : Nat} {rest : Plan} {a : Act} {w : World} {o : Oper} (ho : ops[j]? = some o) (hst : st j = true) (hw : Region.wanted o (yielded ops a.tmps) = false)
    (h : ∀ K : Act → Prop, (∀ a', wpPlan P ops Q S st brk rest a' w → K a') → K (a.put o.dst undef)) : wpPlan P ops Q S st brk (.cons j rest) a w := by
  simp only [wpPlan, ho, hst, if_true]
  exact ⟨undef, .inr ⟨hw, rfl⟩, h _ fun _ h => h⟩
/-- one that is wanted is one without a guard -/
theorem wpList_wanted {o : Oper} {rest : List Oper} {a : Act} {w : World} (hw : Region.wanted o (yielded ops a.tmps) = true) (h : wpList P ops Q ({ o with guard := none } :: rest) a w) : wpList P ops Q (o :: rest) a w := by
  unfold wpList at *
  rw [if_pos hw]
  rw [if_pos (by simp [Region.wanted])] at h
  exact h
theorem exec_bytes_str {w : World} {a : Act} {o : Oper} (src dst : TypeId) (x : Operand) (ho : o.op = .convert src dst x) (e : TypeId) (hs : P.underlying src = some (.slice e)) (he : P.underlying e = some (.int .u8)) (hd : P.underlying dst = some .string)
    (v : Value) (l : List UInt8) (hx : a.eval x = v) (hrd : Bs w v l) : (execOp a.eval o).run P w = .ok (.value (.string ⟨l.toArray⟩)) w := by
  have hr := run_bytes_str (P := P) w src dst e v l hs he hd hrd
  unfold execOp
  simp only [ho, hx, hr, Sem.run_bind, Sem.run_pure, Result.andThen_ok]
theorem exec_slice_to {w : World} {a : Act} {o : Oper} (t : TypeId) (x h : Operand) (ho : o.op = .slice t x none (some h) none) (e : TypeId) (size : Nat) (ht : P.underlying t = some (.slice e)) (hsz : (P.info? e).map (·.size) = some size)
    (p : Option Addr) (n cap hi : Nat) (k : IntKind) (hp : p = none → cap = 0) (hx : a.eval x = .slice p n cap) (hh : a.eval h = .int k (hi : Int)) (h2 : hi ≤ cap) : (execOp a.eval o).run P w = .ok (.value (.slice p hi cap)) w := by
  have hr := run_slice_rd (P := P) w t e size ht hsz p n cap 0 hi hp (Nat.zero_le _) h2 none (some (a.eval h)) (.inl ⟨rfl, rfl⟩) (.inr ⟨k, by rw [hh]⟩)
  have hv : Value.slice (if cap = 0 then p else p.map (·.add (0 * size))) (hi - 0) (cap - 0) = .slice p hi cap := by
    have : (if cap = 0 then p else p.map (·.add (0 * size))) = p := by
      split
      · rfl
      · cases p with
        | none => rfl
        | some b => simp [Addr.add]
    rw [this]; rfl
  rw [hv] at hr
  unfold execOp
  simp only [ho, hx, Option.map_none, Option.map_some, hr, Sem.run_bind, Sem.run_pure, Result.andThen_ok]
theorem wpPlan_nil {st brk : Nat → Bool} {a : Act} {w : World} (h : Q .normal a w) : wpPlan P ops Q S st brk .nil a w := h
end
end Go.Proofs.Ytdilkgcoecipjaa
