/- Solutions as pure data; how they lie in memory. -/
import Derived.Test.YtkhdadbbgfjcgaaSolB
import Derived.DeepKeys
namespace Go.Proofs.Ytkhdadbbgfjcgaa
open Go.RowKit Go.Maps
set_option linter.unusedVariables false

abbrev T4 := Int × List UInt8 × List UInt8 × List UInt8
abbrev Pr := List UInt8 × T4
abbrev Sl := List Pr

/-! texts in order -/
abbrev ltB (a b : List UInt8) : Bool := Op.bytesLess a b
theorem ltB_nil (a : List UInt8) : ltB a [] = false := by cases a <;> rfl
theorem ltB_irr : ∀ a : List UInt8, ltB a a = false
  | [] => rfl
  | x :: a => by
    have h := ltB_irr a
    simp [ltB, Op.bytesLess] at h ⊢
    exact h
theorem ltB_trans : ∀ {a b c : List UInt8}, ltB a b = true → ltB b c = true → ltB a c = true
  | a, b, [], _, h2 => by rw [ltB_nil] at h2; cases h2
  | a, [], c :: zs, h1, _ => by rw [ltB_nil] at h1; cases h1
  | [], b :: ys, c :: zs, _, _ => rfl
  | a :: xs, b :: ys, c :: zs, h1, h2 => by
    simp only [ltB, Op.bytesLess, Bool.or_eq_true, Bool.and_eq_true, decide_eq_true_eq, beq_iff_eq] at h1 h2 ⊢
    rcases h1 with h1 | ⟨rfl, h1⟩ <;> rcases h2 with h2 | ⟨rfl, h2⟩
    · exact .inl (UInt8.lt_trans h1 h2)
    · exact .inl h1
    · exact .inl h2
    · exact .inr ⟨rfl, ltB_trans h1 h2⟩
theorem ltB_tri : ∀ {a b : List UInt8}, ltB a b = false → ltB b a = false → a = b
  | [], [], _, _ => rfl
  | [], _ :: _, h, _ => by cases h
  | _ :: _, [], _, h => by cases h
  | a :: xs, b :: ys, h1, h2 => by
    simp only [ltB, Op.bytesLess, Bool.or_eq_false_iff, Bool.and_eq_false_iff, decide_eq_false_iff_not, beq_eq_false_iff_ne] at h1 h2
    have hab : a = b := by
      have e1 := h1.1
      have e2 := h2.1
      exact UInt8.le_antisymm (by simpa using e2) (by simpa using e1)
    subst hab
    have r1 : ltB xs ys = false := by rcases h1.2 with h | h; exact absurd rfl h; exact h
    have r2 : ltB ys xs = false := by rcases h2.2 with h | h; exact absurd rfl h; exact h
    rw [ltB_tri r1 r2]
theorem ltB_asym {a b : List UInt8} (h : ltB a b = true) : ltB b a = false := by
  cases hb : ltB b a with
  | false => rfl
  | true => have := ltB_trans h hb; rw [ltB_irr] at this; cases this
/-- not behind, then before: as with ≤ -/
theorem ltB_le_trans {a b c : List UInt8} (h1 : ltB b a = false) (h2 : ltB c b = false) : ltB c a = false := by
  cases h : ltB c a with
  | false => rfl
  | true =>
    cases hab : ltB a b with
    | true => rw [ltB_trans h hab] at h2; cases h2
    | false => have := ltB_tri hab h1; subst this; rw [h] at h2; cases h2
theorem cmp_lt : ∀ (a b : List UInt8), (Lib.compareBytes a b < 0) ↔ ltB a b = true
  | [], [] => by simp [Lib.compareBytes, ltB, Op.bytesLess]
  | [], _ :: _ => by simp [Lib.compareBytes, ltB, Op.bytesLess]
  | _ :: _, [] => by simp [Lib.compareBytes, ltB, Op.bytesLess]
  | a :: xs, b :: ys => by
    have ih := cmp_lt xs ys
    simp only [Lib.compareBytes, ltB, Op.bytesLess, Bool.or_eq_true, Bool.and_eq_true, decide_eq_true_eq, beq_iff_eq] at ih ⊢
    by_cases h1 : a < b
    · simp [h1]
    · by_cases h2 : b < a
      · have : a ≠ b := fun e => by subst e; exact h1 h2
        simp [h1, h2, this]
      · have : a = b := UInt8.le_antisymm (by simpa using h2) (by simpa using h1)
        subst this
        simp [h1, ih]
theorem cmp_eq : ∀ (a b : List UInt8), (Lib.compareBytes a b = 0) ↔ a = b
  | [], [] => by simp [Lib.compareBytes]
  | [], _ :: _ => by simp [Lib.compareBytes]
  | _ :: _, [] => by simp [Lib.compareBytes]
  | a :: xs, b :: ys => by
    have ih := cmp_eq xs ys
    simp only [Lib.compareBytes]
    by_cases h1 : a < b
    · have : a ≠ b := fun e => by subst e; exact UInt8.lt_irrefl _ h1
      simp [h1, this]
    · by_cases h2 : b < a
      · have : a ≠ b := fun e => by subst e; exact h1 h2
        simp [h1, h2, this]
      · have : a = b := UInt8.le_antisymm (by simpa using h2) (by simpa using h1)
        subst this
        simp [h1, ih]

/-! as cells -/
def tc (t : T4) : List Value := [.int .i64 t.1, .string (B t.2.1), .string (B t.2.2.1), .string (B t.2.2.2)]
def pc (p : Pr) : List Value := [.string (B p.1), .int .i64 p.2.1, .string (B p.2.2.1), .string (B p.2.2.2.1), .string (B p.2.2.2.2)]
def pcs (s : Sl) : List Value := s.flatMap pc
abbrev tv (t : T4) : Value := .agg (tc t).toArray
abbrev pv (p : Pr) : Value := .agg (pc p).toArray
theorem pc_length (p : Pr) : (pc p).length = 5 := rfl
theorem tc_length (t : T4) : (tc t).length = 4 := rfl
theorem pcs_nil : pcs [] = [] := rfl
theorem pcs_cons (p : Pr) (s : Sl) : pcs (p :: s) = pc p ++ pcs s := rfl
theorem pcs_append (a b : Sl) : pcs (a ++ b) = pcs a ++ pcs b := by simp [pcs]
theorem pcs_length : ∀ s : Sl, (pcs s).length = s.length * 5
  | [] => rfl
  | p :: s => by rw [pcs_cons, List.length_append, pcs_length s, pc_length]; simp; omega
theorem pcs_drop : ∀ (s : Sl) (k : Nat), (pcs s).drop (k * 5) = pcs (s.drop k)
  | s, 0 => by simp
  | [], k + 1 => by simp [pcs]
  | p :: s, k + 1 => by
    rw [pcs_cons, show (k + 1) * 5 = (pc p).length + k * 5 by rw [pc_length]; omega, List.drop_append]
    simp [pcs_drop s k]
theorem pcs_take : ∀ (s : Sl) (k : Nat), (pcs s).take (k * 5) = pcs (s.take k)
  | s, 0 => by simp [pcs]
  | [], k + 1 => by simp [pcs]
  | p :: s, k + 1 => by
    rw [pcs_cons, show (k + 1) * 5 = (pc p).length + k * 5 by rw [pc_length]; omega, List.take_append]
    simp [pcs_take s k, pcs_cons]
    exact List.take_of_length_le (by rw [pc_length]; omega)
theorem pcs_get {s : Sl} {i : Nat} (hi : i < s.length) (j : Nat) (hj : j < 5) : (pcs s)[i * 5 + j]? = (pc s[i])[j]? := by
  have h : ((pcs s).drop (i * 5))[j]? = (pcs s)[i * 5 + j]? := by rw [List.getElem?_drop]
  rw [← h, pcs_drop, List.drop_eq_getElem_cons hi, pcs_cons, List.getElem?_append_left (by rw [pc_length]; exact hj)]
theorem pc_one (p : Pr) : ∀ u ∈ pc p, u.oneCell' = true := by
  intro u hu
  simp only [pc, List.mem_cons, List.not_mem_nil, or_false] at hu
  rcases hu with rfl | rfl | rfl | rfl | rfl <;> rfl
theorem tc_one (t : T4) : ∀ u ∈ tc t, u.oneCell' = true := by
  intro u hu
  simp only [tc, List.mem_cons, List.not_mem_nil, or_false] at hu
  rcases hu with rfl | rfl | rfl | rfl <;> rfl
theorem pcs_one (s : Sl) : ∀ u ∈ pcs s, u.oneCell' = true := by
  intro u hu
  obtain ⟨p, _, h⟩ := List.mem_flatMap.1 hu
  exact pc_one p u h

/-! in memory -/
abbrev TP : TypeId := 38
abbrev TT : TypeId := 36
abbrev TL : TypeId := 27
theorem infoP : (Try.prog.info? TP).map (fun i => (i.zero, i.size, i.bytes)) = some (some (.agg #[.string ⟨#[]⟩, .int .i64 0, .string ⟨#[]⟩, .string ⟨#[]⟩, .string ⟨#[]⟩]), 5, 72) := by kernel_rfl
theorem infoL : (Try.prog.info? TL).map (fun i => (i.zero, i.size, i.bytes)) = some (some (.slice none 0 0), 1, 24) := by kernel_rfl

/-- blocks of pairs are kept -/
def Kp (w w' : World) : Prop := ∀ (k : Nat) (cs : Array Value) (f : Nat × Nat), w.heap[k]? = some (Obj.cells cs TP f) → w'.heap[k]? = w.heap[k]?
theorem Kp.refl (w : World) : Kp w w := fun _ _ _ _ => rfl
theorem Kp.trans {a b c : World} (h : Kp a b) (k : Kp b c) : Kp a c := fun i cs f hi => by
  have h1 := h i cs f hi
  rw [← h1]; exact k i cs f (h1.trans hi)
theorem Kp.new {w w' : World} (h : Below w.heap.size w w') : Kp w w' := fun k cs f hk => (Chg.new h NoFp).block k (Array.getElem?_eq_some_iff.1 hk).1 (fun h => h)
theorem Kp.chg {w w' : World} {fp : Nat → Prop} (h : Chg fp w w') (hf : ∀ k, fp k → ∃ cs T f, w.heap[k]? = some (Obj.cells cs T f) ∧ T ≠ TP) : Kp w w' := fun k cs f hk => by
  refine h.block k (Array.getElem?_eq_some_iff.1 hk).1 fun hp => ?_
  obtain ⟨cs', T, f', h1, h2⟩ := hf k hp
  rw [hk] at h1
  injection h1 with h1
  injection h1 with _ h1 _
  exact h2 h1.symm

def SolAt (w : World) (v : Value) (s : Sl) : Prop :=
  Rd w 5 v s.length (pcs s) ∧ (0 < s.length → ∀ g, v.ownBlock = some g → ∃ cs f, w.heap[g]? = some (Obj.cells cs TP f))
theorem SolAt.nil (w : World) : SolAt w (.slice none 0 0) [] := ⟨Rd.nil w 5, fun h => by cases h⟩
theorem SolAt.kp {w w' : World} {v : Value} {s : Sl} (h : SolAt w v s) (k : Kp w w') : SolAt w' v s := by
  obtain ⟨⟨hl, p, cap, rfl, h1, h2, h3, h4⟩, h5⟩ := h
  refine ⟨⟨hl, p, cap, rfl, h1, h2, h3, fun a ha j u hu => ⟨(h4 a ha j u hu).1, ?_⟩⟩, fun h0 g hg => ?_⟩
  · subst ha
    have hn : 0 < s.length := by
      cases s with
      | nil => simp [pcs] at hu
      | cons _ _ => simp
    obtain ⟨cs, f, hk⟩ := h5 hn a.block rfl
    exact (World.cell?_of_block (w := w) (a := ⟨a.block, a.off + j, none⟩) (k _ _ _ hk)).trans (h4 a rfl j u hu).2
  · obtain ⟨cs, f, hk⟩ := h5 h0 g hg
    exact ⟨cs, f, (k _ _ _ hk).trans hk⟩
theorem SolAt.new {w w' : World} {v : Value} {s : Sl} (h : SolAt w v s) (k : Below w.heap.size w w') : SolAt w' v s := h.kp (Kp.new k)
theorem SolAt.of_own {w : World} {B0 : Nat} {v : Value} {s : Sl} (h : w.ownsRow B0 TP 5 v s.length (pcs s)) : SolAt w v s := by
  refine ⟨Rd.of_own h, fun h0 g hg => ?_⟩
  rcases h.2 with ⟨rfl, hz⟩ | ⟨g', cap, cur, rfl, _, hg', _⟩
  · cases hg
  · cases hg; exact ⟨_, _, hg'⟩
theorem SolAt.shape {w : World} {v : Value} {s : Sl} (h : SolAt w v s) : ∃ p c, v = .slice p s.length c := by
  obtain ⟨⟨_, p, cap, rfl, _⟩, _⟩ := h
  exact ⟨p, cap, rfl⟩
/-- a place's cells -/
theorem SolAt.cells {w : World} {p : Option Addr} {n c : Nat} {s : Sl} (h : SolAt w (.slice p n c) s) (hn : 0 < s.length) :
    ∃ b off, p = some ⟨b, off, none⟩ ∧ ∀ i (hi : i < s.length) j u, (pc s[i])[j]? = some u → w.cell? ⟨b, off + i * 5 + j, none⟩ = some u := by
  have h1 := h.1
  obtain ⟨_, q, c', he, _⟩ := h.1
  cases he
  obtain ⟨b, off, rfl, hc⟩ := Rd.addr h1 hn
  refine ⟨b, off, rfl, fun i hi j u hu => ?_⟩
  have hj : j < 5 := by
    have := (List.getElem?_eq_some_iff.1 hu).1
    rwa [pc_length] at this
  have := hc (i * 5 + j) u (by rw [pcs_get hi j hj]; exact hu)
  rwa [← Nat.add_assoc] at this

section
variable {P : Program}
/-- a load of an aggregate whose cells are known -/
theorem run_load_cells (w : World) (ty : TypeId) (d : TypeDesc) (hu : P.underlying ty = some d) (hd : (match d with | .struct _ | .array _ _ => true | _ => false) = true) (xs : List Value) (hi : (P.info? ty).map (·.size) = some xs.length)
    (g off : Nat) (hc : ∀ j u, xs[j]? = some u → w.cell? ⟨g, off + j, none⟩ = some u) :
    (Instr.loadAt ty (.pointer (some ⟨g, off, none⟩))).run P w = .ok (.agg xs.toArray) w := by
  obtain ⟨i, hi', hl'⟩ := Option.map_eq_some_iff.1 hi
  have hl := run_loadCells_list (P := P) w ⟨g, off, none⟩ xs (fun j v hv => by
    have hadd : (⟨g, off, none⟩ : Addr).add j = ⟨g, off + j, none⟩ := by unfold Addr.add; split <;> simp_all
    rw [hadd]; exact hc j v hv)
  have hagg : (isAgg ty).run P w = .ok true w := by
    unfold isAgg
    rw [Sem.run_bind, run_underlying hu w]
    cases d <;> simp_all
  simp only [Instr.loadAt, Instr.sureAddr, Sem.run_bind, Sem.run_pure, Result.andThen_ok]
  simp [loadVar, Sem.run_bind, hagg, sizeOf, typeInfo, hi', hl', hl]
end
theorem run_load_pair (w : World) (g off : Nat) (p : Pr) (hc : ∀ j u, (pc p)[j]? = some u → w.cell? ⟨g, off + j, none⟩ = some u) :
    (Instr.loadAt TP (.pointer (some ⟨g, off, none⟩))).run Try.prog w = .ok (pv p) w :=
  run_load_cells w TP _ Try.underlying38 rfl (pc p) (by kernel_rfl) g off hc
theorem run_load_term (w : World) (g off : Nat) (t : T4) (hc : ∀ j u, (tc t)[j]? = some u → w.cell? ⟨g, off + j, none⟩ = some u) :
    (Instr.loadAt TT (.pointer (some ⟨g, off, none⟩))).run Try.prog w = .ok (tv t) w :=
  run_load_cells w TT _ Try.underlying36 rfl (tc t) (by kernel_rfl) g off hc
theorem tc_of_pc (p : Pr) (j : Nat) : (tc p.2)[j]? = (pc p)[1 + j]? := by
  rw [Nat.add_comm]; rfl

/-! one term and another -/
structure OkT (t : T4) : Prop where
  k0 : 0 ≤ t.1
  k1 : t.1 ≤ 100
  s : t.2.1.length ≤ 100
  l : t.2.2.1.length ≤ 100
  y : t.2.2.2.length ≤ 100
def tLits (t : T4) : List Lit := [.int .i64 t.1, .string t.2.1, .string t.2.2.1, .string t.2.2.2]
theorem tLits_inj {a b : T4} : tLits a = tLits b ↔ a = b := by
  obtain ⟨a1, a2, a3, a4⟩ := a
  obtain ⟨b1, b2, b3, b4⟩ := b
  simp [tLits]
theorem str_lit (l : List UInt8) (h : l.length ≤ 100) : Try.prog.keyLits 2 9 [.string (B l)] = some [.string l] := by
  unfold Program.keyLits
  simp only [Try.underlying9]
  rw [if_pos (by rw [B_size]; simp only [maxLen]; omega), B_data]
theorem int_lit {x : Int} (h0 : 0 ≤ x) (h1 : x ≤ 100) : Try.prog.keyLits 2 3 [.int .i64 x] = some [.int .i64 x] := by
  unfold Program.keyLits
  simp only [Try.underlying3]
  rw [if_pos]
  refine ⟨trivial, ?_⟩
  simp only [Lit.wf, IntKind.min, IntKind.max, IntKind.signed, IntKind.bits]
  simp
  omega
theorem cellsInt : Try.prog.cellsOf 3 = 1 := by kernel_rfl
theorem cellsStr : Try.prog.cellsOf 9 = 1 := by kernel_rfl
theorem cellsT : Try.prog.cellsOf TT = 4 := by kernel_rfl
theorem t_lits {t : T4} (ok : OkT t) : Try.prog.keyLits 3 TT (tc t) = some (tLits t) := by
  unfold Program.keyLits
  simp only [Try.underlying36]
  rw [cellsT, if_pos ⟨rfl, by kernel_rfl⟩]
  have e1 : ((tc t).drop 0).take 1 = [.int .i64 t.1] := rfl
  have e2 : ((tc t).drop 1).take 1 = [.string (B t.2.1)] := rfl
  have e3 : ((tc t).drop 2).take 1 = [.string (B t.2.2.1)] := rfl
  have e4 : ((tc t).drop 3).take 1 = [.string (B t.2.2.2)] := rfl
  simp only [List.mapM_cons, List.mapM_nil, cellsInt, cellsStr, e1, e2, e3, e4, int_lit ok.k0 ok.k1, str_lit _ ok.s, str_lit _ ok.l, str_lit _ ok.y]
  simp [tLits]
theorem t_formed (t : T4) : (tv t).formed Try.prog TT = true := by
  unfold Value.formed
  rw [Try.underlying36]
  simp only [List.size_toArray, tc_length, cellsT]
  rfl
theorem tKey : Try.prog.keyTypeAt 3 TT = true := by kernel_rfl
theorem t_equal {a b : T4} (oa : OkT a) (ob : OkT b) (w : World) : (Op.equal TT (tv a) (tv b)).run Try.prog w = .ok (a == b) w := by
  obtain ⟨r, hr, hiff⟩ := run_equalIn_deep (P := Try.prog) 9997 3 TT tKey w 3 3 (tv a) (tv b) (tLits a) (tLits b) (t_formed a) (t_formed b) (t_lits oa) (t_lits ob)
  have e : r = (a == b) := by
    rw [Bool.eq_iff_iff, hiff, tLits_inj, beq_iff_eq]
  rw [← e]
  exact hr
theorem tGuard : Try.prog.eqGuardType Try.prog.depth TT = false := by kernel_rfl
theorem t_guard (op : BinOp) (hop : op = .neq ∨ op = .eql) (x y : Operand) (a b : Array Value) (w : World) : (eqGuard op TT x y (.agg a) (.agg b)).run Try.prog w = .ok () w := by
  unfold eqGuard
  rcases hop with rfl | rfl <;> simp only [Bool.not_true, Bool.false_eq_true, if_false, Sem.run_bind, Sem.run_pure, Result.andThen_ok, run_program, tGuard, Bool.not_false, if_true]
theorem run_t_neq {w : World} {a b : T4} (oa : OkT a) (ob : OkT b) : (binOp .neq TT (tv a) (tv b)).run Try.prog w = .ok (.bool (!(a == b))) w := by
  simp only [binOp, Sem.run_bind, t_equal oa ob, Result.andThen_ok, Sem.run_pure]
theorem run_t_eql {w : World} {a b : T4} (oa : OkT a) (ob : OkT b) : (binOp .eql TT (tv a) (tv b)).run Try.prog w = .ok (.bool (a == b)) w := by
  simp only [binOp, Sem.run_bind, t_equal oa ob, Result.andThen_ok, Sem.run_pure]
end Go.Proofs.Ytkhdadbbgfjcgaa
