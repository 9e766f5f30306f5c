/- Pad -/
import Derived.Test.YtdilkgcoecipjaaRecs
namespace Go.Proofs.Ytdilkgcoecipjaa
open Go.RowKit
set_option linter.unusedVariables false

theorem pad_pad504 {l : List UInt8} (h : l.length ≤ 504) : pad (pad504 l) = pad l := by
  unfold pad pad504
  rw [List.append_assoc, List.replicate_append_replicate, List.length_append, List.length_replicate]
  congr 2
  omega
theorem pad_pre504 {a l : List UInt8} (ha : a.length = 8) (h : l.length ≤ 504) : pad (a ++ pad504 l) = pad (a ++ l) := by
  unfold pad pad504
  rw [← List.append_assoc, List.append_assoc (a ++ l), List.replicate_append_replicate]
  simp only [List.length_append, List.length_replicate]
  congr 2
  omega
theorem dWrite_ext {n : Nat} {s : DS} {at_ : Int} {l l' : List UInt8} (h : l.length ≤ 512) (h' : l'.length ≤ 512) (hp : pad l = pad l') : dWrite n s at_ l = dWrite n s at_ l' := by
  unfold dWrite dWritten
  rw [hp]
  have e : (¬ (0 ≤ at_ ∧ at_ < (n : Int)) ∨ 512 < l.length) = (¬ (0 ≤ at_ ∧ at_ < (n : Int)) ∨ 512 < l'.length) := by
    apply propext
    constructor
    · rintro (h1 | h1)
      · exact .inl h1
      · omega
    · rintro (h1 | h1)
      · exact .inl h1
      · omega
  simp only [e]
theorem dWrite_504 {n : Nat} {s : DS} {at_ : Int} {l : List UInt8} (h : l.length ≤ 504) : dWrite n s at_ (pad504 l) = dWrite n s at_ l :=
  dWrite_ext (by simp [pad504]; omega) (by omega) (pad_pad504 h)
theorem dWrite_pre {n : Nat} {s : DS} {at_ : Int} {a l : List UInt8} (ha : a.length = 8) (h : l.length ≤ 504) : dWrite n s at_ (a ++ pad504 l) = dWrite n s at_ (a ++ l) :=
  dWrite_ext (by simp [pad504, ha]; omega) (by simp [ha]; omega) (pad_pre504 ha h)

theorem homeSteps_get {ls : List (Int × List UInt8)} {j : Nat} {q : Int × List UInt8} (h : ls[j]? = some q) : (finSteps ls)[j]? = some (.write q.1 q.2) := by
  have hlt := (List.getElem?_eq_some_iff.1 h).1
  unfold finSteps homeSteps
  rw [List.getElem?_append_left (by simp; omega), List.getElem?_map, h]
  rfl
theorem finSteps_length (ls : List (Int × List UInt8)) : (finSteps ls).length = ls.length + 3 := by simp [finSteps, homeSteps]
theorem finSteps_end (ls : List (Int × List UInt8)) : (finSteps ls)[ls.length]? = some .sync ∧ (finSteps ls)[ls.length + 1]? = some (.write 0 []) ∧ (finSteps ls)[ls.length + 2]? = some .sync := by
  have hl : (homeSteps ls).length = ls.length := by simp [homeSteps]
  unfold finSteps
  refine ⟨?_, ?_, ?_⟩ <;> rw [List.getElem?_append_right (by omega), hl]
  · rw [Nat.sub_self]; rfl
  · rw [Nat.add_sub_cancel_left]; rfl
  · rw [Nat.add_sub_cancel_left]; rfl

section
variable {P : Program}

theorem run_append_full (w : World) (t ty e : TypeId) (z : Value) (size bytes : Nat) (ht : P.underlying t = some (.slice e))
    (hinf : (P.info? e).map (fun i => (i.zero, i.size, i.bytes)) = some (some z, size, bytes)) (hzs : z.cells.size = size) (hsz : 0 < size)
    (b : Addr) (n : Nat) (xs : List Value) (hv : Rd w size (.slice (some b) n n) n xs)
    (x : Value) (m : Nat) (news : List Value) (hrd : Rd w size x m news) (hm : 0 < m)
    (h63 : n + m ≤ maxLen) (hbytes : (n + m) * bytes ≤ 140737488355328) :
    ∃ v' w', (Builtin.append_ #[t, t] ty #[.slice (some b) n n, x]).run P w = .ok v' w' ∧ w'.ownsRow w.heap.size e size v' (n + m) (xs ++ news) ∧ Below w.heap.size w w' := by
  obtain ⟨i, hi, hz, rfl, rfl⟩ := info_parts hinf
  obtain ⟨hl, p, cap, rfl, hmc, hcm, hp0, hp⟩ := hrd
  obtain ⟨hlv, p', cap', he, _, _, _, hpv⟩ := hv
  cases he
  have hsmall : n + m ≤ 9223372036854775807 := by simp only [maxLen] at h63; omega
  cases p with
  | none =>
    have := hp0 rfl
    omega
  | some a =>
    have hnews : ∀ j u, news[j]? = some u → w.cell? (a.add j) = some u := fun j u hu => by
      rw [Addr.add_off a (hp a rfl j u hu).1]; exact (hp a rfl j u hu).2
    have holds : ∀ j u, xs[j]? = some u → w.cell? (b.add j) = some u := fun j u hu => by
      rw [Addr.add_off b (hpv b rfl j u hu).1]; exact (hpv b rfl j u hu).2
    have hlen : (xs ++ news).length = (n + m) * i.size := by rw [List.length_append, hlv, hl, Nat.add_mul]
    have hr := run_append_grow (P := P) w t ty e i z ht hi hz b n n xs hlv holds a m cap news hl hnews (by omega) (by omega) (growslice_fits (by omega) hbytes)
    have hge := grownCap_ge w (n + m) n e
    have hcm' : grownCap w (n + m) n e ≤ maxLen := grownCap_le_maxLen w (n + m) n e h63
    refine ⟨_, _, hr, ⟨hlen, .inr ⟨w.heap.size, _, _, rfl, Nat.le_refl _, heap_alloc_new w.drew _, hge, hcm', ?_, ?_⟩⟩, (below_drewN (Below.refl _ _) 1).alloc (by simp) _⟩
    · simp only [Array.size_append, List.size_toArray, size_zeroCells, hzs, hlv, hl, ← Nat.add_mul]
      congr 1
      omega
    · simp only [Array.toList_append, List.append_assoc]
      rw [← List.append_assoc, ← hlen]
      exact List.take_left

theorem wpList_append_full {w : World} {ops : Array Oper} {rest : List Oper} {o : Oper} {a : Act} {Q : Exit → Act → World → Prop} (hgd : o.guard = none) (s x : Operand) (t : TypeId)
    (ho : o.op = .call { callee := .builtin .append, args := #[s, x], argTypes := #[t, t] })
    (e : TypeId) (z : Value) (size bytes : Nat) (ht : P.underlying t = some (.slice e))
    (hinf : (P.info? e).map (fun i => (i.zero, i.size, i.bytes)) = some (some z, size, bytes)) (hzs : z.cells.size = size) (hsz : 0 < size)
    (b : Addr) (n : Nat) (xs : List Value) (hs : a.eval s = .slice (some b) n n) (hv : Rd w size (.slice (some b) n n) n xs)
    (xv : Value) (m : Nat) (news : List Value) (hx : a.eval x = xv) (hrd : Rd w size xv m news) (hm : 0 < m)
    (h63 : n + m ≤ maxLen) (hbytes : (n + m) * bytes ≤ 140737488355328)
    (h : ∀ (p' : Option Addr) (c' : Nat) w', w'.ownsRow w.heap.size e size (.slice p' (n + m) c') (n + m) (xs ++ news) → Below w.heap.size w w' → wpList P ops Q rest (a.put o.dst (.slice p' (n + m) c')) w') :
    wpList P ops Q (o :: rest) a w := by
  refine wpList_plain hgd fun K hK => ?_
  obtain ⟨v', w', hr, h2, h3⟩ := run_append_full (P := P) w t o.type e z size bytes ht hinf hzs hsz b n xs hv xv m news hrd hm h63 hbytes
  unfold Oper.wp execOp
  simp only [ho, resolve, invoke, builtin, Sem.run_bind, Sem.run_pure, Result.andThen_ok, List.map_toArray, List.map_cons, List.map_nil, hs, hx, hr]
  obtain ⟨p', c', rfl⟩ : ∃ p' c', v' = .slice p' (n + m) c' := by
    rcases h2.2 with ⟨h5, h6⟩ | ⟨g, cap, cur, h5, _⟩
    · exact ⟨none, 0, by rw [h5, h6]⟩
    · exact ⟨_, _, h5⟩
  exact hK _ _ (h p' c' w' h2 h3)
end

theorem ownsRow_lower {w : World} {base base' size n : Nat} {e : TypeId} {v : Value} {xs : List Value} (h : w.ownsRow base e size v n xs) (hb : base' ≤ base) : w.ownsRow base' e size v n xs :=
  ⟨h.1, h.2.elim Or.inl (fun ⟨g, cap, cur, hv, hg, r⟩ => Or.inr ⟨g, cap, cur, hv, Nat.le_trans hb hg, r⟩)⟩

theorem logSteps_get {ls : List (Int × List UInt8)} {j : Nat} {q : Int × List UInt8} (h : ls[j]? = some q) : (comSteps ls)[j]? = some (.write (1 + (j : Int)) (le8 q.1 ++ q.2)) := by
  have hlt := (List.getElem?_eq_some_iff.1 h).1
  unfold comSteps logSteps
  rw [List.getElem?_append_left (by simp; omega), List.getElem?_mapIdx, h]
  rfl
theorem comSteps_end (ls : List (Int × List UInt8)) : (comSteps ls)[ls.length]? = some .sync ∧ (comSteps ls)[ls.length + 1]? = some (.write 0 (markB ++ le8 ls.length)) ∧ (comSteps ls)[ls.length + 2]? = some .sync := by
  have hl : (logSteps ls).length = ls.length := logSteps_length ls
  unfold comSteps
  refine ⟨?_, ?_, ?_⟩ <;> rw [List.getElem?_append_right (by omega), hl]
  · rw [Nat.sub_self]; rfl
  · rw [Nat.add_sub_cancel_left]; rfl
  · rw [Nat.add_sub_cancel_left]; rfl
end Go.Proofs.Ytdilkgcoecipjaa
