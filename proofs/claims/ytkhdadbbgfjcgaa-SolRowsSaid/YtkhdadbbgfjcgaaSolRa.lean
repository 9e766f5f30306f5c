/- triadref16.Sort (printed by gen_solrsort.py). -/
import Derived.Test.YtkhdadbbgfjcgaaSolMi
namespace Go.Proofs.Ytkhdadbbgfjcgaa
open Go.RowKit
set_option linter.unusedVariables false

section
variable {P : Program}
theorem exec_slice_from {w : World} {o : Oper} {a : Act} (t : TypeId) (x l : Operand) (ho : o.op = .slice t x (some l) none none) (e : TypeId) (size : Nat) (ht : P.underlying t = some (.slice e)) (hsz : (P.info? e).map (·.size) = some size)
    (p : Option Addr) (n cap lo : Nat) (k : IntKind) (hp : p = none → cap = 0) (hx : a.eval x = .slice p n cap) (hl : a.eval l = .int k (lo : Int)) (h1 : lo ≤ n) (h2 : n ≤ cap) :
    (execOp a.eval o).run P w = .ok (.value (.slice (if cap = lo then p else p.map (·.add (lo * size))) (n - lo) (cap - lo))) w := by
  have hr := run_slice_rd (P := P) w t e size ht hsz p n cap lo n hp h1 h2 (some (a.eval l)) none (.inr ⟨k, by rw [hl]⟩) (.inl ⟨rfl, rfl⟩)
  unfold execOp
  simp only [ho, hx, Option.map_none, Option.map_some, hr, Sem.run_bind, Sem.run_pure, Result.andThen_ok]
end
theorem own_chg {B0 size n : Nat} {e : TypeId} {w w' : World} {v : Value} {xs : List Value} {fp : Nat → Prop} (h : w.ownsRow B0 e size v n xs) (hc : Chg fp w w') (hf : ∀ g, v.ownBlock = some g → ¬ fp g) : w'.ownsRow B0 e size v n xs := by
  refine ⟨h.1, ?_⟩
  rcases h.2 with h2 | ⟨g, cap, cur, h1, h2, h3, h4⟩
  · exact .inl h2
  · exact .inr ⟨g, cap, cur, h1, h2, hc.heap h3 (hf g (by rw [h1]; rfl)), h4⟩
theorem own_ne {B0 B1 s1 s2 n m : Nat} {e1 e2 : TypeId} {w : World} {v u : Value} {xs ys : List Value} (h : w.ownsRow B0 e1 s1 v n xs) (k : w.ownsRow B1 e2 s2 u m ys) (he : e1 ≠ e2) : ∀ g, v.ownBlock = some g → u.ownBlock ≠ some g := by
  intro g hg hu
  rcases h.2 with ⟨rfl, _⟩ | ⟨g1, cap, cur, rfl, _, h3, _⟩
  · cases hg
  · cases hg
    rcases k.2 with ⟨rfl, _⟩ | ⟨g2, cap2, cur2, rfl, _, h4, _⟩
    · cases hu
    · cases hu
      rw [h3] at h4
      injection h4 with h4
      injection h4 with _ h4 _
      exact he h4
theorem ins_shift {α : Type} (A R : List α) (a b : α) (n : Nat) (hn : n ≤ A.length) :
    (splice (A ++ a :: R) (n + 1) (((A ++ a :: R).drop n).take (A.length - n))).set n b = A.take n ++ b :: (A.drop n ++ R) := by
  have h1 : ((A ++ a :: R).drop n).take (A.length - n) = A.drop n := by
    rw [List.drop_append_of_le_length hn, List.take_append_of_le_length (by rw [List.length_drop]; omega), List.take_of_length_le (by rw [List.length_drop]; omega)]
  rw [h1]
  unfold splice
  rw [List.length_drop, show n + 1 + (A.length - n) = A.length + 1 by omega, List.drop_append, List.drop_of_length_le (by omega : A.length ≤ A.length + 1), List.nil_append, show A.length + 1 - A.length = 1 by omega]
  show ((A ++ a :: R).take (n + 1) ++ (A.drop n ++ R)).set n b = _
  rw [List.set_append_left _ _ (by rw [List.length_take, List.length_append, List.length_cons]; omega)]
  have h2 : ((A ++ a :: R).take (n + 1)).set n b = A.take n ++ [b] := by
    rw [List.take_add_one, List.take_append_of_le_length hn]
    have hl : n < (A ++ a :: R).length := by rw [List.length_append, List.length_cons]; omega
    rw [List.getElem?_eq_getElem hl]
    rw [List.set_append_right _ _ (by rw [List.length_take]; omega), List.length_take, Nat.min_eq_left hn, Nat.sub_self]
    rfl
  rw [h2]; simp

theorem ins_fin {α : Type} (A R : List α) (a b : α) (n i off : Nat) (hi : A.length = i) (hn : n ≤ i) (ho : off = n + 1 ∨ n = i) :
    (splice (A ++ a :: R) off ((((A ++ a :: R).drop n).take ((i + 1 - n) * 1)).take (min (i + 1 - n) (i - n) * 1))).set n b = A.take n ++ b :: (A.drop n ++ R) := by
  rw [Nat.min_eq_right (by omega), Nat.mul_one, Nat.mul_one, List.take_take, Nat.min_eq_left (by omega)]
  subst hi
  rcases ho with rfl | rfl
  · exact ins_shift A R a b n hn
  · rw [Nat.sub_self, List.take_zero]
    have h : splice (A ++ a :: R) off [] = A ++ a :: R := by unfold splice; simp
    rw [h, List.set_append_right _ _ (Nat.le_refl _), Nat.sub_self, List.take_of_length_le (Nat.le_refl _), List.drop_of_length_le (Nat.le_refl _)]
    rfl
theorem ins_one {A R : List Value} {a : Value} {n i : Nat} (hi : A.length = i) (hn : n ≤ i) (h : ∀ u ∈ A, u.oneCell' = true) : ∀ u ∈ (((A ++ a :: R).drop n).take ((i + 1 - n) * 1)).take (min (i + 1 - n) (i - n) * 1), u.oneCell' = true := by
  intro u hu
  rw [Nat.min_eq_right (by omega), Nat.mul_one, Nat.mul_one, List.take_take, Nat.min_eq_left (by omega), List.drop_append_of_le_length (by omega), List.take_append_of_le_length (by rw [List.length_drop]; omega)] at hu
  exact h u (List.mem_of_mem_drop (List.mem_of_mem_take hu))
theorem splice_len {α : Type} (L : List α) (off : Nat) (xs : List α) (h : off + xs.length ≤ L.length) : (splice L off xs).length = L.length := by
  unfold splice
  simp only [List.length_append, List.length_take, List.length_drop]; omega
theorem OwnL.ne {B0 B1 s2 m : Nat} {e2 : TypeId} {w : World} {v u : Value} {L : List Sl} {ys : List Value} (h : OwnL B0 w v L) (k : w.ownsRow B1 e2 s2 u m ys) (he : TL ≠ e2) : ∀ g, u.ownBlock = some g → v.ownBlock ≠ some g := by
  obtain ⟨G, _, h2, _⟩ := h
  exact fun g hu hv => own_ne h2 k he g hv hu
theorem rd_val {w : World} {gx : Nat} {v : Value} {e : TypeId} (h : Blk w gx [v] e) : Rd w 1 (.slice (some ⟨gx, 0, none⟩) 1 1) 1 [v] := by
  have h := Rd.blk (off := 0) (n := 1) (c := 1) (size := 1) h (Nat.le_refl _) one_le_maxLen (by simp)
  simpa using h
theorem last_of {α : Type} {l : List α} {i : Nat} (h : l.length = i + 1) : ∃ a z, l = a ++ [z] := by
  cases hl : l.reverse with
  | nil => have : l = [] := by simpa using hl
           rw [this] at h; simp at h
  | cons z a => exact ⟨a.reverse, z, by have := congrArg List.reverse hl; simpa using this⟩
abbrev TSt : TypeId := 9
abbrev TSs : TypeId := 45
def tvs (o : List Sl) : List Value := o.map (fun s => .string (B (textP s)))
theorem tvs_one (o : List Sl) : ∀ u ∈ tvs o, u.oneCell' = true := by
  intro u hu
  obtain ⟨s, _, rfl⟩ := List.mem_map.1 hu
  rfl
theorem infoSt : (Try.prog.info? TSt).map (fun i => (i.zero, i.size, i.bytes)) = some (some (.string ⟨#[]⟩), 1, 16) := by kernel_rfl
theorem infoSt1 : (Try.prog.info? TSt).map (·.size) = some 1 := by kernel_rfl
theorem infoTL1 : (Try.prog.info? TL).map (·.size) = some 1 := by kernel_rfl
theorem own_block {B0 n : Nat} {e : TypeId} {w : World} {v : Value} {xs : List Value} (h : w.ownsRow B0 e 1 v n xs) (hn : 0 < n) : ∃ g cap R, v = .slice (some ⟨g, 0, none⟩) n cap ∧ B0 ≤ g ∧ Blk w g (xs ++ R) e ∧ n ≤ cap ∧ cap ≤ maxLen ∧ (xs ++ R).length = cap := by
  rcases h.2 with ⟨_, hz⟩ | ⟨g, cap, cur, rfl, hB, hg, hnc, hcm, hcs, ht⟩
  · omega
  · refine ⟨g, cap, cur.toList.drop n, rfl, hB, ?_, hnc, hcm, ?_⟩
    · show w.heap[g]? = _
      rw [hg]
      congr 2
      apply Array.ext'
      rw [List.toList_toArray]
      rw [Nat.mul_one] at ht
      rw [← ht, List.take_append_drop]
    · rw [Nat.mul_one] at ht
      rw [← ht, List.take_append_drop]; simpa using hcs
theorem block_own {B0 g cap : Nat} {e : TypeId} {w : World} {xs R : List Value} (hB : B0 ≤ g) (h : Blk w g (xs ++ R) e) (hn : xs.length ≤ cap) (hm : cap ≤ maxLen) (hc : (xs ++ R).length = cap) : w.ownsRow B0 e 1 (.slice (some ⟨g, 0, none⟩) xs.length cap) xs.length xs :=
  ⟨by simp, .inr ⟨g, cap, _, rfl, hB, h, hn, hm, by simpa using hc, by
    rw [List.toList_toArray, Nat.mul_one, List.take_append_of_le_length (Nat.le_refl _), List.take_of_length_le (Nat.le_refl _)]⟩⟩

theorem wpList_append_sols2 {w : World} {ops : Array Oper} {rest : List Oper} {o : Oper} {a : Act} {Q : Exit → Act → World → Prop} (hgd : o.guard = none) (s x : Operand)
    (ho : o.op = .call { callee := .builtin .append, args := #[s, x], argTypes := #[TS, TS] })
    (B0 : Nat) (v : Value) (L : List Sl) (hs : a.eval s = v) (hown : OwnL B0 w v L) (xv : Value) (M : List Sl) (hx : a.eval x = xv) (hrd : SolsAt w xv M) (hlim : L.length + M.length ≤ 1000000) (hB : B0 ≤ w.heap.size)
    (h : ∀ (p' : Option Addr) (c' : Nat) w', OwnL B0 w' (.slice p' (L.length + M.length) c') (L ++ M) → Below B0 w w' → Kp w w' → w.grownBy w' v.ownBlock → wpList Try.prog ops Q rest (a.put o.dst (.slice p' (L.length + M.length) c')) w') :
    wpList Try.prog ops Q (o :: rest) a w := by
  obtain ⟨G, hG, hgo, hgs⟩ := hown
  obtain ⟨K, hK, hkr, hks⟩ := hrd
  refine wpList_append_rd hgd s x TS ho B0 TL _ 1 24 Try.underlying24 infoL rfl (by decide) v L.length (sv G) hs hgo xv M.length (sv K) hx hkr (sv_one hks) (by simp only [maxLen]; omega) (by omega) hB ?_
  intro p' c' w' ho' hg' _
  have hk := own_kp (by decide) hgo hg'
  refine h p' c' w' ⟨G ++ K, by rw [ss_append, hG, hK], ?_, fun y hy => ?_⟩ (own_below hgo hg' hB) hk hg'
  · rw [sv_append, List.length_append]; exact ho'
  · rcases List.mem_append.1 hy with hy | hy
    · exact (hgs y hy).kp hk
    · exact (hks y hy).kp hk
theorem OwnL.chg {B0 : Nat} {w w' : World} {v : Value} {L : List Sl} {fp : Nat → Prop} (h : OwnL B0 w v L) (hc : Chg fp w w') (hk : Kp w w') (hf : ∀ g, v.ownBlock = some g → ¬ fp g) : OwnL B0 w' v L := by
  obtain ⟨G, h1, h2, h3⟩ := h
  exact ⟨G, h1, own_chg h2 hc hf, fun x hx => (h3 x hx).kp hk⟩

theorem rsort_fin {w w9 : World} {g g' n i f1 f2 c3 c5 c9 : Nat} {p9 : Option Addr} {G0 : List Rw} {o PP Q : List Sl} {x : Sl} {tx : List UInt8} {z0 t0 : Value} {R R' : List Value} (hgg : g ≠ g') (hBg : w.heap.size ≤ g) (hBg' : w.heap.size ≤ g') (hG0 : ss G0 = o) (hG0l : G0.length = i) (hol : o.length = i) (hpq : o = PP ++ Q) (hpl : PP.length = n) (htx : textP x = tx) (hni : n ≤ i) (hf1 : f1 = n + 1 ∨ n = i) (hf2 : f2 = n + 1 ∨ n = i)
    (hA : Blk w9 g (splice (sv G0 ++ z0 :: R) f1 ((((sv G0 ++ z0 :: R).drop n).take ((i + 1 - n) * 1)).take (min (i + 1 - n) (i - n) * 1))) TL)
    (hB : Blk w9 g' (splice (tvs o ++ t0 :: R') f2 ((((tvs o ++ t0 :: R').drop n).take ((i + 1 - n) * 1)).take (min (i + 1 - n) (i - n) * 1))) TSt)
    (hc3 : i + 1 ≤ c3) (hc5 : i + 1 ≤ c5) (hm3 : c3 ≤ maxLen) (hm5 : c5 ≤ maxLen) (hlc3 : (sv G0 ++ z0 :: R).length = c3) (hlc5 : (tvs o ++ t0 :: R').length = c5) (hgs : ∀ y ∈ G0, SolAt w9 y.1 y.2) (hx : SolAt w9 (.slice p9 x.length c9) x) (hbw : Below w.heap.size w w9) :
    OwnL w.heap.size ((w9.setCell ⟨g, n, none⟩ (.slice p9 x.length c9)).setCell ⟨g', n, none⟩ (.string (B tx))) (.slice (some ⟨g, 0, none⟩) (i + 1) c3) (PP ++ x :: Q) ∧
    ((w9.setCell ⟨g, n, none⟩ (.slice p9 x.length c9)).setCell ⟨g', n, none⟩ (.string (B tx))).ownsRow w.heap.size TSt 1 (.slice (some ⟨g', 0, none⟩) (i + 1) c5) (i + 1) (tvs (PP ++ x :: Q)) ∧
    Below w.heap.size w ((w9.setCell ⟨g, n, none⟩ (.slice p9 x.length c9)).setCell ⟨g', n, none⟩ (.string (B tx))) := by
  have hoP : o.take n = PP ∧ o.drop n = Q := by
    rw [hpq, ← hpl]
    exact ⟨List.take_left, List.drop_left⟩
  have hbA := Blk.set hA n (.slice p9 x.length c9)
  rw [ins_fin (sv G0) R z0 _ n i f1 (by rw [sv_len]; exact hG0l) hni hf1] at hbA
  have hcB : Chg (fun k => k = g) w9 (w9.setCell ⟨g, n, none⟩ (.slice p9 x.length c9)) := Chg.setCell (fp := fun k => k = g) _ (a := ⟨g, n, none⟩) rfl _
  have hbB0 := Blk.chg hB hcB (fun e => hgg e.symm)
  have hk1 : Kp w9 (w9.setCell ⟨g, n, none⟩ (.slice p9 x.length c9)) := Kp.chg hcB (fun k hk => by subst hk; exact ⟨_, _, _, hA, by decide⟩)
  have hbw1 := hbw.setCell (p := ⟨g, n, none⟩) hBg (.slice p9 x.length c9)
  obtain ⟨wm, hwm⟩ : ∃ wm, w9.setCell ⟨g, n, none⟩ (.slice p9 x.length c9) = wm := ⟨_, rfl⟩
  rw [hwm] at hbA hbB0 hk1 hbw1 ⊢
  have hbB := Blk.set hbB0 n (.string (B tx))
  rw [ins_fin (tvs o) R' t0 _ n i f2 (by unfold tvs; rw [List.length_map]; exact hol) hni hf2] at hbB
  have hcA : Chg (fun k => k = g') wm (wm.setCell ⟨g', n, none⟩ (.string (B tx))) := Chg.setCell (fp := fun k => k = g') _ (a := ⟨g', n, none⟩) rfl _
  have hbA2 := Blk.chg hbA hcA (fun e => hgg e)
  have hk2 : Kp wm (wm.setCell ⟨g', n, none⟩ (.string (B tx))) := Kp.chg hcA (fun k hk => by subst hk; exact ⟨_, _, _, hbB0, by decide⟩)
  have hbw2 := hbw1.setCell (p := ⟨g', n, none⟩) hBg' (.string (B tx))
  obtain ⟨wf, hwf⟩ : ∃ wf, wm.setCell ⟨g', n, none⟩ (.string (B tx)) = wf := ⟨_, rfl⟩
  rw [hwf] at hbB hbA2 hk2 hbw2 ⊢
  have hkk := hk1.trans hk2
  have hG3 : sv (G0.take n ++ ((.slice p9 x.length c9, x) : Rw) :: G0.drop n) = (sv G0).take n ++ .slice p9 x.length c9 :: (sv G0).drop n := by simp [sv, List.map_take, List.map_drop]
  have hS3 : ss (G0.take n ++ ((.slice p9 x.length c9, x) : Rw) :: G0.drop n) = PP ++ x :: Q := by
    rw [← hoP.1, ← hoP.2, ← hG0]; simp [ss, List.map_take, List.map_drop]
  have hT3 : tvs (PP ++ x :: Q) = (tvs o).take n ++ .string (B tx) :: (tvs o).drop n := by
    rw [← hoP.1, ← hoP.2, ← htx]; simp [tvs, List.map_take, List.map_drop]
  have hl3 : (PP ++ x :: Q).length = i + 1 := by
    rw [hpq] at hol
    simp only [List.length_append, List.length_cons] at hol ⊢; omega
  have hlA : ((sv G0).take n ++ .slice p9 x.length c9 :: (sv G0).drop n).length = i + 1 := by rw [← hG3, sv_len, ← ss_len, hS3, hl3]
  have hlB : ((tvs o).take n ++ Value.string (B tx) :: (tvs o).drop n).length = i + 1 := by rw [← hT3]; unfold tvs; rw [List.length_map, hl3]
  refine ⟨⟨G0.take n ++ ((.slice p9 x.length c9, x) : Rw) :: G0.drop n, hS3, ?_, fun y hy => ?_⟩, ?_, hbw2⟩
  · rw [hl3, hG3]
    have hb : Blk wf g (((sv G0).take n ++ .slice p9 x.length c9 :: (sv G0).drop n) ++ R) TL := by
      rw [List.append_assoc, List.cons_append]; exact hbA2
    have h := block_own (B0 := w.heap.size) (cap := c3) hBg hb (by rw [hlA]; exact hc3) hm3 (by
      rw [List.length_append, hlA]
      rw [List.length_append, List.length_cons, sv_len, hG0l] at hlc3
      omega)
    rw [hlA] at h
    exact h
  · rcases List.mem_append.1 hy with hy | hy
    · exact (hgs y (List.mem_of_mem_take hy)).kp hkk
    · rcases List.mem_cons.1 hy with rfl | hy
      · exact hx.kp hkk
      · exact (hgs y (List.mem_of_mem_drop hy)).kp hkk
  · rw [hT3]
    have hb : Blk wf g' (((tvs o).take n ++ Value.string (B tx) :: (tvs o).drop n) ++ R') TSt := by
      rw [List.append_assoc, List.cons_append]; exact hbB
    have h := block_own (B0 := w.heap.size) (cap := c5) hBg' hb (by rw [hlB]; exact hc5) hm5 (by
      rw [List.length_append, hlB]
      rw [List.length_append, List.length_cons, tvs, List.length_map, hol] at hlc5
      omega)
    rw [hlB] at h
    exact h

set_option maxRecDepth 100000 in
set_option maxHeartbeats 8000000 in
theorem rSort_any (L : List Sl) (v : Value) (w : World) (m : Nat) (hs : SolsAt w v L) (hl : L.length ≤ 100000) (ho : ∀ s ∈ L, OkS m s) (hm : m ≤ 1000) :
    Calls Try.prog 26 #[v] w fun e w' => ∃ p c, e = .returned (.slice p L.length c) ∧ OwnL w.heap.size w' (.slice p L.length c) (srt textP L) ∧ Below w.heap.size w w' := by
  obtain ⟨pl, cl, rfl⟩ := hs.shape
  have HL := hid hs
  have HOK := hid ho
  clear hs ho
  go_enter Try.func26, Try.ntmps26
  go_wp2_with fail
  go_loopw [3, 4, 5] (fun vo vt vi wr => ∃ (i : Nat) (p1 : Option Addr) (c1 : Nat) (p2 : Option Addr) (c2 : Nat) (o : List Sl), vo = .slice p1 i c1 ∧ vt = .slice p2 i c2 ∧ vi = .int .i64 i ∧ i ≤ L.length ∧ Hid (o = srt textP (L.take i)) ∧ Hid (o.length = i) ∧ Hid (OwnL w.heap.size wr (.slice p1 i c1) o) ∧
    Hid (wr.ownsRow w.heap.size TSt 1 (.slice p2 i c2) i (tvs o)) ∧ Hid (Below w.heap.size w wr)) (fun vo vt vi _ => L.length + 1 - (intOf vi).toNat)
  case atStart => exact ⟨0, none, 0, none, 0, [], rfl, rfl, rfl, Nat.zero_le _, rfl, rfl, OwnL.nil _ _, World.ownsRow_nil _ _ _ _, Below.refl _ _⟩
  case round =>
    obtain ⟨i, p1, c1, p2, c2, o, rfl, rfl, rfl, hi, HS, HK, HO, HT, HB⟩ := hrel
    have hsz := HB.out.size
    by_cases hlt : i < L.length
    · have hlt2 : (i : Int) < (L.length : Int) := by omega
      obtain ⟨bl, ol, u, rfl, hcell0, hsu0⟩ := HL.out.get hlt
      obtain ⟨pu, cu, rfl⟩ := hsu0.shape
      obtain ⟨x, hx⟩ : ∃ x, L[i] = x := ⟨_, rfl⟩
      rw [hx] at hcell0 hsu0
      have HC0 := hid (And.intro (World.block_lt_of_cell? w _ hcell0) (And.intro hcell0 hsu0))
      have hcell : wr.cell? ⟨bl, ol + i, none⟩ = some (.slice pu x.length cu) := (HB.out.cell (p := ⟨bl, ol + i, none⟩) HC0.out.1).trans hcell0
      have hsu := hsu0.new HB.out
      clear hcell0 hsu0
      have HOX := hid (show OkS m x by rw [← hx]; exact HOK.out _ (List.getElem_mem hlt))
      have HTK := hid (show L.take (i + 1) = L.take i ++ [x] by rw [List.take_add_one, List.getElem?_eq_getElem hlt, hx]; rfl)
      have HSU := hid hsu
      clear hsu hx
      have hbl : bl < wr.heap.size := World.block_lt_of_cell? wr _ hcell
      go_wp2_with fail
      refine (rText_any x _ wr m HSU.out HOX.out hm).mono ?_
      rintro e1 w1 ⟨rfl, hb1⟩
      have HO1 := hid (HO.out.new hb1)
      have HT1 := hid (own_new HT.out hb1)
      have HB1 := hid (HB.out.trans (hb1.mono hsz))
      have HSU1 := hid (HSU.out.new hb1)
      have HCL := hid (show bl < w1.heap.size ∧ w1.cell? ⟨bl, ol + i, none⟩ = some (.slice pu x.length cu) from ⟨Nat.lt_of_lt_of_le hbl hb1.size, (hb1.cell (p := ⟨bl, ol + i, none⟩) hbl).trans hcell⟩)
      clear hb1 HSU HO HT HB hcell hbl hsz
      obtain ⟨tx, htx⟩ : ∃ tx, textP x = tx := ⟨_, rfl⟩
      rw [htx]
      have HTX := hid htx
      clear htx
      go_wp2_with fail
      go_loopw [7] (fun vn wr => ∃ (n : Nat) (P Q : List Sl), vn = .int .i64 n ∧ n ≤ i ∧ Hid (P.length = n) ∧ Hid (o = P ++ Q) ∧ Hid (∀ y ∈ Q, ltB tx (textP y) = true) ∧ w1 = wr) (fun vn _ => (intOf vn).toNat)
      case atStart => exact ⟨i, o, [], rfl, Nat.le_refl _, HK, by rw [List.append_nil]; exact rfl, hid (fun y hy => by cases hy), rfl⟩
      case round =>
        obtain ⟨n, P, Q, rfl, hni, HP, HPQ, HQ, rfl⟩ := hrel
        have hin : i ≤ 100000 := by omega
        by_cases h0 : 0 < n
        case' pos =>
          have h02 : (0 : Int) < (n : Int) := by omega
          obtain ⟨P', y, rfl⟩ : ∃ P' y, P = P' ++ [y] := by
            cases hP : P.reverse with
            | nil => have : P = [] := by simpa using hP
                     subst this; have := HP.out; simp at this; omega
            | cons y P' => exact ⟨P'.reverse, y, by have := congrArg List.reverse hP; simpa using this⟩
          obtain ⟨j, hj⟩ : ∃ j : Nat, (n : Int) - 1 = (j : Int) := ⟨n - 1, by omega⟩
          have hji : (j : Int) < (i : Int) := by omega
          obtain ⟨b2, o2, rfl, hcc⟩ := Rd.addr (Rd.of_own HT1.out) (by omega)
          have hty : w1.cell? ⟨b2, o2 + j, none⟩ = some (.string (B (textP y))) := hcc j _ (by
            have hj2 : P'.length = j := by have := HP.out; simp at this; omega
            rw [HPQ.out, tvs, List.map_append, List.map_append, List.append_assoc, List.getElem?_append_right (by rw [List.length_map]; omega), List.length_map, hj2, Nat.sub_self]
            rfl)
          have HJ := hid (show j + 1 = n by omega)
          clear hcc
          cases hc : Op.bytesLess tx (textP y)
        case' pos.true =>
          have HCC := hid hc
          go_wp2_with fail
          case roundEnd => exact ⟨⟨j, P', y :: Q, by go_num, by omega, by have := HP.out; have := HJ.out; simp at *; exact hid (by omega), by rw [HPQ.out]; exact hid (by simp), hid (fun z hz => by
            rcases List.mem_cons.1 hz with rfl | hz
            · exact HCC.out
            · exact HQ.out z hz), by first | exact rfl | exact trivial⟩, by have := HJ.out; simp [intOf]; omega⟩
        case' pos.false =>
          have hc2 : Op.bytesLess tx (textP y) = false := hc
          have HFIN := hid (show (P' ++ [y]) ++ x :: Q = srt textP (L.take (i + 1)) by
            have hsd : Sd textP ((P' ++ [y]) ++ Q) := by rw [← HPQ.out, HS.out]; exact sd_srt _
            rw [HTK.out, srt_snoc (key := textP) (x := x) hsd rfl (Sd.last (Sd.app.1 hsd).1 (fun _ => by rw [HTX.out]; simpa using hc2)) (by rw [HTX.out]; exact HQ.out)]
            rw [← HPQ.out, HS.out]
            exact srt_ev ((ev_srt _).app (Ev.rfl' _)))
          clear hc
          go_wp2_with (at_builtin; refine wp_keep ?_)
          clear hty hc2
          obtain ⟨PP, hPP⟩ : ∃ PP, P' ++ [y] = PP := ⟨_, rfl⟩
          rw [hPP] at HP HPQ HFIN
          clear hPP
        case' neg =>
          have h02 : ¬ (0 : Int) < (n : Int) := by omega
          have HFIN := hid (show P ++ x :: Q = srt textP (L.take (i + 1)) by
            have hpe : P = [] := List.eq_nil_of_length_eq_zero (by have := HP.out; omega)
            subst hpe
            have hsd : Sd textP ([] ++ Q) := by rw [← HPQ.out, HS.out]; exact sd_srt _
            rw [HTK.out, srt_snoc (key := textP) (x := x) hsd rfl (fun z hz => by cases hz) (by rw [HTX.out]; exact HQ.out)]
            rw [← HPQ.out, HS.out]
            exact srt_ev ((ev_srt _).app (Ev.rfl' _)))
          go_wp2_with (at_builtin; refine wp_keep ?_)
          obtain ⟨PP, hPP⟩ : ∃ PP, P = PP := ⟨_, rfl⟩
          rw [hPP] at HP HPQ HFIN
          clear hPP
        all_goals
          refine hid ?_
          have hz : Blk (w1.alloc (Obj.cells ([.slice none 0 0] : List Value).toArray TL)) w1.heap.size [.slice none 0 0] TL := heap_alloc_new w1 _
          have hb := (Below.refl w1.heap.size w1).alloc (Nat.le_refl _) (Obj.cells ([.slice none 0 0] : List Value).toArray TL)
          obtain ⟨w2, hw⟩ : ∃ x, w1.alloc (Obj.cells ([.slice none 0 0] : List Value).toArray TL) = x := ⟨_, rfl⟩
          rw [hw] at hz hb
          have hw' : w1.alloc (Obj.cells #[.slice none 0 0] TL) = w2 := hw
          try simp only [hw']
          try simp only [hw]
          have hO2 := HO1.out.new hb
          have hT2 := own_new HT1.out hb
          have hB2 := HB1.out.trans (hb.mono HB1.out.size)
          clear hw hw' hb
          refine wpList_append_sols2 rfl _ _ rfl w.heap.size _ o rfl hO2 _ [[]] rfl (SolsAt.one hz (SolAt.nil w2)) (by rw [HK.out]; simp; omega) hB2.size ?_
          intro p3 c3 w3 ho3 hb3 hk3 hg3
          have hlen3 : o.length + [([] : Sl)].length = i + 1 := by rw [HK.out]; rfl
          rw [hlen3] at ho3 ⊢
          have HO3 := hid ho3
          have HT3 := hid (own_chg hT2 (Chg.grown hg3) (fun g hg => hO2.ne hT2 (by decide) g hg))
          have HB3 := hid (hB2.trans hb3)
          clear ho3 hb3 hk3 hg3 hO2 hT2 hB2 hz hlen3
          go_wp2_with (at_builtin; refine wp_keep ?_)
          refine hid ?_
          have hz : Blk (w3.alloc (Obj.cells ([.string ⟨#[]⟩] : List Value).toArray TSt)) w3.heap.size [.string ⟨#[]⟩] TSt := heap_alloc_new w3 _
          have hb := (Below.refl w3.heap.size w3).alloc (Nat.le_refl _) (Obj.cells ([.string ⟨#[]⟩] : List Value).toArray TSt)
          obtain ⟨w4, hw⟩ : ∃ x, w3.alloc (Obj.cells ([.string ⟨#[]⟩] : List Value).toArray TSt) = x := ⟨_, rfl⟩
          rw [hw] at hz hb
          have hw' : w3.alloc (Obj.cells #[.string ⟨#[]⟩] TSt) = w4 := hw
          try simp only [hw']
          try simp only [hw]
          have hO4 := HO3.out.new hb
          have hT4 := own_new HT3.out hb
          have hB4 := HB3.out.trans (hb.mono HB3.out.size)
          clear hw hw' hb
          refine wpList_append_rd rfl _ _ TSs rfl w.heap.size TSt _ 1 16 Try.underlying45 infoSt rfl (by decide) _ i (tvs o) rfl hT4 _ 1 [.string ⟨#[]⟩] rfl (rd_val hz) (by intro u hu; simp at hu; subst hu; rfl) (by simp only [maxLen]; omega) (by omega) hB4.size ?_
          intro p5 c5 w5 ho5 hg5 _
          have hO5 : OwnL w.heap.size w5 (.slice p3 (i + 1) c3) (o ++ [[]]) := hO4.chg (Chg.grown hg5) (own_kp (by decide) hT4 hg5) (fun g hg he => hO4.ne hT4 (by decide) g he hg)
          have hB5 := hB4.trans (own_below hT4 hg5 hB4.size)
          have hl5 : (o ++ [([] : Sl)]).length = i + 1 := by rw [List.length_append, HK.out]; rfl
          obtain ⟨G, hG, hgo, hgs⟩ := hO5
          have hGl : G.length = i + 1 := by rw [← ss_len, hG, hl5]
          obtain ⟨G0, z, rfl⟩ := last_of hGl
          have hG0 : ss G0 = o := by
            rw [ss_append] at hG
            exact (List.append_inj' hG (by simp [ss])).1
          have hG0l : G0.length = i := by rw [← ss_len, hG0, HK.out]
          rw [hl5] at hgo
          obtain ⟨g, cap, R, hv, hBg, hbk, hnc, hcm, hcl⟩ := own_block hgo (by omega)
          obtain ⟨g', cap', R', hv', hBg', hbk', hnc', hcm', hcl'⟩ := own_block ho5 (by omega)
          cases hv
          cases hv'
          have hgg : g ≠ g' := fun e => by
            rw [e] at hbk
            have := hbk.symm.trans hbk'
            injection this with this
            injection this with _ this _
            exact absurd this (by decide)
          rw [sv_append, List.append_assoc] at hbk hcl
          rw [List.append_assoc] at hbk' hcl'
          have hbk : Blk w5 g (sv G0 ++ z.1 :: R) TL := hbk
          have hbk' : Blk w5 g' (tvs o ++ .string ⟨#[]⟩ :: R') TSt := hbk'
          have hcl : (sv G0 ++ z.1 :: R).length = c3 := hcl
          have hcl' : (tvs o ++ .string ⟨#[]⟩ :: R').length = c5 := hcl'
          have HBK := hid (And.intro hbk (And.intro hBg (And.intro hcm hcl)))
          have HBK' := hid (And.intro hbk' (And.intro hBg' (And.intro hcm' hcl')))
          have HG := hid (And.intro hG0 (And.intro hG0l hgs))
          have HB5 := hid hB5
          have HGG := hid hgg
          obtain ⟨n1, hn1e⟩ : ∃ n1 : Nat, n1 = n + 1 := ⟨_, rfl⟩
          have hn1 : (n : Int) + 1 = (n1 : Int) := by omega
          have hn1w : IntKind.i64.wrap (n1 : Int) = (n1 : Int) := IntWalk.i64_in _ (by omega)
          have HN1 := hid hn1e
          obtain ⟨f1, hf1, hf1'⟩ : ∃ f1, (if c3 = n1 then some (⟨g, 0, none⟩ : Addr) else (some (⟨g, 0, none⟩ : Addr)).map (·.add (n1 * 1))) = some ⟨g, f1, none⟩ ∧ (f1 = n + 1 ∨ n = i) ∧ f1 ≤ i + 1 := by
            by_cases h : c3 = n1
            · exact ⟨0, by rw [if_pos h], .inr (by omega), by omega⟩
            · exact ⟨n1, by rw [if_neg h]; simp [Addr.add_off], .inl hn1e, by omega⟩
          obtain ⟨f2, hf2, hf2'⟩ : ∃ f2, (if c5 = n1 then some (⟨g', 0, none⟩ : Addr) else (some (⟨g', 0, none⟩ : Addr)).map (·.add (n1 * 1))) = some ⟨g', f2, none⟩ ∧ (f2 = n + 1 ∨ n = i) ∧ f2 ≤ i + 1 := by
            by_cases h : c5 = n1
            · exact ⟨0, by rw [if_pos h], .inr (by omega), by omega⟩
            · exact ⟨n1, by rw [if_neg h]; simp [Addr.add_off], .inl hn1e, by omega⟩
          have HF1 := hid (And.intro hf1 hf1')
          have HF2 := hid (And.intro hf2 hf2')
          clear hn1e hf1 hf1' hf2 hf2'
          clear ho5 hg5 hO4 hT4 hB4 hz hl5 hG hgo hgs hGl hG0 hG0l hbk hBg hcm hcl hbk' hBg' hcm' hcl' hB5 hgg HO3 HT3 HB3 HO1 HT1 HB1
          have hgc : i + 1 ≤ c3 := hnc
          have hg'c : i + 1 ≤ c5 := hnc'
          clear hnc hnc'
          go_wp2_with fail
          refine wp_region_plan2 (fun w' => True) (fun j => !([7].contains j)) (fun j => false) (fun j => false)
            [0, 1, 2, 3, 4, 5, 6, 7] (by kernel_rfl) (by kernel_rfl) rfl (by kernel_rfl) (by kernel_rfl) trivial ?_
          iterate 3 (apply wpPlan2_val; (case ho => rfl); (case hst => rfl); (case hw => rfl); (case hv => intro w' hS; go_simp; first | done | rfl); intro K hK; go_simp; refine hK _ ?_; clear hK K)
          refine wpPlan2_val (.slice (some ⟨g, f1, none⟩) (i - n) (c3 - n1)) rfl rfl rfl (fun w' hS => (exec_slice_from TS _ _ rfl TL 1 Try.underlying24 infoTL1 (some ⟨g, 0, none⟩) (i + 1) c3 n1 .i64 (fun h => by cases h) rfl rfl (by have := HN1.out; omega) hgc).trans (by rw [HF1.out.1, HN1.out, Nat.add_sub_add_right])) (fun K hK => ?_)
          go_simp
          refine hK _ ?_
          clear hK K
          iterate 2 (apply wpPlan2_val; (case ho => rfl); (case hst => rfl); (case hw => rfl); (case hv => intro w' hS; go_simp; first | done | rfl); intro K hK; go_simp; refine hK _ ?_; clear hK K)
          refine wpPlan2_val (.slice (some ⟨g, n, none⟩) (i + 1 - n) (c3 - n)) rfl rfl rfl (fun w' hS => (exec_slice_from TS _ _ rfl TL 1 Try.underlying24 infoTL1 (some ⟨g, 0, none⟩) (i + 1) c3 n .i64 (fun h => by cases h) rfl rfl (by omega) hgc).trans (by rw [if_neg (by omega)]; simp [Addr.add_off])) (fun K hK => ?_)
          go_simp
          refine hK _ ?_
          clear hK K
          have hdr : Blk w5.drew g (sv G0 ++ z.1 :: R) TL := HBK.out.1
          have hcl := HBK.out.2.2.2
          have hcm := HBK.out.2.2.1
          refine wpPlan2_list rfl rfl rfl (fun K hK => ?_)
          refine wpList_copy_part rfl _ _ TS TS rfl TL 1 Try.underlying24 infoTL1 g f1 (i - n) (c3 - n1) rfl TL _ hdr _ rfl (i + 1 - n) _ (Rd.blk hdr (by omega) (by omega) (by omega)) (by rw [Nat.min_eq_right (by omega)]; have := HF1.out.2; omega) (ins_one (by rw [sv_len]; exact HG.out.2.1) hni (sv_one (fun y hy => HG.out.2.2 y (List.mem_append.2 (.inl hy))))) ?_
          intro w6 hcp hch hsz2
          clear hdr
          go_simp
          simp only [wpList]
          refine hK _ _ (fun _ => trivial) ?_
          clear hK K
          refine wpPlan2_nil ?_
          simp only [Qn]
          have hk6 : Kp w5 w6 := Kp.chg (show Chg (fun k => k = g) w5 w6 from Chg.drewN' (n := 1) hch) (fun k hk => by subst hk; exact ⟨_, _, _, HBK.out.1, by decide⟩)
          have hb6' : Blk w6 g' (tvs o ++ .string ⟨#[]⟩ :: R') TSt := Blk.chg (show Blk w5.drew g' _ TSt from HBK'.out.1) hch (fun e => HGG.out e.symm)
          have HB6 := hid (HB5.out.drew.trans (hch.below (fun k hk => by subst hk; exact HBK.out.2.1) (by have := HB5.out.size; simpa using this)))
          have HBK2 := hid (And.intro hb6' HBK'.out.2)
          have HCP := hid hcp
          have HG6 := hid (fun y hy => (HG.out.2.2 y hy).kp hk6)
          clear hk6 hb6' hcp hch hsz2 hcl hcm
          go_wp2_with fail
          refine wp_region_plan2 (fun w' => True) (fun j => !([7].contains j)) (fun j => false) (fun j => false)
            [0, 1, 2, 3, 4, 5, 6, 7] (by kernel_rfl) (by kernel_rfl) rfl (by kernel_rfl) (by kernel_rfl) trivial ?_
          iterate 3 (apply wpPlan2_val; (case ho => rfl); (case hst => rfl); (case hw => rfl); (case hv => intro w' hS; go_simp; first | done | rfl); intro K hK; go_simp; refine hK _ ?_; clear hK K)
          refine wpPlan2_val (.slice (some ⟨g', f2, none⟩) (i - n) (c5 - n1)) rfl rfl rfl (fun w' hS => (exec_slice_from TSs _ _ rfl TSt 1 Try.underlying45 infoSt1 (some ⟨g', 0, none⟩) (i + 1) c5 n1 .i64 (fun h => by cases h) rfl rfl (by have := HN1.out; omega) hg'c).trans (by rw [HF2.out.1, HN1.out, Nat.add_sub_add_right])) (fun K hK => ?_)
          go_simp
          refine hK _ ?_
          clear hK K
          iterate 2 (apply wpPlan2_val; (case ho => rfl); (case hst => rfl); (case hw => rfl); (case hv => intro w' hS; go_simp; first | done | rfl); intro K hK; go_simp; refine hK _ ?_; clear hK K)
          refine wpPlan2_val (.slice (some ⟨g', n, none⟩) (i + 1 - n) (c5 - n)) rfl rfl rfl (fun w' hS => (exec_slice_from TSs _ _ rfl TSt 1 Try.underlying45 infoSt1 (some ⟨g', 0, none⟩) (i + 1) c5 n .i64 (fun h => by cases h) rfl rfl (by omega) hg'c).trans (by rw [if_neg (by omega)]; simp [Addr.add_off])) (fun K hK => ?_)
          go_simp
          refine hK _ ?_
          clear hK K
          have hdr : Blk w6.drew g' (tvs o ++ .string ⟨#[]⟩ :: R') TSt := HBK2.out.1
          have hcl := HBK2.out.2.2.2
          have hcm := HBK2.out.2.2.1
          refine wpPlan2_list rfl rfl rfl (fun K hK => ?_)
          refine wpList_copy_part rfl _ _ TSs TSs rfl TSt 1 Try.underlying45 infoSt1 g' f2 (i - n) (c5 - n1) rfl TSt _ hdr _ rfl (i + 1 - n) _ (Rd.blk hdr (by omega) (by omega) (by omega)) (by rw [Nat.min_eq_right (by omega)]; have := HF2.out.2; omega) (ins_one (by unfold tvs; rw [List.length_map]; exact HK.out) hni (tvs_one o)) ?_
          intro w7 hcp hch hsz2
          clear hdr
          go_simp
          simp only [wpList]
          refine hK _ _ (fun _ => trivial) ?_
          clear hK K
          refine wpPlan2_nil ?_
          simp only [Qn]
          have hk7 : Kp w6 w7 := Kp.chg (show Chg (fun k => k = g') w6 w7 from Chg.drewN' (n := 1) hch) (fun k hk => by subst hk; exact ⟨_, _, _, HBK2.out.1, by decide⟩)
          have hb7 := Blk.chg (show Blk w6.drew g _ TL from HCP.out) hch (fun e => HGG.out e)
          have HB7 := hid (HB6.out.drew.trans (hch.below (fun k hk => by subst hk; exact HBK2.out.2.1) (by have := HB6.out.size; simpa using this)))
          have HCP' := hid hcp
          have HCP2 := hid hb7
          have HG7 := hid (fun y hy => (HG6.out y hy).kp hk7)
          have hcell : w7.cell? ⟨bl, ol + i, none⟩ = some (.slice pu x.length cu) := (HB7.out.cell (p := ⟨bl, ol + i, none⟩) HC0.out.1).trans HC0.out.2.1
          have hb8 := (Below.refl w7.heap.size w7).alloc (Nat.le_refl _) (Obj.cells #[] TP)
          have hcell8 : (w7.alloc (Obj.cells #[] TP)).cell? ⟨bl, ol + i, none⟩ = some (.slice pu x.length cu) := (hb8.cell (p := ⟨bl, ol + i, none⟩) (World.block_lt_of_cell? w7 _ hcell)).trans hcell
          have HB8 := hid hb8
          clear hk7 hb7 hcp hch hsz2 hcl hcm hcell hb8
          go_wp2_with (at_builtin; refine wp_keep ?_)
          refine hid ?_
          have hsx : SolAt (w7.alloc (Obj.cells #[] TP)) (.slice pu x.length cu) x := HC0.out.2.2.new (HB7.out.trans (HB8.out.mono HB7.out.size))
          refine wpList_append_rd rfl _ _ TL rfl w7.heap.size TP _ 5 72 Try.underlying27 infoP rfl (by decide) _ 0 [] rfl (own_empty w7 TP 5 _ (Nat.le_refl _)) _ x.length (pcs x) rfl hsx.1 (pcs_one x) (by have := HOX.out.len; simp only [maxLen]; omega) (by have := HOX.out.len; omega) (by simp) ?_
          intro p9 c9 w9 ho9 hg9 _
          have hb9 : Below w7.heap.size w7 w9 := ((Below.refl w7.heap.size w7).alloc (Nat.le_refl _) _).grown hg9 (by simp) (by intro k hk; cases hk; exact Nat.le_refl _)
          rw [Nat.zero_add] at ho9 ⊢
          rw [List.nil_append] at ho9
          have hx9 : SolAt w9 (.slice p9 x.length c9) x := SolAt.of_own ho9
          have h9a : Blk w9 g _ TL := Blk.chg (fp := NoFp) HCP2.out (Chg.new hb9 NoFp) (fun h => h)
          have h9b : Blk w9 g' _ TSt := Blk.chg (fp := NoFp) HCP'.out (Chg.new hb9 NoFp) (fun h => h)
          have HB9 := hid (HB7.out.trans (hb9.mono HB7.out.size))
          have HG9 := hid (fun y hy => (HG7.out y hy).new hb9)
          have HX9 := hid hx9
          have H9A := hid h9a
          have H9B := hid h9b
          have hfa := h9a.frozen n
          have hfb := h9b.frozen n
          have hla : (splice (sv G0 ++ z.1 :: R) f1 ((((sv G0 ++ z.1 :: R).drop n).take ((i + 1 - n) * 1)).take (min (i + 1 - n) (i - n) * 1))).length = c3 := by
            rw [splice_len _ _ _ (by have := HF1.out.2; have := HBK.out.2.2.2; have := hgc; simp only [List.length_take, List.length_drop]; omega)]
            exact HBK.out.2.2.2
          have hlb : (splice (tvs o ++ .string ⟨#[]⟩ :: R') f2 ((((tvs o ++ .string ⟨#[]⟩ :: R').drop n).take ((i + 1 - n) * 1)).take (min (i + 1 - n) (i - n) * 1))).length = c5 := by
            rw [splice_len _ _ _ (by have := HF2.out.2; have := HBK2.out.2.2.2; have := hg'c; simp only [List.length_take, List.length_drop]; omega)]
            exact HBK2.out.2.2.2
          obtain ⟨va, hca⟩ : ∃ va, w9.cell? ⟨g, n, none⟩ = some va := ⟨_, (h9a.cell n).trans (List.getElem?_eq_getElem (by rw [hla]; omega))⟩
          obtain ⟨vb, hcb⟩ : ∃ vb, w9.cell? ⟨g', n, none⟩ = some vb := ⟨_, (h9b.cell n).trans (List.getElem?_eq_getElem (by rw [hlb]; omega))⟩
          have HLA := hid (And.intro hla hlb)
          have hg1 : ¬ g = g' := HGG.out
          have hg2 : ¬ g' = g := fun e => HGG.out e.symm
          clear ho9 hg9 hb9 hsx hcell8 hx9 h9a h9b hla hlb
          go_wp2_with fail
          case roundEnd =>
            have hfin := rsort_fin HGG.out HBK.out.2.1 HBK'.out.2.1 HG.out.1 HG.out.2.1 HK.out HPQ.out HP.out HTX.out hni HF1.out.2.1 HF2.out.2.1 H9A.out H9B.out hgc hg'c HBK.out.2.2.1 HBK'.out.2.2.1 HBK.out.2.2.2 HBK'.out.2.2.2 (fun y hy => HG9.out y (List.mem_append.2 (.inl hy))) HX9.out HB9.out
            have hl3 : (PP ++ x :: Q).length = i + 1 := by
              have h1 := HK.out
              rw [HPQ.out] at h1
              simp only [List.length_append, List.length_cons] at h1 ⊢; omega
            exact ⟨⟨i + 1, some ⟨g, 0, none⟩, c3, some ⟨g', 0, none⟩, c5, PP ++ x :: Q, rfl, rfl, by go_num, by omega, hid HFIN.out, hid hl3, hid hfin.1, hid hfin.2.1, hid hfin.2.2⟩, by simp [intOf]; omega⟩
    · have hlt2 : ¬ (i : Int) < (L.length : Int) := by omega
      obtain rfl : L.length = i := by omega
      rw [List.take_length] at HS
      have hoo := HS.out
      subst hoo
      go_wp2_with fail
      go_ret
      exact ⟨p1, c1, rfl, HO.out, HB.out⟩
end Go.Proofs.Ytkhdadbbgfjcgaa
