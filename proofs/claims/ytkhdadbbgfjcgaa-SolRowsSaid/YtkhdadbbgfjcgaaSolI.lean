/- slices.Clone, slices.Insert of pairs. -/
import Derived.Test.YtkhdadbbgfjcgaaSolW
import Derived.Lib.SliceRun
import Derived.Lib.AppendZerosOnto
import Derived.Lib.AppendZeros
import Derived.Lib.Overlaps
import Derived.StillTailTactics
namespace Go.Proofs.Ytkhdadbbgfjcgaa
open Go.RowKit
set_option linter.unusedVariables false

section
variable {P : Program}
/-- append of a slice of another name -/
theorem run_append_type (w : World) (t u ty e e' : TypeId) (ht : P.underlying t = some (.slice e)) (hu : P.underlying u = some (.slice e')) (v x : Value) :
    (Builtin.append_ #[t, u] ty #[v, x]).run P w = (Builtin.append_ #[t, t] ty #[v, x]).run P w := by
  cases v <;> simp [Builtin.append_, run_underlying ht, run_underlying hu]
theorem wpList_append_rd2 {w : World} {ops : Array Oper} {rest : List Oper} {o : Oper} {a : Act} {Q : Exit → Act → World → Prop} (hgd : o.guard = none) (s x : Operand) (t u : TypeId)
    (ho : o.op = .call { callee := .builtin .append, args := #[s, x], argTypes := #[t, u] })
    (base : Nat) (e e' : TypeId) (z : Value) (size bytes : Nat) (ht : P.underlying t = some (.slice e)) (hu : P.underlying u = some (.slice e'))
    (hinf : (P.info? e).map (fun i => (i.zero, i.size, i.bytes)) = some (some z, size, bytes)) (hzs : z.cells.size = size) (hsz : 0 < size)
    (v : Value) (n : Nat) (xs : List Value) (hs : a.eval s = v) (hown : w.ownsRow base e size v n xs)
    (xv : Value) (m : Nat) (news : List Value) (hx : a.eval x = xv) (hrd : Rd w size xv m news) (h1 : ∀ u ∈ news, u.oneCell' = true)
    (h63 : n + m ≤ maxLen) (hbytes : (n + m) * bytes ≤ 140737488355328) (hbase : base ≤ w.heap.size)
    (h : ∀ (p' : Option Addr) (c' : Nat) w', w'.ownsRow base e size (.slice p' (n + m) c') (n + m) (xs ++ news) → w.grownBy w' v.ownBlock → (Value.ownBlock (.slice p' (n + m) c') = v.ownBlock ∨ Value.ownBlock (.slice p' (n + m) c') = some w.heap.size) → wpList P ops Q rest (a.put o.dst (.slice p' (n + m) c')) w') :
    wpList P ops Q (o :: rest) a w := by
  refine wpList_plain hgd fun K hK => ?_
  obtain ⟨v', w', hr, h2, h3, h4⟩ := run_append_rd (P := P) w base t o.type e z size bytes ht hinf hzs hsz v n xs hown xv m news hrd h1 h63 hbytes hbase
  rw [← run_append_type w t u o.type e e' ht hu] at hr
  unfold Oper.wp execOp
  simp only [ho, Go.resolve, invoke, builtin, Sem.run_bind, Sem.run_pure, Result.andThen_ok, List.map_toArray, List.map_cons, List.map_nil, hs, hx, hr]
  obtain ⟨p', c', rfl⟩ : ∃ p' c', v' = .slice p' (n + m) c' := by
    rcases h2.2 with ⟨h5, h6⟩ | ⟨g, cap, cur, h5, _⟩
    · exact ⟨none, 0, by rw [h5, h6]⟩
    · exact ⟨_, _, h5⟩
  exact hK _ _ (h p' c' w' h2 h3 h4)
theorem wpStill_slice_from {w : World} {ops : Array Oper} {rest : List Oper} {o : Oper} {a : Act} {Q : Act → Prop} (hgd : o.guard = none) (t e : TypeId) (x l : Operand) (ho : o.op = .slice t x (some l) none none)
    (size : Nat) (ht : P.underlying t = some (.slice e)) (hsz : (P.info? e).map (·.size) = some size) (g off n cap lo : Nat) (L : Int) (hx : a.eval x = .slice (some ⟨g, off, none⟩) n cap) (hl : a.eval l = .int .i64 L) (hL : L = (lo : Int)) (h1 : lo ≤ n) (h2 : n ≤ cap) (h3 : lo < cap)
    (h : wpStill P ops w Q rest (a.put o.dst (.slice (some ⟨g, off + lo * size, none⟩) (n - lo) (cap - lo)))) : wpStill P ops w Q (o :: rest) a := by
  refine wpStill_step fun K hK => ?_
  subst hL
  have hr := run_slice_rd (P := P) w t e size ht hsz (some ⟨g, off, none⟩) n cap lo n (fun h => by cases h) h1 h2 (some (.int .i64 (lo : Int))) none (.inr ⟨_, rfl⟩) (.inl ⟨rfl, rfl⟩)
  rw [if_neg (by omega), Option.map_some, Addr.add_off _ rfl] at hr
  rw [if_pos (by simp [Region.wanted, hgd])]
  unfold Oper.still execOp
  simp only [ho, hx, hl, hr, Option.map_some, Option.map_none, Sem.run_bind, Sem.run_pure, Result.andThen_ok, Oper.stillUpon]
  exact ⟨trivial, hK _ h⟩
theorem run_copy_part (w : World) (dT sT ty e : TypeId) (size : Nat) (hu : P.underlying dT = some (.slice e)) (hsz : (P.info? e).map (·.size) = some size)
    (g off dLen dCap : Nat) (T : TypeId) (cur : List Value) (hg : Blk w g cur T) (sv : Value) (sn : Nat) (xs : List Value) (hrd : Rd w size sv sn xs) (hfit : off + min sn dLen * size ≤ cur.length) (h1 : ∀ u ∈ xs.take (min sn dLen * size), u.oneCell' = true) :
    (Builtin.copy_ #[dT, sT] ty #[.slice (some ⟨g, off, none⟩) dLen dCap, sv]).run P w = .ok (goInt (min sn dLen)) (w.setRow g (splice cur off (xs.take (min sn dLen * size))).toArray) := by
  obtain ⟨i, hi, rfl⟩ := Option.map_eq_some_iff.1 hsz
  obtain ⟨hl, p, cap, rfl, h2, h3, h4, h5⟩ := hrd
  have hlt : (xs.take (min sn dLen * i.size)).length = min sn dLen * i.size := by
    have := Nat.mul_le_mul_right i.size (Nat.min_le_left sn dLen)
    simp; omega
  have hf : (Builtin.firstCells i.size (min sn dLen) (.slice p sn cap)).run P w = .ok (xs.take (min sn dLen * i.size)).toArray w := by
    cases p with
    | none =>
      have := h4 rfl
      obtain rfl : sn = 0 := by omega
      simp [Builtin.firstCells]
    | some a =>
      refine run_firstCells_some w i.size _ a _ _ _ hlt (fun j v hv => ?_)
      rw [List.getElem?_take] at hv
      split at hv
      · obtain ⟨hs, hc⟩ := h5 a rfl j v hv
        rw [Addr.add_off a hs]; exact hc
      · cases hv
  have hst := run_storeCells_blk (P := P) w g off T cur (xs.take (min sn dLen * i.size)) hg (by rw [hlt]; exact hfit) h1
  have hmin : Nat.min sn dLen = min sn dLen := rfl
  have hcast : ((min sn dLen : Nat) : Int) = min (sn : Int) (dLen : Int) := by omega
  simp [Builtin.copy_, run_underlying hu, sizeOf, typeInfo, hi, Builtin.lenOf, hmin, hf, hst]
  rw [hcast]

theorem wpList_copy_part {w : World} {ops : Array Oper} {rest : List Oper} {o : Oper} {a : Act} {Q : Exit → Act → World → Prop} (hgd : o.guard = none) (d s : Operand) (dT sT : TypeId)
    (ho : o.op = .call { callee := .builtin .copy, args := #[d, s], argTypes := #[dT, sT] }) (e : TypeId) (size : Nat) (hu : P.underlying dT = some (.slice e)) (hsz : (P.info? e).map (·.size) = some size)
    (g off dLen dCap : Nat) (hd : a.eval d = .slice (some ⟨g, off, none⟩) dLen dCap) (T : TypeId) (cur : List Value) (hg : Blk w g cur T)
    (sv : Value) (hs : a.eval s = sv) (sn : Nat) (xs : List Value) (hrd : Rd w size sv sn xs) (hfit : off + min sn dLen * size ≤ cur.length) (h1 : ∀ u ∈ xs.take (min sn dLen * size), u.oneCell' = true)
    (h : ∀ w', Blk w' g (splice cur off (xs.take (min sn dLen * size))) T → Chg (fun k => k = g) w w' → w'.heap.size = w.heap.size → wpList P ops Q rest (a.put o.dst (goInt (min sn dLen))) w') :
    wpList P ops Q (o :: rest) a w := by
  refine wpList_plain hgd fun K hK => ?_
  have hr := run_copy_part (P := P) w dT sT o.type e size hu hsz g off dLen dCap T cur hg sv sn xs hrd hfit h1
  unfold Oper.wp execOp
  simp only [ho, Go.resolve, invoke, builtin, Sem.run_bind, Sem.run_pure, Result.andThen_ok, List.map_toArray, List.map_cons, List.map_nil, hd, hs, hr]
  exact hK _ _ (h _ (setRow_blk hg) (Chg.setRow (fp := fun k => k = g) _ rfl _) (setRow_size _ _ _))

end

theorem own_empty (w : World) (T : TypeId) (size : Nat) (base : Nat) (hb : base ≤ w.heap.size) :
    (w.alloc (.cells #[] T)).ownsRow base T size (.slice (some ⟨w.heap.size, 0, none⟩) 0 0) 0 [] :=
  ⟨by simp, .inr ⟨_, _, _, rfl, hb, heap_alloc_new w _, Nat.le_refl _, Nat.zero_le _, by simp, by simp⟩⟩

/-- a row of pairs of the call's own -/
def OwnP (B0 : Nat) (w : World) (v : Value) (s : Sl) : Prop := w.ownsRow B0 TP 5 v s.length (pcs s)
theorem OwnP.sol {B0 : Nat} {w : World} {v : Value} {s : Sl} (h : OwnP B0 w v s) : SolAt w v s := SolAt.of_own h
theorem OwnP.shape {B0 : Nat} {w : World} {v : Value} {s : Sl} (h : OwnP B0 w v s) : ∃ p c, v = .slice p s.length c := h.sol.shape

set_option maxRecDepth 100000 in
theorem cloneP_any (s : Sl) (v : Value) (w : World) (hs : SolAt w v s) (hl : s.length ≤ 1000) :
    Calls Try.prog 39 #[v] w fun e w' => ∃ p c, e = .returned (.slice p s.length c) ∧ OwnP w.heap.size w' (.slice p s.length c) s ∧ Below w.heap.size w w' := by
  obtain ⟨p, c, rfl⟩ := hs.shape
  have HS := hid hs
  cases p with
  | none =>
    have h0 : s.length = 0 ∧ c = 0 := by
      obtain ⟨⟨_, q, c', he, h1, _, h2, _⟩, _⟩ := hs
      cases he
      have := h2 rfl
      omega
    obtain ⟨hl0, rfl⟩ := h0
    have hs0 : s = [] := List.eq_nil_of_length_eq_zero hl0
    subst hs0
    clear hs
    have heq := Lib.run_eql_slice_nil (P := Try.prog) w TL _ none 0 0 0 0 Try.underlying27
    go_enter Try.func39, Try.ntmps39
    go_wp2_with fail
    go_ret
    exact ⟨none, 0, rfl, World.ownsRow_nil _ _ _ _, Below.refl _ _⟩
  | some a =>
    clear hs
    have heq := Lib.run_eql_slice_nil (P := Try.prog) w TL _ (some a) s.length c 0 0 Try.underlying27
    go_enter Try.func39, Try.ntmps39
    go_wp2_with (at_builtin; refine wp_keep ?_)
    refine hid ?_
    refine wpList_append_rd rfl _ _ TL rfl w.heap.size TP _ 5 72 Try.underlying27 infoP rfl (by decide) _ 0 [] rfl (own_empty w TP 5 _ (Nat.le_refl _)) _ s.length (pcs s) rfl (HS.out.new ((Below.refl _ _).alloc (Nat.le_refl _) _)).1 (pcs_one s) (by simp only [maxLen]; omega) (by omega) (by simp) ?_
    intro p2 c2 w2 ho2 hg2 _
    have hb : Below w.heap.size w w2 := ((Below.refl w.heap.size w).alloc (Nat.le_refl _) _).grown hg2 (by simp) (by intro k hk; cases hk; exact Nat.le_refl _)
    rw [Nat.zero_add] at ho2 ⊢
    rw [List.nil_append] at ho2
    have HO := hid ho2
    have HB := hid hb
    clear ho2 hb hg2
    go_wp2_with fail
    go_ret
    exact ⟨p2, c2, rfl, HO.out, HB.out⟩

theorem rd_one {w : World} {gx : Nat} {q : Pr} (h : Blk w gx (pc q) TP) : Rd w 5 (.slice (some ⟨gx, 0, none⟩) 1 1) 1 (pc q) := by
  have h := Rd.blk (off := 0) (n := 1) (c := 1) (size := 5) h (Nat.le_refl _) one_le_maxLen (by rw [pc_length]; omega)
  simpa [pc] using h
theorem shape_blk {w : World} {g : Nat} {cur : List Value} {T : TypeId} (h : Blk w g cur T) : w.shape? g = some (T, cur.length) := by simp [World.shape?, h]
theorem shift_in (C Q : List Value) (a m : Nat) (hQ : Q.length = 5) (hC : a + m + 5 ≤ C.length) :
    splice (splice C (a + 5) ((C.drop a).take m)) a Q = C.take a ++ Q ++ ((C.drop a).take m ++ C.drop (a + m + 5)) := by
  have hD : ((C.drop a).take m).length = m := by rw [List.length_take, List.length_drop]; omega
  unfold splice
  rw [hD, hQ]
  rw [← List.append_assoc (C.take (a + 5))]
  have h1 : (C.take (a + 5) ++ (C.drop a).take m ++ C.drop (a + 5 + m)).take a = C.take a := by
    rw [List.append_assoc, List.take_append_of_le_length (by rw [List.length_take]; omega), List.take_take]
    congr 1; omega
  have h2 : (C.take (a + 5) ++ (C.drop a).take m ++ C.drop (a + 5 + m)).drop (a + 5) = (C.drop a).take m ++ C.drop (a + 5 + m) := by
    rw [List.append_assoc, List.drop_append_of_le_length (by rw [List.length_take]; omega), List.drop_of_length_le (by rw [List.length_take]; omega), List.nil_append]
  rw [h1, h2]
  simp only [List.append_assoc]
  congr 4; omega
theorem shift_mem {s : Sl} {cur : List Value} {k : Nat} {u : Value} (h : u ∈ ((((pcs s ++ cur).drop (k * 5)).take ((s.length + 1 - k) * 5)).take ((s.length - k) * 5))) : u ∈ pcs s := by
  rw [List.take_take, show min ((s.length - k) * 5) ((s.length + 1 - k) * 5) = (s.length - k) * 5 by omega] at h
  rcases Nat.lt_or_ge s.length k with hk | hk
  · rw [show s.length - k = 0 by omega] at h; simp at h
  · rw [List.drop_append_of_le_length (by rw [pcs_length]; omega), List.take_append_of_le_length (by rw [List.length_drop, pcs_length]; omega)] at h
    exact List.mem_of_mem_drop (List.mem_of_mem_take h)
theorem shift_fin (s : Sl) (q : Pr) (cur : List Value) (k : Nat) (hk : k < s.length) (hc : (s.length + 1) * 5 ≤ (pcs s ++ cur).length) :
    splice (splice (pcs s ++ cur) ((k + 1) * 5) ((((pcs s ++ cur).drop (k * 5)).take ((s.length + 1 - k) * 5)).take ((s.length - k) * 5))) (k * 5) (pc q) = pcs (s.take k ++ q :: s.drop k) ++ cur.drop 5 := by
  rw [List.take_take, show min ((s.length - k) * 5) ((s.length + 1 - k) * 5) = (s.length - k) * 5 by omega, show (k + 1) * 5 = k * 5 + 5 by omega,
    shift_in _ _ _ _ (pc_length q) (by omega)]
  rw [List.take_append_of_le_length (l₁ := pcs s) (by rw [pcs_length]; omega), pcs_take, List.drop_append_of_le_length (by rw [pcs_length]; omega), pcs_drop,
    List.take_append_of_le_length (by rw [pcs_length, List.length_drop]; omega), List.take_of_length_le (l := pcs (s.drop k)) (by rw [pcs_length, List.length_drop]; omega)]
  rw [show k * 5 + (s.length - k) * 5 + 5 = (pcs s).length + 5 by rw [pcs_length]; omega, List.drop_append, pcs_append, pcs_cons]
  rw [List.drop_of_length_le (by omega : (pcs s).length ≤ (pcs s).length + 5), List.nil_append, show (pcs s).length + 5 - (pcs s).length = 5 by omega]
  simp only [List.append_assoc]
theorem OwnP.of_blk {B0 : Nat} {w : World} {g cap : Nat} {s : Sl} {cur : List Value} (hB : B0 ≤ g) (h : Blk w g (pcs s ++ cur) TP) (hn : s.length ≤ cap) (hm : cap ≤ maxLen) (hc : (pcs s ++ cur).length = cap * 5) : OwnP B0 w (.slice (some ⟨g, 0, none⟩) s.length cap) s :=
  ⟨pcs_length s, .inr ⟨g, cap, _, rfl, hB, h, hn, hm, by simpa using hc, by
    rw [List.toList_toArray, List.take_append_of_le_length (l₁ := pcs s) (by rw [pcs_length]; exact Nat.le_refl _), List.take_of_length_le (l := pcs s) (by rw [pcs_length]; exact Nat.le_refl _)]⟩⟩
theorem splice_at (A Z Q : List Value) : splice (A ++ Z) A.length Q = A ++ (Q ++ Z.drop Q.length) := by
  unfold splice
  rw [List.take_left, List.drop_append, List.drop_of_length_le (by omega : A.length ≤ A.length + Q.length), List.nil_append, show A.length + Q.length - A.length = Q.length by omega]
theorem SolAt.kp2 {w w' : World} {fp : Nat → Prop} {v : Value} {s : Sl} (h : SolAt w v s) (hc : Chg fp w w') (hf : ∀ g, fp g → v.ownBlock ≠ some g) : SolAt w' v s := by
  refine ⟨h.1.chg hc (fun _ g hg _ hp => hf g hp hg), fun h0 g hg => ?_⟩
  obtain ⟨cs, f, hk⟩ := h.2 h0 g hg
  exact ⟨cs, f, hc.heap hk (fun hp => hf g hp hg)⟩
theorem overlaps_run (w : World) (gx g o n c cx : Nat) (X C : List Value) (hX : Blk w gx X TP) (hg : Blk w g C TP) (hne : gx ≠ g) (hC : C.length ≠ 0) :
    (callFunc 59 #[.slice (some ⟨gx, 0, none⟩) 1 cx, .slice (some ⟨g, o, none⟩) n c]).run Try.prog w = .ok (.value (.bool false)) w := by
  rw [run_callFunc_extern Try.func59 (by kernel_rfl) (by kernel_rfl) (by kernel_rfl) (e := Extern.SlicesOverlaps.overlaps #[26, 26] #[4]) (by kernel_rfl)]
  rw [Lib.run_overlaps_apart w 26 4 TP Try.underlying26 5 (fun w => Try.sizeOf38 w) _ _ 1 cx n c hne TP TP _ _ (shape_blk hX) (shape_blk hg) hC (hX.frozen 0) (hX.frozen _)]
  rfl
theorem OwnP.open {B0 : Nat} {w : World} {v : Value} {s : Sl} (h : OwnP B0 w v s) : (v = .slice none 0 0 ∧ s = []) ∨ ∃ g cap cur, v = .slice (some ⟨g, 0, none⟩) s.length cap ∧ B0 ≤ g ∧ Blk w g (pcs s ++ cur) TP ∧ s.length ≤ cap ∧ cap ≤ maxLen ∧ (pcs s ++ cur).length = cap * 5 := by
  rcases h.2 with ⟨rfl, h0⟩ | ⟨g, cap, cur, rfl, hb, hg, hn, hm, hs, ht⟩
  · exact .inl ⟨rfl, List.eq_nil_of_length_eq_zero h0⟩
  · refine .inr ⟨g, cap, cur.toList.drop (s.length * 5), rfl, hb, ?_, hn, hm, ?_⟩
    · rw [← ht, List.take_append_drop]
      unfold Blk
      rw [Array.toArray_toList]; exact hg
    · rw [← ht, List.take_append_drop, Array.length_toList, hs]

set_option maxRecDepth 100000 in
set_option maxHeartbeats 2000000 in
theorem insertP_any (s : Sl) (q : Pr) (k : Nat) (B0 gx : Nat) (v : Value) (w : World) (hk : k ≤ s.length) (hs : OwnP B0 w v s) (hx : Blk w gx (pc q) TP) (hne : v.ownBlock ≠ some gx) (hB : B0 ≤ w.heap.size) (hl : s.length ≤ 1000) :
    Calls Try.prog 40 #[v, .int .i64 (k : Int), .slice (some ⟨gx, 0, none⟩) 1 1] w fun e w' => ∃ p c, e = .returned (.slice p (s.length + 1) c) ∧ OwnP B0 w' (.slice p (s.length + 1) c) (s.take k ++ q :: s.drop k) ∧ Below B0 w w' := by
  by_cases hkn : k = s.length
  · subst hkn
    obtain ⟨p, c, rfl⟩ := hs.shape
    have HS := hid hs
    have HX := hid hx
    clear hs hx
    have HX1 : Hid (Rd w 5 (.slice (some ⟨gx, 0, none⟩) 1 1) 1 (pc q)) := hid (rd_one HX.out)
    have hcc : (c : Int) = (s.length : Int) ∨ ¬ (c : Int) = (s.length : Int) := Classical.em _
    rcases hcc with hcc | hcc
    case' inl =>
      obtain rfl : c = s.length := by omega
    all_goals
      go_enter Try.func40, Try.ntmps40
      go_wp2_with (at_builtin; refine wp_keep ?_)
      refine hid ?_
      refine wpList_append_rd2 rfl _ _ TL 26 rfl B0 TP TP _ 5 72 Try.underlying27 Try.underlying26 infoP rfl (by decide) _ s.length (pcs s) rfl HS.out _ 1 (pc q) rfl HX1.out (pc_one q) (by simp only [maxLen]; omega) (by omega) hB ?_
      intro p2 c2 w2 ho2 hg2 _
      have hb : Below B0 w w2 := (Below.refl _ _).grown hg2 hB (fun k hk => (HS.out.lt k hk).1)
      have HO := hid ho2
      have HB := hid hb
      clear ho2 hb hg2
      go_wp2_with fail
      go_ret
      refine ⟨p2, c2, rfl, ?_, HB.out⟩
      unfold OwnP
      rw [List.take_length, List.drop_length, pcs_append, List.length_append]
      exact HO.out
  · rcases hs.open with ⟨_, rfl⟩ | ⟨g, cap, cur, rfl, hBg, hg, hnc, hcm, hcl⟩
    · simp at hk; exact absurd hk hkn
    · have HG := hid hg
      have HX := hid hx
      have hlt : k < s.length := by omega
      have hkc : (k : Int) ≤ (cap : Int) := by omega
      clear hg hx hs
      by_cases hroom : s.length + 1 ≤ cap
      · go_enter Try.func40, Try.ntmps40
        have hgx : gx ≠ g := fun e => hne (by rw [e]; rfl)
        have hov := overlaps_run w gx g ((k + 1) * 5) (s.length - k) (cap - (k + 1)) 1 _ _ HX.out HG.out hgx (by rw [hcl]; omega)
        go_wp2_with fail
        go_still_tail 8, (by kernel_rfl)
        refine wpStill_slice_from rfl TL TP _ _ rfl 5 Try.underlying27 (by kernel_rfl) g 0 (s.length + 1) cap (k + 1) _ rfl rfl (by first | rfl | (rw [IntKind.wrap_i64]; omega)) (by omega) hroom (by omega) ?_
        repeat still_step
        refine wpStill_slice_from rfl TL TP _ _ rfl 5 Try.underlying27 (by kernel_rfl) g 0 (s.length + 1) cap k _ rfl rfl (by first | rfl | (rw [IntKind.wrap_i64]; omega)) (by omega) hroom (by omega) ?_
        repeat still_step
        refine wpStill_nil ?_
        go_simp
        have hmin : min (s.length + 1 - k) (s.length - k) = s.length - k := by omega
        have hcl2 : (s.length + 1) * 5 ≤ (pcs s ++ cur).length := by rw [hcl]; omega
        refine wpList_copy_part rfl _ _ TL TL rfl TP 5 Try.underlying27 (by kernel_rfl) g ((k + 1) * 5) (s.length - k) (cap - (k + 1)) rfl TP (pcs s ++ cur) HG.out (.slice (some ⟨g, k * 5, none⟩) (s.length + 1 - k) (cap - k)) rfl _ _ (Rd.blk (off := k * 5) (size := 5) HG.out (by omega) (by omega) (by omega)) (by rw [hmin]; omega) (fun u hu => ?_) ?_
        · rw [hmin] at hu
          exact pcs_one s u (shift_mem hu)
        intro w2 hw2 hc2 hs2
        rw [hmin] at hw2
        have HX2 := hid (rd_one (Blk.chg (fp := fun k => k = g) (show Blk w.drew gx (pc q) TP from HX.out) hc2 (fun h => hgx h)))
        have HW2 := hid hw2
        have HC2 := hid hc2
        clear hw2 hc2
        have hcp := run_copy_part (P := Try.prog) w2 TL 26 3 TP 5 Try.underlying27 (by kernel_rfl) g (k * 5) (s.length + 1 - k) (cap - k) TP _ HW2.out (.slice (some ⟨gx, 0, none⟩) 1 1) _ _ HX2.out (by rw [length_splice _ _ _ (by rw [List.length_take, List.length_take, List.length_drop]; omega)]; omega) (fun u hu => pc_one q u (List.mem_of_mem_take hu))
        have hw3 := setRow_blk (new := splice (splice (pcs s ++ cur) ((k + 1) * 5) ((((pcs s ++ cur).drop (k * 5)).take ((s.length + 1 - k) * 5)).take ((s.length - k) * 5))) (k * 5) ((pc q).take (min 1 (s.length + 1 - k) * 5))) HW2.out
        have hc3 := Chg.setRow (fp := fun k => k = g) w2 rfl (splice (splice (pcs s ++ cur) ((k + 1) * 5) ((((pcs s ++ cur).drop (k * 5)).take ((s.length + 1 - k) * 5)).take ((s.length - k) * 5))) (k * 5) ((pc q).take (min 1 (s.length + 1 - k) * 5))).toArray
        generalize (w2.setRow g (splice (splice (pcs s ++ cur) ((k + 1) * 5) ((((pcs s ++ cur).drop (k * 5)).take ((s.length + 1 - k) * 5)).take ((s.length - k) * 5))) (k * 5) ((pc q).take (min 1 (s.length + 1 - k) * 5))).toArray) = w3 at hcp hw3 hc3
        rw [show min 1 (s.length + 1 - k) = 1 by omega, List.take_of_length_le (l := pc q) (by rw [pc_length]; omega), shift_fin s q cur k hlt hcl2] at hw3
        have HF := hid (OwnP.of_blk (cap := cap) hBg hw3 (by simp; omega) hcm (by rw [List.length_append, pcs_length, List.length_append, List.length_cons, List.length_take, List.length_drop, List.length_drop]; rw [List.length_append, pcs_length] at hcl; omega))
        have HB := hid (((Below.refl B0 w).drew.trans (HC2.out.below (fun k h => by rw [h]; exact hBg) (by simpa using hB))).trans (hc3.below (fun k h => by rw [h]; exact hBg) (by rw [hs2]; simpa using hB)))
        clear hw3 hc3
        go_wp2_with fail
        go_ret
        refine ⟨_, _, rfl, ?_, HB.out⟩
        have h := HF.out
        rwa [show (s.take k ++ q :: s.drop k).length = s.length + 1 by simp; omega] at h
      · go_enter Try.func40, Try.ntmps40
        obtain ⟨i0, hi0, hz0, hz1, hz2⟩ := info_parts infoP
        have hst : SolAt w (.slice (some ⟨g, 0, none⟩) s.length cap) s := (OwnP.of_blk hBg HG.out hnc hcm hcl).sol
        have hold : (Builtin.firstCells i0.size k (.slice (some ⟨g, 0, none⟩) k cap)).run Try.prog w.drew = .ok (pcs (s.take k)).toArray w.drew := by
          rw [hz1]
          refine run_firstCells_some w.drew 5 _ ⟨g, 0, none⟩ _ _ _ (by rw [pcs_length, List.length_take]; omega) (fun j u hu => ?_)
          rw [Addr.add_off _ rfl]
          have h1 : (pcs s)[j]? = some u := by
            have hj := (List.getElem?_eq_some_iff.1 hu).1
            rw [pcs_length, List.length_take] at hj
            rw [← pcs_take, List.getElem?_take] at hu
            rw [if_pos (by omega)] at hu
            exact hu
          show w.cell? ⟨g, 0 + j, none⟩ = some u
          rw [HG.out.cell, Nat.zero_add, List.getElem?_append_left (List.getElem?_eq_some_iff.1 h1).1]
          exact h1
        have hgrow := Lib.run_append_grow_zeros (P := Try.prog) w TL 3 TL TP i0 _ .i64 .i64 Try.underlying27 Try.underlying3 hi0 hz0 (some ⟨g, 0, none⟩) k cap (pcs (s.take k)) hold (s.length + 1 - k) (by omega) (by rw [hz1]; omega) (by omega) (by omega) (by rw [hz2]; omega) (growslice_fits (by omega) (by rw [hz2]; omega))
        rw [show k + (s.length + 1 - k) = s.length + 1 by omega, show (((s.length + 1 - k : Nat)) : Int) = (s.length : Int) + 1 - (k : Int) by omega] at hgrow
        have hge := grownCap_ge w (s.length + 1) cap TP
        have hgm : grownCap w (s.length + 1) cap TP ≤ maxLen := grownCap_le_maxLen w (s.length + 1) cap TP (by simp only [maxLen]; omega)
        generalize hGC : grownCap w (s.length + 1) cap TP = GC at hgrow hge hgm
        obtain ⟨Z, hZ, hZl⟩ : ∃ Z : List Value, (pcs (s.take k)).toArray ++ Builtin.zeroCells (Value.agg #[.string ⟨#[]⟩, .int .i64 0, .string ⟨#[]⟩, .string ⟨#[]⟩, .string ⟨#[]⟩]).cells (s.length + 1 - k) ++ Builtin.zeroCells (Value.agg #[.string ⟨#[]⟩, .int .i64 0, .string ⟨#[]⟩, .string ⟨#[]⟩, .string ⟨#[]⟩]).cells (GC - (s.length + 1)) = (pcs (s.take k) ++ Z).toArray ∧ Z.length = (GC - k) * 5 := by
          refine ⟨(Builtin.zeroCells (Value.agg #[.string ⟨#[]⟩, .int .i64 0, .string ⟨#[]⟩, .string ⟨#[]⟩, .string ⟨#[]⟩]).cells (s.length + 1 - k)).toList ++ (Builtin.zeroCells (Value.agg #[.string ⟨#[]⟩, .int .i64 0, .string ⟨#[]⟩, .string ⟨#[]⟩, .string ⟨#[]⟩]).cells (GC - (s.length + 1))).toList, by simp, ?_⟩
          simp only [List.length_append, Array.length_toList, size_zeroCells, Value.cells, List.size_toArray, List.length_cons, List.length_nil]
          omega
        rw [hZ] at hgrow
        have hkl : (pcs (s.take k)).length = k * 5 := by rw [pcs_length, List.length_take]; omega
        have HGR := hid hgrow
        have HZL := hid hZl
        have HST := hid hst
        have hGk : k < GC := by omega
        have hGk2 : k + 1 < GC := by omega
        have hgx : gx < w.heap.size := HX.out.lt
        clear hgrow hZ hZl hst hold hi0 hz0 hz1 hz2 hGC
        go_wp2_with (at_builtin; refine wp_keep ?_)
        refine hid ?_
        refine Lib.wpList_append_run w rfl _ _ _ _ rfl _ _ rfl rfl _ _ HGR.out ?_
        have hb1 : Below w.heap.size w (w.drew.alloc (.cells (pcs (s.take k) ++ Z).toArray TP)) := (Below.refl _ _).drew.alloc (by simp) _
        have hw1 : Blk (w.drew.alloc (.cells (pcs (s.take k) ++ Z).toArray TP)) w.heap.size (pcs (s.take k) ++ Z) TP := heap_alloc_new w.drew _
        generalize w.drew.alloc (.cells (pcs (s.take k) ++ Z).toArray TP) = w1 at hb1 hw1 ⊢
        have HX1 := hid (rd_one (Blk.chg (fp := NoFp) HX.out (Chg.new hb1 NoFp) (fun h => h)))
        have HS1 := hid (HST.out.new hb1)
        have HW1 := hid hw1
        have HB1 := hid hb1
        have hl1 : w.heap.size < w1.heap.size := hw1.lt
        clear hb1 hw1
        have hcp := run_copy_part (P := Try.prog) w1 TL 26 3 TP 5 Try.underlying27 (by kernel_rfl) w.heap.size (k * 5) (s.length + 1 - k) (GC - k) TP _ HW1.out (.slice (some ⟨gx, 0, none⟩) 1 1) _ _ HX1.out (by rw [List.length_append, hkl, HZL.out]; omega) (fun u hu => pc_one q u (List.mem_of_mem_take hu))
        rw [show min 1 (s.length + 1 - k) = 1 by omega, List.take_of_length_le (l := pc q) (by rw [pc_length]; omega), ← hkl, splice_at, hkl] at hcp
        have hw2 := setRow_blk (new := pcs (s.take k) ++ (pc q ++ Z.drop (pc q).length)) HW1.out
        have hc2 := Chg.setRow (fp := fun k => k = w.heap.size) w1 rfl (pcs (s.take k) ++ (pc q ++ Z.drop (pc q).length)).toArray
        have hs2 := setRow_size w1 w.heap.size (pcs (s.take k) ++ (pc q ++ Z.drop (pc q).length)).toArray
        generalize w1.setRow w.heap.size (pcs (s.take k) ++ (pc q ++ Z.drop (pc q).length)).toArray = w2 at hcp hw2 hc2 hs2
        have hst2 : SolAt w2 (.slice (some ⟨g, 0, none⟩) s.length cap) s := HS1.out.kp2 hc2 (by rintro _ rfl; intro e; cases e; exact absurd HG.out.lt (Nat.lt_irrefl _))
        have HW2 := hid hw2
        have HS2 := hid hst2
        have HC2 := hid hc2
        clear hw2 hst2 hc2
        go_wp2_with fail
        go_still_tail 8, (by kernel_rfl)
        refine wpStill_slice_from rfl TL TP _ _ rfl 5 Try.underlying27 (by kernel_rfl) w.heap.size 0 (s.length + 1) GC (k + 1) _ rfl rfl (by first | rfl | (rw [IntKind.wrap_i64]; omega)) (by omega) hge (by omega) ?_
        repeat still_step
        refine wpStill_nil ?_
        go_simp
        rw [if_neg (show ¬ cap = k by omega)]
        have hsr := (slice_rd_of w2 5 _ _ _ _ HS2.out.1 k s.length hk (Nat.le_refl _)).1
        rw [if_neg (by omega), Option.map_some, Addr.add_off _ rfl, pcs_drop, Nat.zero_add, List.take_of_length_le (l := pcs (s.drop k)) (by rw [pcs_length, List.length_drop]; exact Nat.le_refl _)] at hsr
        refine wpList_copy_part rfl _ _ TL TL rfl TP 5 Try.underlying27 (by kernel_rfl) w.heap.size ((k + 1) * 5) (s.length - k) (GC - (k + 1)) rfl TP _ HW2.out (.slice (some ⟨g, k * 5, none⟩) (s.length - k) (cap - k)) rfl _ _ hsr (by simp only [List.length_append, hkl, pc_length, List.length_drop, HZL.out]; omega) (fun u hu => pcs_one _ u (List.mem_of_mem_take hu)) ?_
        intro w3 hw3 hc3 hs3
        have hw4 : Blk w3 w.heap.size (pcs (s.take k ++ q :: s.drop k) ++ (Z.drop 5).drop ((s.length - k) * 5)) TP := by
          have h := hw3
          rw [Nat.min_self, List.take_of_length_le (l := pcs (s.drop k)) (by rw [pcs_length, List.length_drop]; exact Nat.le_refl _), pc_length, ← List.append_assoc,
            show (k + 1) * 5 = (pcs (s.take k) ++ pc q).length by rw [List.length_append, hkl, pc_length]; omega, splice_at, pcs_length, List.length_drop] at h
          rw [pcs_append, pcs_cons, List.append_assoc, List.append_assoc]
          rw [List.append_assoc] at h
          exact h
        have hln : (s.take k ++ q :: s.drop k).length = s.length + 1 := by simp; omega
        have HF := hid (OwnP.of_blk (B0 := B0) (cap := GC) hB hw4 (by rw [hln]; exact hge) hgm (by rw [List.length_append, pcs_length, hln, List.length_drop, List.length_drop, HZL.out]; omega))
        have HB := hid (((HB1.out.mono hB).trans (HC2.out.below (B := B0) (fun k h => by rw [h]; exact hB) (by omega))).trans ((show Chg (fun k => k = w.heap.size) w2 w3 from ⟨hc3.os, hc3.tape, hc3.output, hc3.size, hc3.block⟩).below (B := B0) (fun k h => by rw [h]; exact hB) (by omega)))
        clear hw3 hw4 hc3 hsr
        go_wp2_with fail
        go_ret
        refine ⟨_, _, rfl, ?_, HB.out⟩
        have h := HF.out
        rwa [hln] at h
end Go.Proofs.Ytkhdadbbgfjcgaa
