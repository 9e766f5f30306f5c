/- slices.Insert of texts (out of the proof for pairs of chapter 16). slices.Insert of texts, as leaves want it; two slices of different blocks behind it. where a node that is too great is cut: plain laws. btree: node.cut: the walk. what a change makes of a tree: pages, tokens, rows: plain laws. -/
import Derived.Test.YtdilkgcoecipjaaM9
import Derived.Lib.SliceRun
import Derived.Lib.AppendZerosOnto
import Derived.Lib.AppendZeros
import Derived.Lib.Overlaps
import Derived.StillTailTactics
import Derived.Test.YtdilkgcoecipjaaM6
import Derived.Test.YtdilkgcoecipjaaM8
import Derived.Lib.MinMax
import Derived.Test.YtdilkgcoecipjaaM7
namespace Go.Proofs.Ytdilkgcoecipjaa
open Go.RowKit
set_option linter.unusedVariables false

section
variable {P : Program}
/-- append of a slice of another name -/
theorem run_append_type (w : World) (t u ty e e' : TypeId) (ht : P.underlying t = some (.slice e)) (hu : P.underlying u = some (.slice e')) (v x : Value) :
    (Builtin.append_ #[t, u] ty #[v, x]).run P w = (Builtin.append_ #[t, t] ty #[v, x]).run P w := by
  cases v <;> simp [Builtin.append_, run_underlying ht, run_underlying hu]
theorem wpList_append_rd2 {w : World} {ops : Array Oper} {rest : List Oper} {o : Oper} {a : Act} {Q : Exit → Act → World → Prop} (hgd : o.guard = none) (s x : Operand) (t u : TypeId)
    (ho : o.op = .call { callee := .builtin .append, args := #[s, x], argTypes := #[t, u] })
    (base : Nat) (e e' : TypeId) (z : Value) (size bytes : Nat) (ht : P.underlying t = some (.slice e)) (hu : P.underlying u = some (.slice e'))
    (hinf : (P.info? e).map (fun i => (i.zero, i.size, i.bytes)) = some (some z, size, bytes)) (hzs : z.cells.size = size) (hsz : 0 < size)
    (v : Value) (n : Nat) (xs : List Value) (hs : a.eval s = v) (hown : w.ownsRow base e size v n xs)
    (xv : Value) (m : Nat) (news : List Value) (hx : a.eval x = xv) (hrd : Rd w size xv m news) (h1 : ∀ u ∈ news, u.oneCell' = true)
    (h63 : n + m ≤ maxLen) (hbytes : (n + m) * bytes ≤ 140737488355328) (hbase : base ≤ w.heap.size)
    (h : ∀ (p' : Option Addr) (c' : Nat) w', w'.ownsRow base e size (.slice p' (n + m) c') (n + m) (xs ++ news) → w.grownBy w' v.ownBlock → (Value.ownBlock (.slice p' (n + m) c') = v.ownBlock ∨ Value.ownBlock (.slice p' (n + m) c') = some w.heap.size) → wpList P ops Q rest (a.put o.dst (.slice p' (n + m) c')) w') :
    wpList P ops Q (o :: rest) a w := by
  refine wpList_plain hgd fun K hK => ?_
  obtain ⟨v', w', hr, h2, h3, h4⟩ := run_append_rd (P := P) w base t o.type e z size bytes ht hinf hzs hsz v n xs hown xv m news hrd h1 h63 hbytes hbase
  rw [← run_append_type w t u o.type e e' ht hu] at hr
  unfold Oper.wp execOp
  simp only [ho, Go.resolve, invoke, builtin, Sem.run_bind, Sem.run_pure, Result.andThen_ok, List.map_toArray, List.map_cons, List.map_nil, hs, hx, hr]
  obtain ⟨p', c', rfl⟩ : ∃ p' c', v' = .slice p' (n + m) c' := by
    rcases h2.2 with ⟨h5, h6⟩ | ⟨g, cap, cur, h5, _⟩
    · exact ⟨none, 0, by rw [h5, h6]⟩
    · exact ⟨_, _, h5⟩
  exact hK _ _ (h p' c' w' h2 h3 h4)
theorem wpStill_slice_from {w : World} {ops : Array Oper} {rest : List Oper} {o : Oper} {a : Act} {Q : Act → Prop} (hgd : o.guard = none) (t e : TypeId) (x l : Operand) (ho : o.op = .slice t x (some l) none none)
    (size : Nat) (ht : P.underlying t = some (.slice e)) (hsz : (P.info? e).map (·.size) = some size) (g off n cap lo : Nat) (L : Int) (hx : a.eval x = .slice (some ⟨g, off, none⟩) n cap) (hl : a.eval l = .int .i64 L) (hL : L = (lo : Int)) (h1 : lo ≤ n) (h2 : n ≤ cap) (h3 : lo < cap)
    (h : wpStill P ops w Q rest (a.put o.dst (.slice (some ⟨g, off + lo * size, none⟩) (n - lo) (cap - lo)))) : wpStill P ops w Q (o :: rest) a := by
  refine wpStill_step fun K hK => ?_
  subst hL
  have hr := run_slice_rd (P := P) w t e size ht hsz (some ⟨g, off, none⟩) n cap lo n (fun h => by cases h) h1 h2 (some (.int .i64 (lo : Int))) none (.inr ⟨_, rfl⟩) (.inl ⟨rfl, rfl⟩)
  rw [if_neg (by omega), Option.map_some, Addr.add_off _ rfl] at hr
  rw [if_pos (by simp [Region.wanted, hgd])]
  unfold Oper.still execOp
  simp only [ho, hx, hl, hr, Option.map_some, Option.map_none, Sem.run_bind, Sem.run_pure, Result.andThen_ok, Oper.stillUpon]
  exact ⟨trivial, hK _ h⟩
theorem run_copy_part (w : World) (dT sT ty e : TypeId) (size : Nat) (hu : P.underlying dT = some (.slice e)) (hsz : (P.info? e).map (·.size) = some size)
    (g off dLen dCap : Nat) (T : TypeId) (cur : List Value) (hg : Blk w g cur T) (sv : Value) (sn : Nat) (xs : List Value) (hrd : Rd w size sv sn xs) (hfit : off + min sn dLen * size ≤ cur.length) (h1 : ∀ u ∈ xs.take (min sn dLen * size), u.oneCell' = true) :
    (Builtin.copy_ #[dT, sT] ty #[.slice (some ⟨g, off, none⟩) dLen dCap, sv]).run P w = .ok (goInt (min sn dLen)) (w.setRow g (splice cur off (xs.take (min sn dLen * size))).toArray) := by
  obtain ⟨i, hi, rfl⟩ := Option.map_eq_some_iff.1 hsz
  obtain ⟨hl, p, cap, rfl, h2, h3, h4, h5⟩ := hrd
  have hlt : (xs.take (min sn dLen * i.size)).length = min sn dLen * i.size := by
    have := Nat.mul_le_mul_right i.size (Nat.min_le_left sn dLen)
    simp; omega
  have hf : (Builtin.firstCells i.size (min sn dLen) (.slice p sn cap)).run P w = .ok (xs.take (min sn dLen * i.size)).toArray w := by
    cases p with
    | none =>
      have := h4 rfl
      obtain rfl : sn = 0 := by omega
      simp [Builtin.firstCells]
    | some a =>
      refine run_firstCells_some w i.size _ a _ _ _ hlt (fun j v hv => ?_)
      rw [List.getElem?_take] at hv
      split at hv
      · obtain ⟨hs, hc⟩ := h5 a rfl j v hv
        rw [Addr.add_off a hs]; exact hc
      · cases hv
  have hst := run_storeCells_blk (P := P) w g off T cur (xs.take (min sn dLen * i.size)) hg (by rw [hlt]; exact hfit) h1
  have hmin : Nat.min sn dLen = min sn dLen := rfl
  have hcast : ((min sn dLen : Nat) : Int) = min (sn : Int) (dLen : Int) := by omega
  simp [Builtin.copy_, run_underlying hu, sizeOf, typeInfo, hi, Builtin.lenOf, hmin, hf, hst]
  rw [hcast]

theorem wpList_copy_part {w : World} {ops : Array Oper} {rest : List Oper} {o : Oper} {a : Act} {Q : Exit → Act → World → Prop} (hgd : o.guard = none) (d s : Operand) (dT sT : TypeId)
    (ho : o.op = .call { callee := .builtin .copy, args := #[d, s], argTypes := #[dT, sT] }) (e : TypeId) (size : Nat) (hu : P.underlying dT = some (.slice e)) (hsz : (P.info? e).map (·.size) = some size)
    (g off dLen dCap : Nat) (hd : a.eval d = .slice (some ⟨g, off, none⟩) dLen dCap) (T : TypeId) (cur : List Value) (hg : Blk w g cur T)
    (sv : Value) (hs : a.eval s = sv) (sn : Nat) (xs : List Value) (hrd : Rd w size sv sn xs) (hfit : off + min sn dLen * size ≤ cur.length) (h1 : ∀ u ∈ xs.take (min sn dLen * size), u.oneCell' = true)
    (h : ∀ w', Blk w' g (splice cur off (xs.take (min sn dLen * size))) T → Chg (fun k => k = g) w w' → w'.heap.size = w.heap.size → wpList P ops Q rest (a.put o.dst (goInt (min sn dLen))) w') :
    wpList P ops Q (o :: rest) a w := by
  refine wpList_plain hgd fun K hK => ?_
  have hr := run_copy_part (P := P) w dT sT o.type e size hu hsz g off dLen dCap T cur hg sv sn xs hrd hfit h1
  unfold Oper.wp execOp
  simp only [ho, Go.resolve, invoke, builtin, Sem.run_bind, Sem.run_pure, Result.andThen_ok, List.map_toArray, List.map_cons, List.map_nil, hd, hs, hr]
  exact hK _ _ (h _ (setRow_blk hg) (Chg.setRow (fp := fun k => k = g) _ rfl _) (setRow_size _ _ _))

end

abbrev TP : TypeId := TSt
abbrev TL : TypeId := TSs
theorem infoP : (Try.prog.info? TP).map (fun i => (i.zero, i.size, i.bytes)) = some (some (.string ⟨#[]⟩), 1, 16) := infoSt
def pc (q : Tx) : List Value := [.string (B q)]
abbrev pcs (s : List Tx) : List Value := tv s
theorem pc_length (q : Tx) : (pc q).length = 1 := rfl
theorem pc_one (q : Tx) : ∀ u ∈ pc q, u.oneCell' = true := by intro u hu; rw [List.mem_singleton.1 hu]; rfl
theorem pcs_length (s : List Tx) : (pcs s).length = s.length := by simp [tv]
theorem pcs_one (s : List Tx) : ∀ u ∈ pcs s, u.oneCell' = true := tv_one s
theorem pcs_take (s : List Tx) (k : Nat) : (pcs s).take k = pcs (s.take k) := by simp [tv]
theorem pcs_drop (s : List Tx) (k : Nat) : (pcs s).drop k = pcs (s.drop k) := by simp [tv]
theorem pcs_append (a b : List Tx) : pcs (a ++ b) = pcs a ++ pcs b := tv_app a b
theorem pcs_cons (q : Tx) (s : List Tx) : pcs (q :: s) = pc q ++ pcs s := rfl
def SolAt (w : World) (v : Value) (s : List Tx) : Prop := Rd w 1 v s.length (pcs s) ∧ True
theorem SolAt.new {w w' : World} {v : Value} {s : List Tx} (h : SolAt w v s) (hb : Below w.heap.size w w') : SolAt w' v s := ⟨h.1.new hb, trivial⟩
def OwnP (B0 : Nat) (w : World) (v : Value) (s : List Tx) : Prop := w.ownsRow B0 TP 1 v s.length (pcs s)
theorem OwnP.sol {B0 : Nat} {w : World} {v : Value} {s : List Tx} (h : OwnP B0 w v s) : SolAt w v s := ⟨Rd.of_own h, trivial⟩
theorem OwnP.shape {B0 : Nat} {w : World} {v : Value} {s : List Tx} (h : OwnP B0 w v s) : ∃ p c, v = .slice p s.length c := by
  obtain ⟨_, p, c, rfl, _⟩ := h.sol.1
  exact ⟨p, c, rfl⟩
theorem rd_one {w : World} {gx : Nat} {q : Tx} (h : Blk w gx (pc q) TP) : Rd w 1 (.slice (some ⟨gx, 0, none⟩) 1 1) 1 (pc q) := by
  have h := Rd.blk (off := 0) (n := 1) (c := 1) (size := 1) h (Nat.le_refl _) one_le_maxLen (by rw [pc_length]; omega)
  simpa [pc] using h
theorem shape_blk {w : World} {g : Nat} {cur : List Value} {T : TypeId} (h : Blk w g cur T) : w.shape? g = some (T, cur.length) := by simp [World.shape?, h]
theorem shift_in (C Q : List Value) (a m : Nat) (hQ : Q.length = 1) (hC : a + m + 1 ≤ C.length) :
    splice (splice C (a + 1) ((C.drop a).take m)) a Q = C.take a ++ Q ++ ((C.drop a).take m ++ C.drop (a + m + 1)) := by
  have hD : ((C.drop a).take m).length = m := by rw [List.length_take, List.length_drop]; omega
  unfold splice
  rw [hD, hQ]
  rw [← List.append_assoc (C.take (a + 1))]
  have h1 : (C.take (a + 1) ++ (C.drop a).take m ++ C.drop (a + 1 + m)).take a = C.take a := by
    rw [List.append_assoc, List.take_append_of_le_length (by rw [List.length_take]; omega), List.take_take]
    congr 1; omega
  have h2 : (C.take (a + 1) ++ (C.drop a).take m ++ C.drop (a + 1 + m)).drop (a + 1) = (C.drop a).take m ++ C.drop (a + 1 + m) := by
    rw [List.append_assoc, List.drop_append_of_le_length (by rw [List.length_take]; omega), List.drop_of_length_le (by rw [List.length_take]; omega), List.nil_append]
  rw [h1, h2]
  simp only [List.append_assoc]
  congr 4; omega
theorem shift_mem {s : List Tx} {cur : List Value} {k : Nat} {u : Value} (h : u ∈ ((((pcs s ++ cur).drop (k)).take ((s.length + 1 - k))).take ((s.length - k)))) : u ∈ pcs s := by
  rw [List.take_take, show min ((s.length - k)) ((s.length + 1 - k)) = (s.length - k) by omega] at h
  rcases Nat.lt_or_ge s.length k with hk | hk
  · rw [show s.length - k = 0 by omega] at h; simp at h
  · rw [List.drop_append_of_le_length (by rw [pcs_length]; omega), List.take_append_of_le_length (by rw [List.length_drop, pcs_length]; omega)] at h
    exact List.mem_of_mem_drop (List.mem_of_mem_take h)
theorem shift_fin (s : List Tx) (q : Tx) (cur : List Value) (k : Nat) (hk : k < s.length) (hc : (s.length + 1) ≤ (pcs s ++ cur).length) :
    splice (splice (pcs s ++ cur) ((k + 1)) ((((pcs s ++ cur).drop (k)).take ((s.length + 1 - k))).take ((s.length - k)))) (k) (pc q) = pcs (s.take k ++ q :: s.drop k) ++ cur.drop 1 := by
  rw [List.take_take, show min ((s.length - k)) ((s.length + 1 - k)) = (s.length - k) by omega, show (k + 1) = k + 1 by omega,
    shift_in _ _ _ _ (pc_length q) (by omega)]
  rw [List.take_append_of_le_length (l₁ := pcs s) (by rw [pcs_length]; omega), pcs_take, List.drop_append_of_le_length (by rw [pcs_length]; omega), pcs_drop,
    List.take_append_of_le_length (by rw [pcs_length, List.length_drop]; omega), List.take_of_length_le (l := pcs (s.drop k)) (by rw [pcs_length, List.length_drop]; omega)]
  rw [show k + (s.length - k) + 1 = (pcs s).length + 1 by rw [pcs_length]; omega, List.drop_append, pcs_append, pcs_cons]
  rw [List.drop_of_length_le (by omega : (pcs s).length ≤ (pcs s).length + 1), List.nil_append, show (pcs s).length + 1 - (pcs s).length = 1 by omega]
  simp only [List.append_assoc]
theorem OwnP.of_blk {B0 : Nat} {w : World} {g cap : Nat} {s : List Tx} {cur : List Value} (hB : B0 ≤ g) (h : Blk w g (pcs s ++ cur) TP) (hn : s.length ≤ cap) (hm : cap ≤ maxLen) (hc : (pcs s ++ cur).length = cap) : OwnP B0 w (.slice (some ⟨g, 0, none⟩) s.length cap) s :=
  ⟨by rw [pcs_length, Nat.mul_one], .inr ⟨g, cap, _, rfl, hB, h, hn, hm, by simpa using hc, by
    rw [Nat.mul_one, List.toList_toArray, List.take_append_of_le_length (l₁ := pcs s) (by rw [pcs_length]; exact Nat.le_refl _), List.take_of_length_le (l := pcs s) (by rw [pcs_length]; exact Nat.le_refl _)]⟩⟩
theorem splice_at (A Z Q : List Value) : splice (A ++ Z) A.length Q = A ++ (Q ++ Z.drop Q.length) := by
  unfold splice
  rw [List.take_left, List.drop_append, List.drop_of_length_le (by omega : A.length ≤ A.length + Q.length), List.nil_append, show A.length + Q.length - A.length = Q.length by omega]
theorem SolAt.kp2 {w w' : World} {fp : Nat → Prop} {v : Value} {s : List Tx} (h : SolAt w v s) (hc : Chg fp w w') (hf : ∀ g, fp g → v.ownBlock ≠ some g) : SolAt w' v s :=
  ⟨h.1.chg hc (fun _ g hg _ hp => hf g hp hg), trivial⟩
theorem overlaps_run (w : World) (gx g o n c cx : Nat) (X C : List Value) (hX : Blk w gx X TP) (hg : Blk w g C TP) (hne : gx ≠ g) (hC : C.length ≠ 0) :
    (callFunc 86 #[.slice (some ⟨gx, 0, none⟩) 1 cx, .slice (some ⟨g, o, none⟩) n c]).run Try.prog w = .ok (.value (.bool false)) w := by
  rw [run_callFunc_extern Try.func86 (by kernel_rfl) (by kernel_rfl) (by kernel_rfl) (e := Extern.SlicesOverlaps.overlaps #[33, 33] #[4]) (by kernel_rfl)]
  rw [Lib.run_overlaps_apart w 33 4 TP Try.underlying33 1 (fun w => Try.sizeOf9 w) _ _ 1 cx n c hne TP TP _ _ (shape_blk hX) (shape_blk hg) hC (hX.frozen 0) (hX.frozen _)]
  rfl
theorem OwnP.open {B0 : Nat} {w : World} {v : Value} {s : List Tx} (h : OwnP B0 w v s) : (v = .slice none 0 0 ∧ s = []) ∨ ∃ g cap cur, v = .slice (some ⟨g, 0, none⟩) s.length cap ∧ B0 ≤ g ∧ Blk w g (pcs s ++ cur) TP ∧ s.length ≤ cap ∧ cap ≤ maxLen ∧ (pcs s ++ cur).length = cap := by
  rcases h.2 with ⟨rfl, h0⟩ | ⟨g, cap, cur, rfl, hb, hg, hn, hm, hs, ht⟩
  · exact .inl ⟨rfl, List.eq_nil_of_length_eq_zero h0⟩
  · simp only [Nat.mul_one] at hs ht
    refine .inr ⟨g, cap, cur.toList.drop (s.length), rfl, hb, ?_, hn, hm, ?_⟩
    · rw [← ht, List.take_append_drop]
      unfold Blk
      rw [Array.toArray_toList]; exact hg
    · rw [← ht, List.take_append_drop, Array.length_toList, hs]

set_option maxRecDepth 100000 in
set_option maxHeartbeats 2000000 in
theorem insertP_any (s : List Tx) (q : Tx) (k : Nat) (B0 gx : Nat) (v : Value) (w : World) (hk : k ≤ s.length) (hs : OwnP B0 w v s) (hx : Blk w gx (pc q) TP) (hne : v.ownBlock ≠ some gx) (hB : B0 ≤ w.heap.size) (hl : s.length ≤ 1000) :
    Calls Try.prog 76 #[v, .int .i64 (k : Int), .slice (some ⟨gx, 0, none⟩) 1 1] w fun e w' => ∃ p c, e = .returned (.slice p (s.length + 1) c) ∧ OwnP B0 w' (.slice p (s.length + 1) c) (s.take k ++ q :: s.drop k) ∧ Below B0 w w' ∧ Chg (fun k => v.ownBlock = some k) w w' ∧ ∀ k, Value.ownBlock (.slice p (s.length + 1) c) = some k → v.ownBlock = some k ∨ w.heap.size ≤ k := by
  by_cases hkn : k = s.length
  · subst hkn
    obtain ⟨p, c, rfl⟩ := hs.shape
    have HS := hid hs
    have HX := hid hx
    clear hs hx
    have HX1 : Hid (Rd w 1 (.slice (some ⟨gx, 0, none⟩) 1 1) 1 (pc q)) := hid (rd_one HX.out)
    have hcc : (c : Int) = (s.length : Int) ∨ ¬ (c : Int) = (s.length : Int) := Classical.em _
    rcases hcc with hcc | hcc
    case' inl =>
      obtain rfl : c = s.length := by omega
    all_goals
      go_enter Try.func76, Try.ntmps76
      go_wp2_with (at_builtin; refine wp_keep ?_)
      refine hid ?_
      refine wpList_append_rd2 rfl _ _ TL 33 rfl B0 TP TP _ 1 16 Try.underlying33 Try.underlying33 infoP rfl (by decide) _ s.length (pcs s) rfl HS.out _ 1 (pc q) rfl HX1.out (pc_one q) (by simp only [maxLen]; omega) (by omega) hB ?_
      intro p2 c2 w2 ho2 hg2 hv2
      have HCG := hid (Chg.grown hg2)
      have HVV := hid (show ∀ k, Value.ownBlock (.slice p2 (s.length + 1) c2) = some k → Value.ownBlock (.slice p s.length 0) = some k ∨ w.heap.size ≤ k from fun k hk => by
        rcases hv2 with h | h
        · rw [show Value.ownBlock (.slice p2 (s.length + 1) c2) = Value.ownBlock (.slice p s.length 0) from h.trans (by cases p <;> rfl)] at hk
          exact .inl hk
        · rw [h] at hk; injection hk with hk; exact .inr (by omega))
      have hb : Below B0 w w2 := (Below.refl _ _).grown hg2 hB (fun k hk => (HS.out.lt k hk).1)
      have HO := hid ho2
      have HB := hid hb
      clear ho2 hb hg2 hv2
      go_wp2_with fail
      go_ret
      refine ⟨p2, c2, rfl, ?_, HB.out, HCG.out, fun k hk => (HVV.out k hk).imp (fun h => by cases p <;> exact h) id⟩
      unfold OwnP
      rw [List.take_length, List.drop_length, pcs_append, List.length_append]
      exact HO.out
  · rcases hs.open with ⟨_, rfl⟩ | ⟨g, cap, cur, rfl, hBg, hg, hnc, hcm, hcl⟩
    · simp at hk; exact absurd hk hkn
    · have HG := hid hg
      have HX := hid hx
      have hlt : k < s.length := by omega
      have hkc : (k : Int) ≤ (cap : Int) := by omega
      clear hg hx hs
      by_cases hroom : s.length + 1 ≤ cap
      · go_enter Try.func76, Try.ntmps76
        have hgx : gx ≠ g := fun e => hne (by rw [e]; rfl)
        have hov := overlaps_run w gx g ((k + 1)) (s.length - k) (cap - (k + 1)) 1 _ _ HX.out HG.out hgx (by rw [hcl]; omega)
        go_wp2_with fail
        go_still_tail 8, (by kernel_rfl)
        refine wpStill_slice_from rfl TL TP _ _ rfl 1 Try.underlying33 (by kernel_rfl) g 0 (s.length + 1) cap (k + 1) _ rfl rfl (by first | rfl | (rw [IntKind.wrap_i64]; omega)) (by omega) hroom (by omega) ?_
        repeat still_step
        refine wpStill_slice_from rfl TL TP _ _ rfl 1 Try.underlying33 (by kernel_rfl) g 0 (s.length + 1) cap k _ rfl rfl (by first | rfl | (rw [IntKind.wrap_i64]; omega)) (by omega) hroom (by omega) ?_
        repeat still_step
        refine wpStill_nil ?_
        go_simp
        have hmin : min (s.length + 1 - k) (s.length - k) = s.length - k := by omega
        have hcl2 : (s.length + 1) ≤ (pcs s ++ cur).length := by rw [hcl]; omega
        refine wpList_copy_part rfl _ _ TL TL rfl TP 1 Try.underlying33 (by kernel_rfl) g ((k + 1)) (s.length - k) (cap - (k + 1)) rfl TP (pcs s ++ cur) HG.out (.slice (some ⟨g, k, none⟩) (s.length + 1 - k) (cap - k)) rfl _ _ (Rd.blk (off := k) (size := 1) HG.out (by omega) (by omega) (by omega)) (by rw [hmin]; omega) (fun u hu => ?_) ?_
        · rw [hmin] at hu
          simp only [Nat.mul_one] at hu
          exact pcs_one s u (shift_mem hu)
        intro w2 hw2 hc2 hs2
        rw [hmin] at hw2
        simp only [Nat.mul_one] at hw2
        have HX2 := hid (rd_one (Blk.chg (fp := fun k => k = g) (show Blk w.drew gx (pc q) TP from HX.out) hc2 (fun h => hgx h)))
        have HW2 := hid hw2
        have HC2 := hid hc2
        clear hw2 hc2
        have hcp := run_copy_part (P := Try.prog) w2 TL 33 3 TP 1 Try.underlying33 (by kernel_rfl) g (k) (s.length + 1 - k) (cap - k) TP _ HW2.out (.slice (some ⟨gx, 0, none⟩) 1 1) _ _ HX2.out (by rw [length_splice _ _ _ (by rw [List.length_take, List.length_take, List.length_drop]; omega)]; omega) (fun u hu => pc_one q u (List.mem_of_mem_take hu))
        simp only [Nat.mul_one] at hcp
        have hw3 := setRow_blk (new := splice (splice (pcs s ++ cur) ((k + 1)) ((((pcs s ++ cur).drop (k)).take ((s.length + 1 - k))).take ((s.length - k)))) (k) ((pc q).take (min 1 (s.length + 1 - k)))) HW2.out
        have hc3 := Chg.setRow (fp := fun k => k = g) w2 rfl (splice (splice (pcs s ++ cur) ((k + 1)) ((((pcs s ++ cur).drop (k)).take ((s.length + 1 - k))).take ((s.length - k)))) (k) ((pc q).take (min 1 (s.length + 1 - k)))).toArray
        generalize (w2.setRow g (splice (splice (pcs s ++ cur) ((k + 1)) ((((pcs s ++ cur).drop (k)).take ((s.length + 1 - k))).take ((s.length - k)))) (k) ((pc q).take (min 1 (s.length + 1 - k)))).toArray) = w3 at hcp hw3 hc3
        rw [show min 1 (s.length + 1 - k) = 1 by omega, List.take_of_length_le (l := pc q) (by rw [pc_length]; omega), shift_fin s q cur k hlt hcl2] at hw3
        have HF := hid (OwnP.of_blk (cap := cap) hBg hw3 (by simp; omega) hcm (by rw [List.length_append, pcs_length, List.length_append, List.length_cons, List.length_take, List.length_drop, List.length_drop]; rw [List.length_append, pcs_length] at hcl; omega))
        have HB := hid (((Below.refl B0 w).drew.trans (HC2.out.below (fun k h => by rw [h]; exact hBg) (by simpa using hB))).trans (hc3.below (fun k h => by rw [h]; exact hBg) (by rw [hs2]; simpa using hB)))
        have HCG := hid (show Chg (fun k => Value.ownBlock (.slice (some ⟨g, 0, none⟩) s.length cap) = some k) w w3 from ((show Chg (fun k => k = g) w w2 from ⟨HC2.out.os, HC2.out.tape, HC2.out.output, HC2.out.size, HC2.out.block⟩).trans hc3 (fun _ _ h => h)).mono (fun k _ h => by rw [h]; rfl))
        clear hw3 hc3
        go_wp2_with fail
        go_ret
        refine ⟨_, _, rfl, ?_, HB.out, HCG.out, fun k h => .inl h⟩
        have h := HF.out
        rwa [show (s.take k ++ q :: s.drop k).length = s.length + 1 by simp; omega] at h
      · go_enter Try.func76, Try.ntmps76
        obtain ⟨i0, hi0, hz0, hz1, hz2⟩ := info_parts infoP
        have hst : SolAt w (.slice (some ⟨g, 0, none⟩) s.length cap) s := (OwnP.of_blk hBg HG.out hnc hcm hcl).sol
        have hold : (Builtin.firstCells i0.size k (.slice (some ⟨g, 0, none⟩) k cap)).run Try.prog w.drew = .ok (pcs (s.take k)).toArray w.drew := by
          rw [hz1]
          refine run_firstCells_some w.drew 1 _ ⟨g, 0, none⟩ _ _ _ (by rw [pcs_length, List.length_take]; omega) (fun j u hu => ?_)
          rw [Addr.add_off _ rfl]
          have h1 : (pcs s)[j]? = some u := by
            have hj := (List.getElem?_eq_some_iff.1 hu).1
            rw [pcs_length, List.length_take] at hj
            rw [← pcs_take, List.getElem?_take] at hu
            rw [if_pos (by omega)] at hu
            exact hu
          show w.cell? ⟨g, 0 + j, none⟩ = some u
          rw [HG.out.cell, Nat.zero_add, List.getElem?_append_left (List.getElem?_eq_some_iff.1 h1).1]
          exact h1
        have hgrow := Lib.run_append_grow_zeros (P := Try.prog) w TL 3 TL TP i0 _ .i64 .i64 Try.underlying33 Try.underlying3 hi0 hz0 (some ⟨g, 0, none⟩) k cap (pcs (s.take k)) hold (s.length + 1 - k) (by omega) (by rw [hz1]; omega) (by omega) (by omega) (by rw [hz2]; omega) (growslice_fits (by omega) (by rw [hz2]; omega))
        rw [show k + (s.length + 1 - k) = s.length + 1 by omega, show (((s.length + 1 - k : Nat)) : Int) = (s.length : Int) + 1 - (k : Int) by omega] at hgrow
        have hge := grownCap_ge w (s.length + 1) cap TP
        have hgm : grownCap w (s.length + 1) cap TP ≤ maxLen := grownCap_le_maxLen w (s.length + 1) cap TP (by simp only [maxLen]; omega)
        generalize hGC : grownCap w (s.length + 1) cap TP = GC at hgrow hge hgm
        obtain ⟨Z, hZ, hZl⟩ : ∃ Z : List Value, (pcs (s.take k)).toArray ++ Builtin.zeroCells (Value.string ⟨#[]⟩).cells (s.length + 1 - k) ++ Builtin.zeroCells (Value.string ⟨#[]⟩).cells (GC - (s.length + 1)) = (pcs (s.take k) ++ Z).toArray ∧ Z.length = (GC - k) := by
          refine ⟨(Builtin.zeroCells (Value.string ⟨#[]⟩).cells (s.length + 1 - k)).toList ++ (Builtin.zeroCells (Value.string ⟨#[]⟩).cells (GC - (s.length + 1))).toList, by simp, ?_⟩
          simp only [List.length_append, Array.length_toList, size_zeroCells, Value.cells, List.size_toArray, List.length_cons, List.length_nil]
          omega
        rw [hZ] at hgrow
        have hkl : (pcs (s.take k)).length = k := by rw [pcs_length, List.length_take]; omega
        have HGR := hid hgrow
        have HZL := hid hZl
        have HST := hid hst
        have hGk : k < GC := by omega
        have hGk2 : k + 1 < GC := by omega
        have hgx : gx < w.heap.size := HX.out.lt
        clear hgrow hZ hZl hst hold hi0 hz0 hz1 hz2 hGC
        go_wp2_with (at_builtin; refine wp_keep ?_)
        refine hid ?_
        refine Lib.wpList_append_run w rfl _ _ _ _ rfl _ _ rfl rfl _ _ HGR.out ?_
        have hb1 : Below w.heap.size w (w.drew.alloc (.cells (pcs (s.take k) ++ Z).toArray TP)) := (Below.refl _ _).drew.alloc (by simp) _
        have hw1 : Blk (w.drew.alloc (.cells (pcs (s.take k) ++ Z).toArray TP)) w.heap.size (pcs (s.take k) ++ Z) TP := heap_alloc_new w.drew _
        generalize w.drew.alloc (.cells (pcs (s.take k) ++ Z).toArray TP) = w1 at hb1 hw1 ⊢
        have HX1 := hid (rd_one (Blk.chg (fp := NoFp) HX.out (Chg.new hb1 NoFp) (fun h => h)))
        have HS1 := hid (HST.out.new hb1)
        have HW1 := hid hw1
        have HB1 := hid hb1
        have hl1 : w.heap.size < w1.heap.size := hw1.lt
        clear hb1 hw1
        have hcp := run_copy_part (P := Try.prog) w1 TL 33 3 TP 1 Try.underlying33 (by kernel_rfl) w.heap.size (k) (s.length + 1 - k) (GC - k) TP _ HW1.out (.slice (some ⟨gx, 0, none⟩) 1 1) _ _ HX1.out (by rw [List.length_append, hkl, HZL.out]; omega) (fun u hu => pc_one q u (List.mem_of_mem_take hu))
        rw [show min 1 (s.length + 1 - k) = 1 by omega, List.take_of_length_le (l := pc q) (by rw [pc_length]; omega), show splice (pcs (s.take k) ++ Z) k (pc q) = pcs (s.take k) ++ (pc q ++ Z.drop (pc q).length) by have h := splice_at (pcs (s.take k)) Z (pc q); rwa [hkl] at h] at hcp
        have hw2 := setRow_blk (new := pcs (s.take k) ++ (pc q ++ Z.drop (pc q).length)) HW1.out
        have hc2 := Chg.setRow (fp := fun k => k = w.heap.size) w1 rfl (pcs (s.take k) ++ (pc q ++ Z.drop (pc q).length)).toArray
        have hs2 := setRow_size w1 w.heap.size (pcs (s.take k) ++ (pc q ++ Z.drop (pc q).length)).toArray
        generalize w1.setRow w.heap.size (pcs (s.take k) ++ (pc q ++ Z.drop (pc q).length)).toArray = w2 at hcp hw2 hc2 hs2
        have hst2 : SolAt w2 (.slice (some ⟨g, 0, none⟩) s.length cap) s := HS1.out.kp2 hc2 (by rintro _ rfl; intro e; cases e; exact absurd HG.out.lt (Nat.lt_irrefl _))
        have HW2 := hid hw2
        have HS2 := hid hst2
        have HC2 := hid hc2
        clear hw2 hst2 hc2
        go_wp2_with fail
        go_still_tail 8, (by kernel_rfl)
        refine wpStill_slice_from rfl TL TP _ _ rfl 1 Try.underlying33 (by kernel_rfl) w.heap.size 0 (s.length + 1) GC (k + 1) _ rfl rfl (by first | rfl | (rw [IntKind.wrap_i64]; omega)) (by omega) hge (by omega) ?_
        repeat still_step
        refine wpStill_nil ?_
        go_simp
        rw [if_neg (show ¬ cap = k by omega)]
        have hsr := (slice_rd_of w2 1 _ _ _ _ HS2.out.1 k s.length hk (Nat.le_refl _)).1
        simp only [Nat.mul_one] at hsr
        rw [if_neg (by omega), Option.map_some, Addr.add_off _ rfl, pcs_drop, Nat.zero_add, List.take_of_length_le (l := pcs (s.drop k)) (by rw [pcs_length, List.length_drop]; exact Nat.le_refl _)] at hsr
        refine wpList_copy_part rfl _ _ TL TL rfl TP 1 Try.underlying33 (by kernel_rfl) w.heap.size ((k + 1)) (s.length - k) (GC - (k + 1)) rfl TP _ HW2.out (.slice (some ⟨g, k, none⟩) (s.length - k) (cap - k)) rfl _ _ hsr (by simp only [List.length_append, hkl, pc_length, List.length_drop, HZL.out]; omega) (fun u hu => pcs_one _ u (List.mem_of_mem_take hu)) ?_
        intro w3 hw3 hc3 hs3
        have hw4 : Blk w3 w.heap.size (pcs (s.take k ++ q :: s.drop k) ++ (Z.drop 1).drop ((s.length - k))) TP := by
          have h := hw3
          simp only [Nat.mul_one] at h
          rw [Nat.min_self, List.take_of_length_le (l := pcs (s.drop k)) (by rw [pcs_length, List.length_drop]; exact Nat.le_refl _), pc_length, ← List.append_assoc,
            show (k + 1) = (pcs (s.take k) ++ pc q).length by rw [List.length_append, hkl, pc_length], splice_at, pcs_length, List.length_drop] at h
          rw [pcs_append, pcs_cons, List.append_assoc, List.append_assoc]
          rw [List.append_assoc] at h
          exact h
        have hln : (s.take k ++ q :: s.drop k).length = s.length + 1 := by simp; omega
        have HF := hid (OwnP.of_blk (B0 := B0) (cap := GC) hB hw4 (by rw [hln]; exact hge) hgm (by rw [List.length_append, pcs_length, hln, List.length_drop, List.length_drop, HZL.out]; omega))
        have HB := hid (((HB1.out.mono hB).trans (HC2.out.below (B := B0) (fun k h => by rw [h]; exact hB) (by omega))).trans ((show Chg (fun k => k = w.heap.size) w2 w3 from ⟨hc3.os, hc3.tape, hc3.output, hc3.size, hc3.block⟩).below (B := B0) (fun k h => by rw [h]; exact hB) (by omega)))
        have HCG := hid (show Chg (fun k => Value.ownBlock (.slice (some ⟨g, 0, none⟩) s.length cap) = some k) w w3 from ((Chg.new HB1.out _).trans HC2.out (fun k hk h => by have h : k = w.heap.size := h; omega)).trans (show Chg (fun k => k = w.heap.size) w2 w3 from ⟨hc3.os, hc3.tape, hc3.output, hc3.size, hc3.block⟩) (fun k hk h => by have h : k = w.heap.size := h; omega))
        clear hw3 hw4 hc3 hsr
        go_wp2_with fail
        go_ret
        refine ⟨_, _, rfl, ?_, HB.out, HCG.out, fun k h => .inr (by cases h; exact Nat.le_refl _)⟩
        have h := HF.out
        rwa [hln] at h
end Go.Proofs.Ytdilkgcoecipjaa

namespace Go.Proofs.Ytdilkgcoecipjaa
open Go.RowKit
set_option linter.unusedVariables false

theorem insert_at (w : World) (B0 : Nat) (p : Option Addr) (n c : Nat) (s : List Tx) (k g : Nat) (q : Tx) (hs : s.length = n) (hk : k ≤ n) (hown : w.ownsRow B0 TSt 1 (.slice p n c) n (tv s)) (hx : Blk w g [.string (B q)] TSt) (hne : Value.ownBlock (.slice p n c) ≠ some g) (hB : B0 ≤ w.heap.size) (hn : n ≤ 1000) :
    Calls Try.prog 76 #[.slice p n c, .int .i64 (k : Int), .slice (some ⟨g, 0, none⟩) 1 1] w fun e w' => ∃ p' c', e = .returned (.slice p' (n + 1) c') ∧ w'.ownsRow B0 TSt 1 (.slice p' (n + 1) c') (n + 1) (tv (s.take k ++ q :: s.drop k)) ∧ Chg (fun x => Value.ownBlock (.slice p n c) = some x) w w' ∧
      ∀ x, Value.ownBlock (.slice p' (n + 1) c') = some x → Value.ownBlock (.slice p n c) = some x ∨ w.heap.size ≤ x := by
  subst hs
  refine (insertP_any s q k B0 g (.slice p s.length c) w hk hown hx hne hB hn).mono ?_
  rintro e w' ⟨p', c', rfl, ho, _, hc, hv⟩
  have hln : (s.take k ++ q :: s.drop k).length = s.length + 1 := by simp; omega
  unfold OwnP at ho
  rw [hln] at ho
  exact ⟨p', c', rfl, ho, hc, hv⟩
theorem neB_next2 {w : World} {v v' u : Value} (h : NeB u v) (hu : ∀ g, u.ownBlock = some g → g < w.heap.size) (hv : ∀ x, v'.ownBlock = some x → v.ownBlock = some x ∨ w.heap.size ≤ x) : NeB u v' := by
  intro g h1 h2
  rcases hv g h2 with h3 | h3
  · exact h g h1 h3
  · have := hu g h1; omega
end Go.Proofs.Ytdilkgcoecipjaa

namespace Go.Proofs.Ytdilkgcoecipjaa
set_option linter.unusedVariables false

theorem zip_take_ {α β : Type} : ∀ (i : Nat) (a : List α) (b : List β), (a.take i).zip (b.take i) = (a.zip b).take i
  | 0, _, _ => rfl
  | _ + 1, [], _ => by simp
  | _ + 1, _ :: _, [] => by simp
  | i + 1, x :: a, y :: b => by simp [zip_take_ i a b]
theorem zip_drop_ {α β : Type} : ∀ (i : Nat) (a : List α) (b : List β), (a.drop i).zip (b.drop i) = (a.zip b).drop i
  | 0, _, _ => rfl
  | _ + 1, [], _ => by simp
  | _ + 1, _ :: _, [] => by simp
  | i + 1, x :: a, y :: b => by simp [zip_drop_ i a b]
theorem costs_take (keys vals : List Tx) (i : Nat) : costs ⟨true, keys.take i, vals.take i, []⟩ = (costs ⟨true, keys, vals, []⟩).take i := by
  unfold costs
  rw [if_pos rfl, if_pos rfl]
  show ((keys.take i).zip (vals.take i)).map _ = _
  rw [zip_take_, List.map_take]
theorem costs_drop (keys vals : List Tx) (i : Nat) : costs ⟨true, keys.drop i, vals.drop i, []⟩ = (costs ⟨true, keys, vals, []⟩).drop i := by
  unfold costs
  rw [if_pos rfl, if_pos rfl]
  show ((keys.drop i).zip (vals.drop i)).map _ = _
  rw [zip_drop_, List.map_drop]
theorem costs_take_in (keys : List Tx) (kids kids' : List Nat) (i : Nat) : costs ⟨false, keys.take i, [], kids'⟩ = (costs ⟨false, keys, [], kids⟩).take i := by
  unfold costs
  rw [if_neg (by simp), if_neg (by simp)]
  show (keys.take i).map _ = _
  rw [List.map_take]
theorem costs_drop_in (keys : List Tx) (kids kids' : List Nat) (i : Nat) : costs ⟨false, keys.drop i, [], kids'⟩ = (costs ⟨false, keys, [], kids⟩).drop i := by
  unfold costs
  rw [if_neg (by simp), if_neg (by simp)]
  show (keys.drop i).map _ = _
  rw [List.map_drop]
theorem sum_split (l : List Nat) (i : Nat) : (l.take i).sum + (l.drop i).sum = l.sum := by rw [← List.sum_append, List.take_append_drop]
/-- what the program sums up on its way to the cut -/
def allC (n : Nd) (i : Nat) : Nat := 2 + ((costs n).take i).sum + (if n.leaf then 0 else 2 * i)
/-- a leaf that is too great, cut at the first key behind which half stands: both parts fit, both have a key -/
theorem cut_leaf {keys vals : List Tx} {i : Nat} (hv : vals.length = keys.length) (hc : ∀ x ∈ costs ⟨true, keys, vals, []⟩, x ≤ 152) (h1 : 504 < sizeP ⟨true, keys, vals, []⟩) (h2 : sizeP ⟨true, keys, vals, []⟩ ≤ 656)
    (hi : i < keys.length) (hlo : ∀ j, j < i → allC ⟨true, keys, vals, []⟩ (j + 1) < sizeP ⟨true, keys, vals, []⟩ / 2) (hhi : sizeP ⟨true, keys, vals, []⟩ / 2 ≤ allC ⟨true, keys, vals, []⟩ (i + 1)) :
    1 ≤ i ∧ sizeP ⟨true, keys.take i, vals.take i, []⟩ ≤ 504 ∧ sizeP ⟨true, keys.drop i, vals.drop i, []⟩ ≤ 504 := by
  have hlen : (costs ⟨true, keys, vals, []⟩).length = keys.length := costs_len2 (fun _ => hv)
  obtain ⟨x, hx⟩ : ∃ x, (costs ⟨true, keys, vals, []⟩)[i]? = some x := ⟨_, List.getElem?_eq_getElem (by omega)⟩
  have hxb := hc x (List.mem_of_getElem? hx)
  have hst := sum_take hx
  unfold allC at hlo hhi
  simp only [if_true] at hlo hhi
  have hsz : sizeP ⟨true, keys, vals, []⟩ = 2 + (costs ⟨true, keys, vals, []⟩).sum := by simp [sizeP]
  have hsa : sizeP ⟨true, keys.take i, vals.take i, []⟩ = 2 + ((costs ⟨true, keys, vals, []⟩).take i).sum := by simp [sizeP, costs_take]
  have hsb : sizeP ⟨true, keys.drop i, vals.drop i, []⟩ = 2 + ((costs ⟨true, keys, vals, []⟩).drop i).sum := by simp [sizeP, costs_drop]
  have hsp := sum_split (costs ⟨true, keys, vals, []⟩) i
  rw [hsa, hsb]
  rw [hsz] at h1 h2 hhi
  have hlo2 : i = 0 ∨ 2 + ((costs ⟨true, keys, vals, []⟩).take i).sum < sizeP ⟨true, keys, vals, []⟩ / 2 := by
    rcases i with _ | j
    · exact .inl rfl
    · have := hlo j (by omega)
      exact .inr (by omega)
  rw [hsz] at hlo2
  rcases hlo2 with rfl | hlo2
  · simp only [List.take_zero, List.sum_nil] at hst
    omega
  · refine ⟨?_, by omega, by omega⟩
    rcases i with _ | j
    · simp only [List.take_zero, List.sum_nil] at hst; omega
    · omega
/-- a node of kids that is too great -/
theorem cut_inner {keys : List Tx} {kids : List Nat} {i : Nat} (hk : kids.length = keys.length + 1) (hc : ∀ x ∈ costs ⟨false, keys, [], kids⟩, x ≤ 141) (h1 : 504 < sizeP ⟨false, keys, [], kids⟩) (h2 : sizeP ⟨false, keys, [], kids⟩ ≤ 647)
    (hi : i < keys.length) (hlo : ∀ j, j < i → allC ⟨false, keys, [], kids⟩ (j + 1) < sizeP ⟨false, keys, [], kids⟩ / 2) (hhi : sizeP ⟨false, keys, [], kids⟩ / 2 ≤ allC ⟨false, keys, [], kids⟩ (i + 1)) :
    1 ≤ i ∧ i + 1 < keys.length ∧ sizeP ⟨false, keys.take i, [], kids.take (i + 1)⟩ ≤ 504 ∧ sizeP ⟨false, keys.drop (i + 1), [], kids.drop (i + 1)⟩ ≤ 504 := by
  have hlen : (costs ⟨false, keys, [], kids⟩).length = keys.length := costs_len2 (fun h => by cases h)
  obtain ⟨x, hx⟩ : ∃ x, (costs ⟨false, keys, [], kids⟩)[i]? = some x := ⟨_, List.getElem?_eq_getElem (by omega)⟩
  have hxb := hc x (List.mem_of_getElem? hx)
  have hst := sum_take hx
  unfold allC at hlo hhi
  simp only [Bool.false_eq_true, if_false] at hlo hhi
  have hsz : sizeP ⟨false, keys, [], kids⟩ = 2 + 2 * (keys.length + 1) + (costs ⟨false, keys, [], kids⟩).sum := by simp [sizeP, hk]
  have hsa : sizeP ⟨false, keys.take i, [], kids.take (i + 1)⟩ = 2 + 2 * (i + 1) + ((costs ⟨false, keys, [], kids⟩).take i).sum := by
    unfold sizeP
    rw [costs_take_in keys kids, List.length_take, Nat.min_eq_left (by omega)]
  have hsb : sizeP ⟨false, keys.drop (i + 1), [], kids.drop (i + 1)⟩ = 2 + 2 * (keys.length - i) + ((costs ⟨false, keys, [], kids⟩).drop (i + 1)).sum := by
    unfold sizeP
    rw [costs_drop_in keys kids, List.length_drop, hk]
    omega
  have hsp := sum_split (costs ⟨false, keys, [], kids⟩) (i + 1)
  rw [hsa, hsb]
  rw [hsz] at h1 h2 hhi
  have hlo2 : i = 0 ∨ 2 + ((costs ⟨false, keys, [], kids⟩).take i).sum + 2 * i < sizeP ⟨false, keys, [], kids⟩ / 2 := by
    rcases i with _ | j
    · exact .inl rfl
    · have := hlo j (by omega)
      exact .inr (by omega)
  rw [hsz] at hlo2
  have hi1 : 1 ≤ i := by
    rcases i with _ | j
    · simp only [List.take_zero, List.sum_nil] at hst; omega
    · omega
  rcases hlo2 with rfl | hlo2
  · omega
  · refine ⟨hi1, ?_, by omega, by omega⟩
    rcases Nat.lt_or_ge (i + 1) keys.length with h | h
    · exact h
    · have h5 : ((costs ⟨false, keys, [], kids⟩).drop (i + 1)).sum = 0 := by rw [List.drop_eq_nil_of_le (by omega)]; rfl
      omega
end Go.Proofs.Ytdilkgcoecipjaa

namespace Go.Proofs.Ytdilkgcoecipjaa
open Go.RowKit
set_option linter.unusedVariables false

theorem allC_all {n : Nd} (hv : n.leaf = true → n.vals.length = n.keys.length) (hk : n.leaf = true → n.kids = []) (hk2 : n.leaf = false → n.kids.length = n.keys.length + 1) : sizeP n / 2 ≤ allC n n.keys.length := by
  unfold allC sizeP
  rw [List.take_of_length_le (by rw [costs_len2 hv]; exact Nat.le_refl _)]
  cases h : n.leaf
  · have := hk2 h; simp; omega
  · rw [hk h]; simp; omega

set_option maxRecDepth 100000 in
set_option maxHeartbeats 4000000 in
theorem cut_leaf_any (w : World) (n : Nd) (pk : Option Addr) (nk ck : Nat) (pv : Option Addr) (nv cv : Nat) (pd : Option Addr) (nc cd : Nat) (h : NdAt w true pk ck pv cv pd cd n) (hnk : n.keys.length = nk) (hnv : n.vals.length = nv) (hnc : n.kids.length = nc) (hv : n.leaf = true → n.vals.length = n.keys.length) (hkd : n.leaf = true → n.kids = []) (hkd2 : n.leaf = false → n.kids.length = n.keys.length + 1) (hs : sizeP n ≤ 100000) (h0 : 0 < nk) :
    Calls Try.prog 94 #[ndV true pk nk ck pv nv cv pd nc cd, .bool false] w fun e w' => ∃ i, e = .returned (.int .i64 ((min (max i 1) (nk - 1) : Nat) : Int)) ∧ i < nk ∧ (∀ j, j < i → allC n (j + 1) < sizeP n / 2) ∧ sizeP n / 2 ≤ allC n (i + 1) ∧ Below w.heap.size w w' := by
  have H := hid h
  have HVL := hid hv
  have hlf := h.lf
  have HNK := hid hnk
  have HNV := hid hnv
  have HNC := hid hnc
  have HALL := hid (allC_all hv hkd hkd2)
  have hkb : nk ≤ 100000 := by
    have h1 := len_le_sum _ (costs_pos n)
    rw [costs_len2 hv, hnk] at h1
    unfold sizeP at hs
    omega
  have HSB := hid (show ∀ i, i ≤ nk → allC n i ≤ 300002 from fun i hi => by
    have h1 := sum_take_le (costs n) i
    have h2 : (costs n).sum ≤ sizeP n := by unfold sizeP; omega
    unfold allC
    split <;> omega)
  clear h hv hnk hnv hnc hkd hkd2
  obtain ⟨hf, hhf⟩ : ∃ m, sizeP n / 2 = m := ⟨_, rfl⟩
  have hhf2 : ((sizeP n : Nat) : Int) / 2 = (hf : Int) := by omega
  have hhb : hf ≤ 100000 := by omega
  rw [hhf] at HALL ⊢
  have HHF := hid hhf
  clear hhf
  unfold ndV
  go_enter Try.func94, Try.ntmps94
  go_wp2_with fail
  obtain ⟨w1, hw1⟩ : ∃ x, w.alloc (.cells #[.bool true, .slice pk nk ck, .slice pv nv cv, .slice pd nc cd] 59) = x := ⟨_, rfl⟩
  have hb1 : Below w.heap.size w w1 := by rw [← hw1]; exact (Below.refl _ _).alloc (Nat.le_refl _) _
  have HT1 := hid (show Blk w1 w.heap.size [.bool true, .slice pk nk ck, .slice pv nv cv, .slice pd nc cd] TN by rw [← hw1]; exact heap_alloc_new _ _)
  have hs1 := hb1.size
  rw [hw1]
  clear hw1
  refine (size_any2 w1 n true pk nk ck pv nv cv pd nc cd (H.out.new hb1) HNK.out HNV.out HNC.out HVL.out hs).mono ?_
  rintro e2 w2 ⟨rfl, hb2⟩
  have HT2 := hid (HT1.out.chg (Chg.new hb2 NoFp) (fun h => h))
  have HB2 := hid (hb1.trans (hb2.mono hs1))
  obtain ⟨a0, a1, a2, a3, _, _, _, _⟩ := four_cells HT2.out
  clear hb1 hb2 HT1
  go_wp2_with fail
  try rw [hhf2]
  go_loopw [7, 26] (fun vo vi wr => ∃ (i o : Nat), vo = .int .i64 o ∧ vi = .int .i64 i ∧ i ≤ nk ∧ o ≤ 300002 ∧ Hid (o = allC n i) ∧ Hid (∀ j, j < i → allC n (j + 1) < hf) ∧ wr = w2) (fun vo vi _ => nk - (intOf vi).toNat)
  case atStart => exact ⟨0, 2, rfl, rfl, Nat.zero_le _, by omega, hid (by unfold allC; split <;> simp), hid (fun j h => by omega), rfl⟩
  case round =>
    obtain ⟨i, o, rfl, rfl, hi, ho, HO, HLO, rfl⟩ := hrel
    by_cases hlt : i < nk
    · have hlt2 : (i : Int) < (nk : Int) := by omega
      obtain ⟨bk, ok, rfl, hck0⟩ := rd_text H.out.keys (i := i) (by rw [HNK.out]; exact hlt)
      obtain ⟨k, hk⟩ : ∃ k, n.keys[i]'(by rw [HNK.out]; exact hlt) = k := ⟨_, rfl⟩
      rw [hk] at hck0
      have hlk := World.block_lt_of_cell? w _ hck0
      have hck : wr.cell? ⟨bk, ok + i, none⟩ = some (.string (B k)) := (HB2.out.cell (p := ⟨bk, ok + i, none⟩) hlk).trans hck0
      obtain ⟨bv, ov, rfl, hcv0⟩ := rd_text H.out.vals (i := i) (by rw [HVL.out hlf, HNK.out]; exact hlt)
      obtain ⟨u, hu⟩ : ∃ u, n.vals[i]'(by rw [HVL.out hlf, HNK.out]; exact hlt) = u := ⟨_, rfl⟩
      have hcs := sum_take (cost_leaf hlf (HVL.out hlf) (i := i) (by rw [HNK.out]; exact hlt))
      rw [hk, hu] at hcs
      rw [hu] at hcv0
      have hlv := World.block_lt_of_cell? w _ hcv0
      have hcv : wr.cell? ⟨bv, ov + i, none⟩ = some (.string (B u)) := (HB2.out.cell (p := ⟨bv, ov + i, none⟩) hlv).trans hcv0
      have hvi : (i : Int) < (nv : Int) := by have := HVL.out hlf; rw [HNK.out, HNV.out] at this; omega
      have hnx : allC n (i + 1) = allC n i + (1 + k.length) + (1 + u.length) := by unfold allC; rw [hcs, hlf]; simp only [if_true]; omega
      clear hu hcv0
      have hb3 := HSB.out (i + 1) hlt
      have hoe := HO.out
      obtain ⟨o2, ho2⟩ : ∃ m, allC n (i + 1) = m := ⟨_, rfl⟩
      have ho3 : (o : Int) + (1 + (k.length : Int)) + (1 + (u.length : Int)) = (o2 : Int) := by omega
      have ho4 : o2 ≤ 300002 := by omega
      have HO2 := hid ho2
      clear hcs hnx hck0 hk hb3 hoe ho2
      by_cases hge : hf ≤ o2
      · have hge2 : (hf : Int) ≤ (o2 : Int) := by omega
        have hmm : min (max (i : Int) 1) ((nk : Int) - 1) = ((min (max i 1) (nk - 1) : Nat) : Int) := by omega
        go_wp2_with fail
        go_ret
        exact ⟨i, rfl, hlt, HLO.out, by rw [HO2.out]; exact hge, HB2.out⟩
      · have hge2 : ¬ (hf : Int) ≤ (o2 : Int) := by omega
        go_wp2_with fail
        go_roundw
        case rel => exact ⟨i + 1, o2, by congr 1; try omega, by first | rfl | (congr 1; omega) | (congr 1), hlt, ho4, hid HO2.out.symm, hid (fun j hj => by
          rcases Nat.lt_or_ge j i with h | h
          · exact HLO.out j h
          · obtain rfl : j = i := by omega
            rw [HO2.out]; omega), by first | exact rfl | exact trivial⟩
        case measure => simp [intOf]; omega
    · have hlt2 : ¬ (i : Int) < (nk : Int) := by omega
      exfalso
      have h1 := HLO.out (i - 1) (by omega)
      have h2 := HALL.out
      rw [HNK.out] at h2
      rw [show i - 1 + 1 = nk by omega] at h1
      omega

set_option maxRecDepth 100000 in
set_option maxHeartbeats 4000000 in
theorem cut_inner_f (w : World) (n : Nd) (pk : Option Addr) (nk ck : Nat) (pv : Option Addr) (nv cv : Nat) (pd : Option Addr) (nc cd : Nat) (h : NdAt w false pk ck pv cv pd cd n) (hnk : n.keys.length = nk) (hnv : n.vals.length = nv) (hnc : n.kids.length = nc) (hv : n.leaf = true → n.vals.length = n.keys.length) (hkd : n.leaf = true → n.kids = []) (hkd2 : n.leaf = false → n.kids.length = n.keys.length + 1) (hs : sizeP n ≤ 100000) (h0 : 0 < nk) :
    Calls Try.prog 94 #[ndV false pk nk ck pv nv cv pd nc cd, .bool false] w fun e w' => ∃ i, e = .returned (.int .i64 ((min (max i 1) (nk - 1) : Nat) : Int)) ∧ i < nk ∧ (∀ j, j < i → allC n (j + 1) < sizeP n / 2) ∧ sizeP n / 2 ≤ allC n (i + 1) ∧ Below w.heap.size w w' := by
  have H := hid h
  have HVL := hid hv
  have hlf := h.lf
  have HNK := hid hnk
  have HNV := hid hnv
  have HNC := hid hnc
  have HALL := hid (allC_all hv hkd hkd2)
  have hkb : nk ≤ 100000 := by
    have h1 := len_le_sum _ (costs_pos n)
    rw [costs_len2 hv, hnk] at h1
    unfold sizeP at hs
    omega
  have HSB := hid (show ∀ i, i ≤ nk → allC n i ≤ 300002 from fun i hi => by
    have h1 := sum_take_le (costs n) i
    have h2 : (costs n).sum ≤ sizeP n := by unfold sizeP; omega
    unfold allC
    split <;> omega)
  clear h hv hnk hnv hnc hkd hkd2
  obtain ⟨hf, hhf⟩ : ∃ m, sizeP n / 2 = m := ⟨_, rfl⟩
  have hhf2 : ((sizeP n : Nat) : Int) / 2 = (hf : Int) := by omega
  have hhb : hf ≤ 100000 := by omega
  rw [hhf] at HALL ⊢
  have HHF := hid hhf
  clear hhf
  unfold ndV
  go_enter Try.func94, Try.ntmps94
  go_wp2_with fail
  obtain ⟨w1, hw1⟩ : ∃ x, w.alloc (.cells #[.bool false, .slice pk nk ck, .slice pv nv cv, .slice pd nc cd] 59) = x := ⟨_, rfl⟩
  have hb1 : Below w.heap.size w w1 := by rw [← hw1]; exact (Below.refl _ _).alloc (Nat.le_refl _) _
  have HT1 := hid (show Blk w1 w.heap.size [.bool false, .slice pk nk ck, .slice pv nv cv, .slice pd nc cd] TN by rw [← hw1]; exact heap_alloc_new _ _)
  have hs1 := hb1.size
  rw [hw1]
  clear hw1
  refine (size_any2 w1 n false pk nk ck pv nv cv pd nc cd (H.out.new hb1) HNK.out HNV.out HNC.out HVL.out hs).mono ?_
  rintro e2 w2 ⟨rfl, hb2⟩
  have HT2 := hid (HT1.out.chg (Chg.new hb2 NoFp) (fun h => h))
  have HB2 := hid (hb1.trans (hb2.mono hs1))
  obtain ⟨a0, a1, a2, a3, _, _, _, _⟩ := four_cells HT2.out
  clear hb1 hb2 HT1
  go_wp2_with fail
  try rw [hhf2]
  go_loopw [7, 26] (fun vo vi wr => ∃ (i o : Nat), vo = .int .i64 o ∧ vi = .int .i64 i ∧ i ≤ nk ∧ o ≤ 300002 ∧ Hid (o = allC n i) ∧ Hid (∀ j, j < i → allC n (j + 1) < hf) ∧ wr = w2) (fun vo vi _ => nk - (intOf vi).toNat)
  case atStart => exact ⟨0, 2, rfl, rfl, Nat.zero_le _, by omega, hid (by unfold allC; split <;> simp), hid (fun j h => by omega), rfl⟩
  case round =>
    obtain ⟨i, o, rfl, rfl, hi, ho, HO, HLO, rfl⟩ := hrel
    by_cases hlt : i < nk
    · have hlt2 : (i : Int) < (nk : Int) := by omega
      obtain ⟨bk, ok, rfl, hck0⟩ := rd_text H.out.keys (i := i) (by rw [HNK.out]; exact hlt)
      obtain ⟨k, hk⟩ : ∃ k, n.keys[i]'(by rw [HNK.out]; exact hlt) = k := ⟨_, rfl⟩
      rw [hk] at hck0
      have hlk := World.block_lt_of_cell? w _ hck0
      have hck : wr.cell? ⟨bk, ok + i, none⟩ = some (.string (B k)) := (HB2.out.cell (p := ⟨bk, ok + i, none⟩) hlk).trans hck0
      have hcs := sum_take (cost_inner hlf (i := i) (by rw [HNK.out]; exact hlt))
      rw [hk] at hcs
      have hnx : allC n (i + 1) = allC n i + (1 + k.length) + 2 := by unfold allC; rw [hcs, hlf]; simp only [Bool.false_eq_true, if_false]; omega
      have hb3 := HSB.out (i + 1) hlt
      have hoe := HO.out
      obtain ⟨o2, ho2⟩ : ∃ m, allC n (i + 1) = m := ⟨_, rfl⟩
      have ho3 : (o : Int) + (1 + (k.length : Int)) + 2 = (o2 : Int) := by omega
      have ho4 : o2 ≤ 300002 := by omega
      have HO2 := hid ho2
      clear hcs hnx hck0 hk hb3 hoe ho2
      by_cases hge : hf ≤ o2
      · have hge2 : (hf : Int) ≤ (o2 : Int) := by omega
        have hmm : min (max (i : Int) 1) ((nk : Int) - 1) = ((min (max i 1) (nk - 1) : Nat) : Int) := by omega
        go_wp2_with fail
        go_ret
        exact ⟨i, rfl, hlt, HLO.out, by rw [HO2.out]; exact hge, HB2.out⟩
      · have hge2 : ¬ (hf : Int) ≤ (o2 : Int) := by omega
        go_wp2_with fail
        go_roundw
        case rel => exact ⟨i + 1, o2, by congr 1; try omega, by first | rfl | (congr 1; omega) | (congr 1), hlt, ho4, hid HO2.out.symm, hid (fun j hj => by
          rcases Nat.lt_or_ge j i with h | h
          · exact HLO.out j h
          · obtain rfl : j = i := by omega
            rw [HO2.out]; omega), by first | exact rfl | exact trivial⟩
        case measure => simp [intOf]; omega
    · have hlt2 : ¬ (i : Int) < (nk : Int) := by omega
      exfalso
      have h1 := HLO.out (i - 1) (by omega)
      have h2 := HALL.out
      rw [HNK.out] at h2
      rw [show i - 1 + 1 = nk by omega] at h1
      omega

set_option maxRecDepth 100000 in
set_option maxHeartbeats 4000000 in
theorem cut_inner_t (w : World) (n : Nd) (pk : Option Addr) (nk ck : Nat) (pv : Option Addr) (nv cv : Nat) (pd : Option Addr) (nc cd : Nat) (h : NdAt w false pk ck pv cv pd cd n) (hnk : n.keys.length = nk) (hnv : n.vals.length = nv) (hnc : n.kids.length = nc) (hv : n.leaf = true → n.vals.length = n.keys.length) (hkd : n.leaf = true → n.kids = []) (hkd2 : n.leaf = false → n.kids.length = n.keys.length + 1) (hs : sizeP n ≤ 100000) (h0 : 0 < nk) :
    Calls Try.prog 94 #[ndV false pk nk ck pv nv cv pd nc cd, .bool true] w fun e w' => ∃ i, e = .returned (.int .i64 ((min (max i 1) (nk - 1) : Nat) : Int)) ∧ i < nk ∧ (∀ j, j < i → allC n (j + 1) < sizeP n / 2) ∧ sizeP n / 2 ≤ allC n (i + 1) ∧ Below w.heap.size w w' := by
  have H := hid h
  have HVL := hid hv
  have hlf := h.lf
  have HNK := hid hnk
  have HNV := hid hnv
  have HNC := hid hnc
  have HALL := hid (allC_all hv hkd hkd2)
  have hkb : nk ≤ 100000 := by
    have h1 := len_le_sum _ (costs_pos n)
    rw [costs_len2 hv, hnk] at h1
    unfold sizeP at hs
    omega
  have HSB := hid (show ∀ i, i ≤ nk → allC n i ≤ 300002 from fun i hi => by
    have h1 := sum_take_le (costs n) i
    have h2 : (costs n).sum ≤ sizeP n := by unfold sizeP; omega
    unfold allC
    split <;> omega)
  clear h hv hnk hnv hnc hkd hkd2
  obtain ⟨hf, hhf⟩ : ∃ m, sizeP n / 2 = m := ⟨_, rfl⟩
  have hhf2 : ((sizeP n : Nat) : Int) / 2 = (hf : Int) := by omega
  have hhb : hf ≤ 100000 := by omega
  rw [hhf] at HALL ⊢
  have HHF := hid hhf
  clear hhf
  unfold ndV
  go_enter Try.func94, Try.ntmps94
  go_wp2_with fail
  obtain ⟨w1, hw1⟩ : ∃ x, w.alloc (.cells #[.bool false, .slice pk nk ck, .slice pv nv cv, .slice pd nc cd] 59) = x := ⟨_, rfl⟩
  have hb1 : Below w.heap.size w w1 := by rw [← hw1]; exact (Below.refl _ _).alloc (Nat.le_refl _) _
  have HT1 := hid (show Blk w1 w.heap.size [.bool false, .slice pk nk ck, .slice pv nv cv, .slice pd nc cd] TN by rw [← hw1]; exact heap_alloc_new _ _)
  have hs1 := hb1.size
  rw [hw1]
  clear hw1
  refine (size_any2 w1 n false pk nk ck pv nv cv pd nc cd (H.out.new hb1) HNK.out HNV.out HNC.out HVL.out hs).mono ?_
  rintro e2 w2 ⟨rfl, hb2⟩
  have HT2 := hid (HT1.out.chg (Chg.new hb2 NoFp) (fun h => h))
  have HB2 := hid (hb1.trans (hb2.mono hs1))
  obtain ⟨a0, a1, a2, a3, _, _, _, _⟩ := four_cells HT2.out
  clear hb1 hb2 HT1
  go_wp2_with fail
  try rw [hhf2]
  go_loopw [7, 26] (fun vo vi wr => ∃ (i o : Nat), vo = .int .i64 o ∧ vi = .int .i64 i ∧ i ≤ nk ∧ o ≤ 300002 ∧ Hid (o = allC n i) ∧ Hid (∀ j, j < i → allC n (j + 1) < hf) ∧ wr = w2) (fun vo vi _ => nk - (intOf vi).toNat)
  case atStart => exact ⟨0, 2, rfl, rfl, Nat.zero_le _, by omega, hid (by unfold allC; split <;> simp), hid (fun j h => by omega), rfl⟩
  case round =>
    obtain ⟨i, o, rfl, rfl, hi, ho, HO, HLO, rfl⟩ := hrel
    by_cases hlt : i < nk
    · have hlt2 : (i : Int) < (nk : Int) := by omega
      obtain ⟨bk, ok, rfl, hck0⟩ := rd_text H.out.keys (i := i) (by rw [HNK.out]; exact hlt)
      obtain ⟨k, hk⟩ : ∃ k, n.keys[i]'(by rw [HNK.out]; exact hlt) = k := ⟨_, rfl⟩
      rw [hk] at hck0
      have hlk := World.block_lt_of_cell? w _ hck0
      have hck : wr.cell? ⟨bk, ok + i, none⟩ = some (.string (B k)) := (HB2.out.cell (p := ⟨bk, ok + i, none⟩) hlk).trans hck0
      have hcs := sum_take (cost_inner hlf (i := i) (by rw [HNK.out]; exact hlt))
      rw [hk] at hcs
      have hnx : allC n (i + 1) = allC n i + (1 + k.length) + 2 := by unfold allC; rw [hcs, hlf]; simp only [Bool.false_eq_true, if_false]; omega
      have hb3 := HSB.out (i + 1) hlt
      have hoe := HO.out
      obtain ⟨o2, ho2⟩ : ∃ m, allC n (i + 1) = m := ⟨_, rfl⟩
      have ho3 : (o : Int) + (1 + (k.length : Int)) + 2 = (o2 : Int) := by omega
      have ho4 : o2 ≤ 300002 := by omega
      have HO2 := hid ho2
      clear hcs hnx hck0 hk hb3 hoe ho2
      by_cases hge : hf ≤ o2
      · have hge2 : (hf : Int) ≤ (o2 : Int) := by omega
        have hmm : min (max (i : Int) 1) ((nk : Int) - 1) = ((min (max i 1) (nk - 1) : Nat) : Int) := by omega
        go_wp2_with fail
        go_ret
        exact ⟨i, rfl, hlt, HLO.out, by rw [HO2.out]; exact hge, HB2.out⟩
      · have hge2 : ¬ (hf : Int) ≤ (o2 : Int) := by omega
        go_wp2_with fail
        go_roundw
        case rel => exact ⟨i + 1, o2, by congr 1; try omega, by first | rfl | (congr 1; omega) | (congr 1), hlt, ho4, hid HO2.out.symm, hid (fun j hj => by
          rcases Nat.lt_or_ge j i with h | h
          · exact HLO.out j h
          · obtain rfl : j = i := by omega
            rw [HO2.out]; omega), by first | exact rfl | exact trivial⟩
        case measure => simp [intOf]; omega
    · have hlt2 : ¬ (i : Int) < (nk : Int) := by omega
      exfalso
      have h1 := HLO.out (i - 1) (by omega)
      have h2 := HALL.out
      rw [HNK.out] at h2
      rw [show i - 1 + 1 = nk by omega] at h1
      omega

/-- a leaf whose last entry came last -/
theorem cut_last (w : World) (pk : Option Addr) (nk ck : Nat) (pv : Option Addr) (nv cv : Nat) (pd : Option Addr) (nc cd : Nat) (h0 : 0 < nk) (hb : nk ≤ 100000) :
    Calls Try.prog 94 #[ndV true pk nk ck pv nv cv pd nc cd, .bool true] w fun e w' => e = .returned (.int .i64 ((nk - 1 : Nat) : Int)) ∧ Below w.heap.size w w' := by
  have hw : (nk : Int) - 1 = ((nk - 1 : Nat) : Int) := by omega
  unfold ndV
  go_enter Try.func94, Try.ntmps94
  go_wp2_with fail
  go_ret
  exact ⟨by first | rfl | (rw [← hw]; rfl), (Below.refl _ _).alloc (Nat.le_refl _) _⟩
end Go.Proofs.Ytdilkgcoecipjaa

namespace Go.Proofs.Ytdilkgcoecipjaa
set_option linter.unusedVariables false

section
variable {N N' N'' : Nat → Option Nd} {ps ps' ps'' : List Nat}
theorem Upd.id' (h : ps.Nodup) : Upd N N ps ps := ⟨fun _ _ _ => rfl, fun k h => .inl h, fun k h h2 => absurd h h2, h⟩
theorem Upd.trans (a : Upd N N' ps ps') (b : Upd N' N'' ps' ps'') : Upd N N'' ps ps'' := by
  refine ⟨fun k h1 h2 => ?_, fun k h => ?_, fun k h1 h2 => ?_, b.nodup⟩
  · by_cases h3 : k ∈ ps'
    · rw [b.gone k h3 h2]
      rcases a.new k h3 with h4 | h4
      · exact absurd h4 h1
      · exact h4.symm
    · rw [b.same k h3 h2, a.same k h1 h3]
  · by_cases h3 : k ∈ ps
    · exact .inl h3
    · right
      by_cases h4 : k ∈ ps'
      · exact (a.new k h4).resolve_left h3
      · rw [← a.same k h3 h4]; exact (b.new k h).resolve_left h4
  · by_cases h3 : k ∈ ps'
    · exact b.gone k h3 h2
    · rw [b.same k h3 h2, a.gone k h1 h3]
theorem Upd.keep (a : Upd N N' ps ps') {k : Nat} (h1 : k ∉ ps) (h2 : (N k).isSome = true) : N' k = N k :=
  a.same k h1 (fun h => by rcases a.new k h with h3 | h3; exact h1 h3; rw [h3] at h2; cases h2)
theorem Upd.frame (a : Upd N N' ps ps') {X Y : List Nat} (hn : (X ++ ps ++ Y).Nodup) (hu : ∀ k ∈ X ++ Y, (N k).isSome = true) : Upd N N' (X ++ ps ++ Y) (X ++ ps' ++ Y) := by
  obtain ⟨n1, nY, dY⟩ := List.nodup_append.1 hn
  obtain ⟨nX, np, dX⟩ := List.nodup_append.1 n1
  have hX : ∀ k ∈ ps', k ∉ X := fun k hk hx => by
    rcases a.new k hk with h | h
    · exact dX k hx k h rfl
    · have := hu k (List.mem_append_left _ hx); rw [h] at this; cases this
  have hY : ∀ k ∈ ps', k ∉ Y := fun k hk hx => by
    rcases a.new k hk with h | h
    · exact dY k (List.mem_append_right _ h) k hx rfl
    · have := hu k (List.mem_append_right _ hx); rw [h] at this; cases this
  refine ⟨fun k h1 h2 => ?_, fun k h => ?_, fun k h1 h2 => ?_, ?_⟩
  · simp only [List.mem_append, not_or] at h1 h2
    exact a.same k h1.1.2 h2.1.2
  · simp only [List.mem_append] at h ⊢
    rcases h with (h | h) | h
    · exact .inl (.inl (.inl h))
    · exact (a.new k h).imp (fun h => .inl (.inr h)) id
    · exact .inl (.inr h)
  · simp only [List.mem_append, not_or] at h1 h2
    rcases h1 with (h1 | h1) | h1
    · exact absurd h1 h2.1.1
    · exact a.gone k h1 h2.1.2
    · exact absurd h1 h2.2
  · refine List.nodup_append.2 ⟨List.nodup_append.2 ⟨nX, a.nodup, fun x hx y hy e => ?_⟩, nY, fun x hx y hy e => ?_⟩
    · subst e; exact hX x hy hx
    · subst e
      rcases List.mem_append.1 hx with h | h
      · exact dY x (List.mem_append_left _ h) x hy rfl
      · exact hY x h hy
theorem Upd.perm (a : Upd N N' ps ps') {qs qs' : List Nat} (h1 : ∀ k, k ∈ qs ↔ k ∈ ps) (h2 : ps'.Perm qs') : Upd N N' qs qs' :=
  ⟨fun k h3 h4 => a.same k (fun h => h3 ((h1 k).2 h)) (fun h => h4 (h2.mem_iff.1 h)), fun k h => (a.new k (h2.mem_iff.2 h)).imp (h1 k).2 id, fun k h3 h4 => a.gone k ((h1 k).1 h3) (fun h => h4 (h2.mem_iff.1 h)), h2.nodup_iff.1 a.nodup⟩
theorem Upd.put (hn : ps.Nodup) {k : Nat} (hk : k ∈ ps) (nd : Nd) : Upd N (updN N k (some nd)) ps ps :=
  ⟨fun j h1 _ => updN_other (fun e => by subst e; exact h1 hk), fun j h => .inl h, fun j h h2 => absurd h h2, hn⟩
theorem Upd.new2 (hn : ps.Nodup) {k : Nat} (h0 : N k = none) (hu : k ∉ ps) (nd : Nd) : Upd N (updN N k (some nd)) ps (k :: ps) :=
  ⟨fun j h1 h2 => updN_other (fun e => by subst e; exact h2 (List.mem_cons_self ..)), fun j h => by rcases List.mem_cons.1 h with rfl | h; exact .inr h0; exact .inl h, fun j h h2 => absurd (List.mem_cons_of_mem _ h) h2, List.nodup_cons.2 ⟨hu, hn⟩⟩
theorem Upd.drop {k : Nat} (hn : (k :: ps).Nodup) : Upd N (updN N k none) (k :: ps) ps :=
  ⟨fun j h1 h2 => updN_other (fun e => by subst e; exact h1 (List.mem_cons_self ..)), fun j h => .inl (List.mem_cons_of_mem _ h), fun j h h2 => by
    rcases List.mem_cons.1 h with rfl | h
    · exact updN_same _ _ _
    · exact absurd h h2, (List.nodup_cons.1 hn).2⟩
end

theorem kids_split {α : Type} {ks : List α} {i : Nat} {c : α} (h : ks[i]? = some c) : ks = ks.take i ++ c :: ks.drop (i + 1) := by
  obtain ⟨hi, rfl⟩ := List.getElem?_eq_some_iff.1 h
  rw [List.getElem_cons_drop, List.take_append_drop]

/-- the parts of a row -/
def parts (d : Nat) (r : Row (Tr d)) : List (Nat × Tx) := (atT d r.1, []) :: r.2.map fun x => (atT d x.2, x.1)
abbrev pgR (d : Nat) (r : Row (Tr d)) : List Nat := (kidsR r).flatMap (pgs d)

/-- what a change makes of a tree: a row of one tree, or of two -/
structure Got (N : Nat → Option Nd) (U d : Nat) (t : Tr d) (key : Tx) (E : List En) (N' : Nat → Option Nd) (U' : Nat) (r : Row (Tr d)) : Prop where
  short : r.2.length ≤ 1
  first : atT d r.1 = atT d t
  on : ∀ c ∈ kidsR r, On N' d c
  asc : Asc (fl (toks d) r)
  ents : ents (fl (toks d) r) = E
  lo : ∀ z : Tok, (∀ y ∈ toks d t, z.lt y) → z.lt (ent (key, [])) → ∀ y ∈ fl (toks d) r, z.lt y
  hi : ∀ z : Tok, (∀ y ∈ toks d t, y.lt z) → Tok.lt (ent (key, [])) z → ∀ y ∈ fl (toks d) r, y.lt z
  upd : Upd N N' (pgs d t) (pgR d r)
  cnt : U' + (pgs d t).length = U + (pgR d r).length
/-- a tree whose kids are changed, and its node not yet -/
structure Mid (N : Nat → Option Nd) (U d : Nat) (t : Tr (d + 1)) (key : Tx) (E : List En) (N' : Nat → Option Nd) (U' : Nat) (t' : Tr (d + 1)) : Prop where
  same : t'.1 = t.1
  node : (N' t.1).isSome = true
  kids : ∀ c ∈ kidsR t'.2, On N' d c
  asc : Asc (toks (d + 1) t')
  ents : ents (toks (d + 1) t') = E
  lo : ∀ z : Tok, (∀ y ∈ toks (d + 1) t, z.lt y) → z.lt (ent (key, [])) → ∀ y ∈ toks (d + 1) t', z.lt y
  hi : ∀ z : Tok, (∀ y ∈ toks (d + 1) t, y.lt z) → Tok.lt (ent (key, [])) z → ∀ y ∈ toks (d + 1) t', y.lt z
  upd : Upd N N' (pgs (d + 1) t) (pgs (d + 1) t')
  cnt : U' + (pgs (d + 1) t).length = U + (pgs (d + 1) t').length

/-- how a too great node is parted -/
structure Halves (nd A B : Nd) (k : Tx) : Prop where
  leaf : nd.leaf = true → ∃ i, 1 ≤ i ∧ i < nd.keys.length ∧ A = ⟨true, nd.keys.take i, nd.vals.take i, []⟩ ∧ B = ⟨true, nd.keys.drop i, nd.vals.drop i, []⟩ ∧ nd.keys[i]? = some k
  inner : nd.leaf = false → ∃ i, 1 ≤ i ∧ i + 1 < nd.keys.length ∧ A = ⟨false, nd.keys.take i, [], nd.kids.take (i + 1)⟩ ∧ B = ⟨false, nd.keys.drop (i + 1), [], nd.kids.drop (i + 1)⟩ ∧ nd.keys[i]? = some k
/-- what a write makes of a page -/
def Wrote (Nf : Nat → Option Nd) (U : Nat) (at_ : Nat) (nd : Nd) (l : List (Nat × Tx)) (Nf2 : Nat → Option Nd) (U2 : Nat) : Prop :=
  (l = [(at_, [])] ∧ Nf2 = updN Nf at_ (some nd) ∧ U2 = U) ∨
  ∃ A B k to, l = [(at_, []), (to, k)] ∧ Nf to = none ∧ Nf2 = updN (updN Nf at_ (some A)) to (some B) ∧ U2 = U + 1 ∧ Halves nd A B k

/-! a leaf -/
theorem pgR_one (d : Nat) (t : Tr d) : pgR d (t, []) = pgs d t := by simp [pgR, kidsR]
theorem fl_one {α : Type} (tk : α → List Tok) (t : α) : fl tk (t, []) = tk t := by simp [fl]
theorem srt_app {a b : List En} : Srt (a ++ b) ↔ Srt a ∧ Srt b ∧ ∀ x ∈ a, ∀ y ∈ b, ltB x.1 y.1 = true := List.pairwise_append
def lfT (pg : Nat) (es : List En) : Tr 0 := (pg, es)
def inT {d : Nat} (pg : Nat) (r : Row (Tr d)) : Tr (d + 1) := (pg, r)
theorem toks_in {d : Nat} (pg : Nat) (r : Row (Tr d)) : toks (d + 1) (inT pg r) = fl (toks d) r := rfl
theorem pgs_in {d : Nat} (pg : Nat) (r : Row (Tr d)) : pgs (d + 1) (inT pg r) = pg :: (kidsR r).flatMap (pgs d) := rfl
theorem ndT_in {d : Nat} (pg : Nat) (r : Row (Tr d)) : ndT (d + 1) (inT pg r) = ⟨false, keysR r, [], (kidsR r).map (atT d)⟩ := rfl
theorem on_in {N : Nat → Option Nd} {d pg : Nat} {r : Row (Tr d)} (h1 : N pg = some ⟨false, keysR r, [], (kidsR r).map (atT d)⟩) (h2 : ∀ c ∈ kidsR r, On N d c) : On N (d + 1) (inT pg r) := ⟨h1, h2⟩
theorem ful_in {d pg : Nat} {r : Row (Tr d)} (h1 : r.2 ≠ []) (h2 : ∀ c ∈ kidsR r, Ful d c) : Ful (d + 1) (inT pg r) := ⟨h1, h2⟩
theorem kful_in {d pg : Nat} {r : Row (Tr d)} (h2 : ∀ c ∈ kidsR r, Ful d c) : KFul (d + 1) (inT pg r) := h2
theorem kids_one {α : Type} (t : α) : kidsR ((t, []) : Row α) = [t] := rfl
theorem kids_two {α : Type} (t : α) (k : Tx) (u : α) : kidsR ((t, [(k, u)]) : Row α) = [t, u] := rfl
theorem leaf_got {N : Nat → Option Nd} {U : Nat} {t : Tr 0} {key val : Tx} {E : List En} (hE : E = setM t.2 key val) (hs : Srt t.2) (hu : (N t.1).isSome = true) {l : List (Nat × Tx)} {N' : Nat → Option Nd} {U' : Nat}
    (hw : Wrote N U t.1 ⟨true, E.map (·.1), E.map (·.2), []⟩ l N' U') : ∃ r : Row (Tr 0), parts 0 r = l ∧ Got N U 0 t key E N' U' r ∧ ∀ x ∈ kidsR r, Ful 0 x := by
  obtain ⟨pg, hpg0⟩ : ∃ x, t.1 = x := ⟨_, rfl⟩
  obtain ⟨es, hes⟩ : ∃ x, t.2 = x := ⟨_, rfl⟩
  have htoks : toks 0 t = es.map ent := by rw [← hes]; rfl
  have hpgs : pgs 0 t = [pg] := by rw [← hpg0]; rfl
  have hat : atT 0 t = pg := hpg0
  rw [hes] at hE hs
  rw [hpg0] at hu hw
  have hsE : Srt E := by rw [hE]; exact srt_setM hs key val
  have hmem : ∀ e ∈ E, e ∈ es ∨ e = (key, val) := by
    intro e he
    rw [hE] at he
    by_cases hc : isAt (es.map (·.1)) key = true
    · rw [setM_is hs hc] at he
      rcases List.mem_append.1 he with h | h
      · exact .inl (List.mem_of_mem_take h)
      · rcases List.mem_cons.1 h with h | h
        · exact .inr h
        · exact .inl (List.mem_of_mem_drop h)
    · rw [Bool.not_eq_true] at hc
      rw [setM_not hs hc] at he
      rcases List.mem_append.1 he with h | h
      · exact .inl (List.mem_of_mem_take h)
      · rcases List.mem_cons.1 h with h | h
        · exact .inr h
        · exact .inl (List.mem_of_mem_drop h)
  have hne : E ≠ [] := by
    rw [hE]
    by_cases hc : isAt (es.map (·.1)) key = true
    · rw [setM_is hs hc]; simp
    · rw [Bool.not_eq_true] at hc; rw [setM_not hs hc]; simp
  have hlo : ∀ z : Tok, (∀ y ∈ toks 0 t, z.lt y) → z.lt (ent (key, [])) → ∀ e ∈ E, z.lt (ent e) := by
    intro z h1 h2 e he
    rw [htoks] at h1
    rcases hmem e he with h | rfl
    · exact h1 _ (List.mem_map.2 ⟨e, h, rfl⟩)
    · rcases h2 with h2 | ⟨a, b, c⟩
      · exact .inl h2
      · exact .inr ⟨a, b, by simp⟩
  have hhi : ∀ z : Tok, (∀ y ∈ toks 0 t, y.lt z) → Tok.lt (ent (key, [])) z → ∀ e ∈ E, (ent e).lt z := by
    intro z h1 h2 e he
    rw [htoks] at h1
    rcases hmem e he with h | rfl
    · exact h1 _ (List.mem_map.2 ⟨e, h, rfl⟩)
    · exact .inl (show ltB key z.k = true from Tok.lt_ee h2 (by simp))
  have tokL : ∀ (p : Nat) (l : List En), toks 0 (lfT p l) = l.map ent := fun _ _ => rfl
  have pgL : ∀ (p : Nat) (l : List En), pgs 0 (lfT p l) = [p] := fun _ _ => rfl
  have onL : ∀ (M : Nat → Option Nd) (p : Nat) (l : List En), M p = some ⟨true, l.map (·.1), l.map (·.2), []⟩ → On M 0 (lfT p l) := fun _ _ _ h => h
  rcases hw with ⟨rfl, rfl, rfl⟩ | ⟨A, B, k, to, rfl, h0, rfl, rfl, hh⟩
  · have k1 : kidsR ((lfT pg E, []) : Row (Tr 0)) = [lfT pg E] := rfl
    refine ⟨(lfT pg E, []), rfl, ⟨by simp, hat.symm, ?_, ?_, ?_, ?_, ?_, ?_, ?_⟩, ?_⟩
    · intro c hc
      rw [k1] at hc
      rw [List.mem_singleton.1 hc]
      exact onL _ _ _ (updN_same _ _ _)
    · rw [fl_one, tokL]; exact asc_leaf hsE
    · rw [fl_one, tokL]; exact ents_leaf E
    · intro z h1 h2 y hy
      rw [fl_one, tokL] at hy
      obtain ⟨e, he, rfl⟩ := List.mem_map.1 hy
      exact hlo z h1 h2 e he
    · intro z h1 h2 y hy
      rw [fl_one, tokL] at hy
      obtain ⟨e, he, rfl⟩ := List.mem_map.1 hy
      exact hhi z h1 h2 e he
    · rw [pgR_one, pgL, hpgs]
      exact Upd.put (List.nodup_cons.2 ⟨by simp, List.nodup_nil⟩) (List.mem_singleton_self _) _
    · rw [pgR_one, pgL, hpgs]
    · intro x hx
      rw [k1] at hx
      rw [List.mem_singleton.1 hx]
      exact hne
  · obtain ⟨i, hi1, hi2, rfl, rfl, hk⟩ := hh.leaf rfl
    simp only [List.length_map] at hi2
    simp only [List.getElem?_map, Option.map_eq_some_iff] at hk
    obtain ⟨e, hke, rfl⟩ := hk
    obtain ⟨hi3, he⟩ := List.getElem?_eq_some_iff.1 hke
    have hdrop : E.drop i = e :: E.drop (i + 1) := by rw [← he, List.getElem_cons_drop]
    have hsp : Srt (E.take i ++ E.drop i) := by rw [List.take_append_drop]; exact hsE
    obtain ⟨s1, s2, s3⟩ := srt_app.1 hsp
    have htok : fl (toks 0) ((lfT pg (E.take i), [(e.1, lfT to (E.drop i))]) : Row (Tr 0)) = (E.take i).map ent ++ sep e.1 :: (E.drop i).map ent := by
      show toks 0 (lfT pg (E.take i)) ++ ([(e.1, lfT to (E.drop i))] : List (Tx × Tr 0)).flatMap _ = _
      rw [tokL, List.flatMap_cons, tokL]; simp
    have k2 : kidsR ((lfT pg (E.take i), [(e.1, lfT to (E.drop i))]) : Row (Tr 0)) = [lfT pg (E.take i), lfT to (E.drop i)] := rfl
    have hpr : pgR 0 ((lfT pg (E.take i), [(e.1, lfT to (E.drop i))]) : Row (Tr 0)) = [pg, to] := rfl
    have hpg : pg ≠ to := fun h => by rw [← h] at h0; rw [h0] at hu; cases hu
    have hasc : Asc ((E.take i).map ent ++ sep e.1 :: (E.drop i).map ent) := by
      refine asc_app.2 ⟨asc_leaf s1, asc_cons.2 ⟨?_, asc_leaf s2⟩, ?_⟩
      · intro y hy
        obtain ⟨f, hf, rfl⟩ := List.mem_map.1 hy
        rw [hdrop] at hf s2
        rcases List.mem_cons.1 hf with rfl | hf
        · exact .inr ⟨rfl, rfl, by simp⟩
        · exact .inl ((List.pairwise_cons.1 s2).1 f hf)
      · intro x hx y hy
        obtain ⟨f, hf, rfl⟩ := List.mem_map.1 hx
        rcases List.mem_cons.1 hy with rfl | hy
        · exact .inl (s3 f hf e (by rw [hdrop]; exact List.mem_cons_self ..))
        · obtain ⟨g, hg, rfl⟩ := List.mem_map.1 hy
          exact .inl (s3 f hf g hg)
    refine ⟨(lfT pg (E.take i), [(e.1, lfT to (E.drop i))]), rfl, ⟨by simp, hat.symm, ?_, by rw [htok]; exact hasc, ?_, ?_, ?_, ?_, ?_⟩, ?_⟩
    · intro c hc
      rw [k2] at hc
      rcases List.mem_cons.1 hc with rfl | hc
      · refine onL _ _ _ ?_
        rw [updN_other hpg, updN_same, List.map_take, List.map_take]
      · rw [List.mem_singleton.1 hc]
        refine onL _ _ _ ?_
        rw [updN_same, List.map_drop, List.map_drop]
    · rw [htok, ents_app, ents_sep, ents_leaf, ents_leaf, List.take_append_drop]
    · intro z h1 h2 y hy
      rw [htok] at hy
      have hz := hlo z h1 h2
      rcases List.mem_append.1 hy with h | h
      · obtain ⟨f, hf, rfl⟩ := List.mem_map.1 h
        exact hz f (List.mem_of_mem_take hf)
      · obtain ⟨f, hf⟩ : ∃ f, f ∈ E.take i := by
          refine ⟨(E.take i)[0]'(by rw [List.length_take]; omega), List.getElem_mem _⟩
        have hf2 := hz f (List.mem_of_mem_take hf)
        exact Tok.lt_trans hf2 ((asc_app.1 hasc).2.2 _ (List.mem_map.2 ⟨f, hf, rfl⟩) y h)
    · intro z h1 h2 y hy
      rw [htok] at hy
      have hz := hhi z h1 h2
      rcases List.mem_append.1 hy with h | h
      · obtain ⟨f, hf, rfl⟩ := List.mem_map.1 h
        exact hz f (List.mem_of_mem_take hf)
      · rcases List.mem_cons.1 h with rfl | h
        · have he2 := hz e (by rw [← List.take_append_drop i E, hdrop]; exact List.mem_append_right _ (List.mem_cons_self ..))
          exact .inl (show ltB e.1 z.k = true from Tok.lt_ee he2 (by simp))
        · obtain ⟨f, hf, rfl⟩ := List.mem_map.1 h
          exact hz f (List.mem_of_mem_drop hf)
    · have u1 : Upd N (updN N pg (some ⟨true, (E.map (·.1)).take i, (E.map (·.2)).take i, []⟩)) [pg] [pg] := Upd.put (List.nodup_cons.2 ⟨by simp, List.nodup_nil⟩) (List.mem_singleton_self _) _
      have u2 := Upd.new2 (N := updN N pg (some ⟨true, (E.map (·.1)).take i, (E.map (·.2)).take i, []⟩)) (ps := [pg]) (k := to) (List.nodup_cons.2 ⟨by simp, List.nodup_nil⟩) (by rw [updN_other hpg.symm]; exact h0) (by simpa using hpg.symm) ⟨true, (E.map (·.1)).drop i, (E.map (·.2)).drop i, []⟩
      rw [hpr, hpgs]
      exact (u1.trans u2).perm (fun k => Iff.rfl) (List.Perm.swap _ _ _)
    · rw [hpr, hpgs]; simp only [List.length_cons, List.length_nil]
    · intro x hx
      rw [k2] at hx
      rcases List.mem_cons.1 hx with rfl | hx
      · show E.take i ≠ []
        intro h
        have := congrArg List.length h
        rw [List.length_take, List.length_nil] at this
        omega
      · rw [List.mem_singleton.1 hx]
        show E.drop i ≠ []
        rw [hdrop]; simp

/-! a node of kids -/
theorem mid_of {N : Nat → Option Nd} {U d : Nat} {t : Tr (d + 1)} {key : Tx} {f : List En → List En} (hf : ∀ A X C : List En, (∀ e ∈ A, ltB e.1 key = true) → (∀ e ∈ C, ltB key e.1 = true) → f (A ++ X ++ C) = A ++ f X ++ C)
    (hon : On N (d + 1) t) (hasc : Asc (toks (d + 1) t)) (hn : (pgs (d + 1) t).Nodup) {c : Tr d} (hc : (kidsR t.2)[downP (keysR t.2) key]? = some c) {N' : Nat → Option Nd} {U' : Nat} {r : Row (Tr d)}
    (h : Got N U d c key (f (ents (toks d c))) N' U' r) : Mid N U d t key (f (ents (toks (d + 1) t))) N' U' (inT t.1 (rput t.2.1 t.2.2 (downP (keysR t.2) key) r)) := by
  obtain ⟨pg, t0, l, rfl⟩ : ∃ pg t0 l, t = inT pg (t0, l) := ⟨t.1, t.2.1, t.2.2, rfl⟩
  have hasc : Asc (fl (toks d) (t0, l)) := hasc
  have hn : (pg :: (kidsR (t0, l)).flatMap (pgs d)).Nodup := hn
  have hc : (kidsR (t0, l))[downP (keysR (t0, l)) key]? = some c := hc
  have hon1 : N pg = some (ndT (d + 1) (inT pg (t0, l))) := hon.1
  have hon2 : ∀ c ∈ kidsR (t0, l), On N d c := hon.2
  have hle : downP (keysR (t0, l)) key ≤ l.length := by
    have := (List.getElem?_eq_some_iff.1 hc).1
    rw [kidsR_length] at this
    have h2 : (keysR (t0, l)).length = l.length := by simp [keysR]
    omega
  obtain ⟨P, Q, h1, h2, h3, h4, _⟩ := down_split (toks d) hasc hc
  show Mid N U d (inT pg (t0, l)) key (f (ents (fl (toks d) (t0, l)))) N' U' (inT pg (rput t0 l (downP (keysR (t0, l)) key) r))
  generalize hix : downP (keysR (t0, l)) key = i at *
  have hks := kids_split hc
  have hrk := rput_kids t0 l i r hle
  have hall : (kidsR (t0, l)).flatMap (pgs d) = ((kidsR (t0, l)).take i).flatMap (pgs d) ++ pgs d c ++ ((kidsR (t0, l)).drop (i + 1)).flatMap (pgs d) := by
    conv => lhs; rw [hks]
    rw [List.flatMap_append, List.flatMap_cons, List.append_assoc]
  have hnew : (kidsR (rput t0 l i r)).flatMap (pgs d) = ((kidsR (t0, l)).take i).flatMap (pgs d) ++ pgR d r ++ ((kidsR (t0, l)).drop (i + 1)).flatMap (pgs d) := by
    rw [hrk, List.flatMap_append, List.flatMap_append]
  rw [hall] at hn
  have hn2 := List.nodup_cons.1 hn
  have hused : ∀ k ∈ ((kidsR (t0, l)).take i).flatMap (pgs d) ++ ((kidsR (t0, l)).drop (i + 1)).flatMap (pgs d), (N k).isSome = true := by
    intro k hk
    rcases List.mem_append.1 hk with hk | hk <;> obtain ⟨x, hx, hk⟩ := List.mem_flatMap.1 hk
    · exact (hon2 x (List.mem_of_mem_take hx)).used k hk
    · exact (hon2 x (List.mem_of_mem_drop hx)).used k hk
  have hpgu : (N pg).isSome = true := by rw [hon1]; rfl
  have huX := h.upd.frame hn2.2 hused
  have huP : Upd N N' (pg :: (((kidsR (t0, l)).take i).flatMap (pgs d) ++ pgs d c ++ ((kidsR (t0, l)).drop (i + 1)).flatMap (pgs d))) (pg :: (((kidsR (t0, l)).take i).flatMap (pgs d) ++ pgR d r ++ ((kidsR (t0, l)).drop (i + 1)).flatMap (pgs d))) := by
    have h5 := huX.frame (X := [pg]) (Y := []) (by simpa using hn) (by intro k hk; rw [List.append_nil] at hk; rw [List.mem_singleton.1 hk]; exact hpgu)
    simpa using h5
  obtain ⟨n1, nY, dY⟩ := List.nodup_append.1 hn2.2
  obtain ⟨nX, np, dX⟩ := List.nodup_append.1 n1
  have hsib : ∀ x, x ∈ (kidsR (t0, l)).take i ∨ x ∈ (kidsR (t0, l)).drop (i + 1) → On N' d x := by
    intro x hx
    have hx1 : On N d x := by
      rcases hx with hx | hx
      · exact hon2 x (List.mem_of_mem_take hx)
      · exact hon2 x (List.mem_of_mem_drop hx)
    refine hx1.congr (fun k hk => h.upd.keep (fun hk2 => ?_) (hx1.used k hk))
    rcases hx with hx | hx
    · exact dX k (List.mem_flatMap.2 ⟨x, hx, hk⟩) k hk2 rfl
    · exact dY k (List.mem_append_right _ hk2) k (List.mem_flatMap.2 ⟨x, hx, hk⟩) rfl
  have hpgn : N' pg = N pg := h.upd.keep (fun hk => hn2.1 (List.mem_append_left _ (List.mem_append_right _ hk))) hpgu
  have htk : toks (d + 1) (inT pg (rput t0 l i r)) = P ++ fl (toks d) r ++ Q := h2 r
  have htk0 : toks (d + 1) (inT pg (t0, l)) = P ++ toks d c ++ Q := h1
  rw [h1] at hasc
  obtain ⟨a1, a2, a3⟩ := asc_app.1 hasc
  obtain ⟨a4, a5, a6⟩ := asc_app.1 a1
  have hPr : ∀ x ∈ P, ∀ y ∈ fl (toks d) r, x.lt y := fun x hx => h.lo x (fun y hy => a6 x hx y hy) (h3 x hx _ rfl)
  have hrQ : ∀ y ∈ fl (toks d) r, ∀ x ∈ Q, y.lt x := fun y hy x hx => h.hi x (fun z hz => a3 z (List.mem_append_right _ hz) x hx) (.inl (h4 x hx)) y hy
  refine ⟨rfl, show (N' pg).isSome = true by rw [hpgn]; exact hpgu, ?_, ?_, ?_, ?_, ?_, ?_, ?_⟩
  · intro x hx
    rw [show kidsR (inT pg (rput t0 l i r)).2 = _ from hrk] at hx
    rcases List.mem_append.1 hx with hx | hx
    · rcases List.mem_append.1 hx with hx | hx
      · exact hsib x (.inl hx)
      · exact h.on x hx
    · exact hsib x (.inr hx)
  · rw [htk]
    refine asc_app.2 ⟨asc_app.2 ⟨a4, h.asc, hPr⟩, a2, fun x hx y hy => ?_⟩
    rcases List.mem_append.1 hx with hx | hx
    · exact a3 x (List.mem_append_left _ hx) y hy
    · exact hrQ x hx y hy
  · rw [htk, h1, ents_app, ents_app, ents_app, ents_app, h.ents, hf]
    · intro e he
      exact Tok.lt_ee (h3 _ (mem_ents he) _ rfl) (by simp)
    · intro e he
      exact h4 _ (mem_ents he)
  · intro z z1 z2 y hy
    rw [htk0] at z1
    rw [htk] at hy
    rcases List.mem_append.1 hy with hy | hy
    · rcases List.mem_append.1 hy with hy | hy
      · exact z1 y (List.mem_append_left _ (List.mem_append_left _ hy))
      · exact h.lo z (fun y hy => z1 y (List.mem_append_left _ (List.mem_append_right _ hy))) z2 y hy
    · exact z1 y (List.mem_append_right _ hy)
  · intro z z1 z2 y hy
    rw [htk0] at z1
    rw [htk] at hy
    rcases List.mem_append.1 hy with hy | hy
    · rcases List.mem_append.1 hy with hy | hy
      · exact z1 y (List.mem_append_left _ (List.mem_append_left _ hy))
      · exact h.hi z (fun y hy => z1 y (List.mem_append_left _ (List.mem_append_right _ hy))) z2 y hy
    · exact z1 y (List.mem_append_right _ hy)
  · show Upd N N' (pg :: (kidsR (t0, l)).flatMap (pgs d)) (pg :: (kidsR (rput t0 l i r)).flatMap (pgs d))
    rw [hall, hnew]
    exact huP
  · show U' + (pg :: (kidsR (t0, l)).flatMap (pgs d)).length = U + (pg :: (kidsR (rput t0 l i r)).flatMap (pgs d)).length
    rw [hall, hnew]
    have := h.cnt
    simp only [List.length_cons, List.length_append] at this ⊢
    omega

/-- its node stands already -/
theorem Mid.fin0 {N : Nat → Option Nd} {U d : Nat} {t : Tr (d + 1)} {key : Tx} {E : List En} {N' : Nat → Option Nd} {U' : Nat} {t' : Tr (d + 1)} (h : Mid N U d t key E N' U' t') (h1 : N' t.1 = some (ndT (d + 1) t')) : Got N U (d + 1) t key E N' U' (t', []) := by
  refine ⟨by simp, h.same, ?_, by rw [fl_one]; exact h.asc, by rw [fl_one]; exact h.ents, by rw [fl_one]; exact h.lo, by rw [fl_one]; exact h.hi, by rw [pgR_one]; exact h.upd, by rw [pgR_one]; exact h.cnt⟩
  intro c hc
  rw [kids_one] at hc
  rw [List.mem_singleton.1 hc]
  exact ⟨by rw [h.same]; exact h1, h.kids⟩
/-- a kid's node is changed, its page is not -/
theorem rput_node {d : Nat} (pg : Nat) (t0 : Tr d) (l : List (Tx × Tr d)) {i : Nat} {c x : Tr d} (hc : (kidsR (t0, l))[i]? = some c) (hx : atT d x = atT d c) : ndT (d + 1) (inT pg (rput t0 l i (x, []))) = ndT (d + 1) (inT pg (t0, l)) := by
  have hle : i ≤ l.length := by
    have := (List.getElem?_eq_some_iff.1 hc).1
    rw [kidsR_length] at this
    have h2 : (keysR (t0, l)).length = l.length := by simp [keysR]
    omega
  have h1 : keysR (rput t0 l i (x, [])) = keysR (t0, l) := by
    rw [rput_keys t0 l i _ hle]
    simp [keysR]
  have h2 : (kidsR (rput t0 l i (x, []))).map (atT d) = (kidsR (t0, l)).map (atT d) := by
    rw [rput_kids t0 l i _ hle]
    conv => rhs; rw [kids_split hc]
    simp [kidsR, hx]
  rw [ndT_in, ndT_in, h1, h2]
theorem take_map_cut {α β : Type} {l : List (α × β)} {i : Nat} {k : α} (h : (l.map (·.1))[i]? = some k) : ∃ x, l = l.take i ++ (k, x) :: l.drop (i + 1) := by
  rw [List.getElem?_map, Option.map_eq_some_iff] at h
  obtain ⟨⟨k', x⟩, h1, rfl⟩ := h
  exact ⟨x, kids_split h1⟩
/-- its node is written -/
theorem Mid.fin {N : Nat → Option Nd} {U d : Nat} {t : Tr (d + 1)} {key : Tx} {E : List En} {N' : Nat → Option Nd} {U' : Nat} {t' : Tr (d + 1)} (h : Mid N U d t key E N' U' t') {l : List (Nat × Tx)} {N'' : Nat → Option Nd} {U'' : Nat}
    (hw : Wrote N' U' t.1 (ndT (d + 1) t') l N'' U'') : ∃ r : Row (Tr (d + 1)), parts (d + 1) r = l ∧ Got N U (d + 1) t key E N'' U'' r ∧ ((∀ c ∈ kidsR t'.2, Ful d c) → t'.2.2 ≠ [] → ∀ x ∈ kidsR r, Ful (d + 1) x) ∧ ((∀ c ∈ kidsR t'.2, Ful d c) → (∀ x ∈ kidsR r, KFul (d + 1) x)) ∧ (r.2 ≠ [] → t'.2.2 ≠ []) := by
  obtain ⟨pg, t0, l0, rfl⟩ : ∃ pg t0 l0, t' = inT pg (t0, l0) := ⟨t'.1, t'.2.1, t'.2.2, rfl⟩
  have hsm : pg = t.1 := h.same
  have hu := h.upd
  have hnd := hu.nodup
  have hnd2 := hnd
  rw [pgs_in] at hnd2
  have hkids : ∀ c ∈ kidsR (t0, l0), On N' d c := h.kids
  have hpk : ∀ c ∈ kidsR (t0, l0), ∀ k ∈ pgs d c, k ≠ pg := fun c hc k hk e => by
    subst e
    exact (List.nodup_cons.1 hnd2).1 (List.mem_flatMap.2 ⟨c, hc, hk⟩)
  have hpgm : t.1 ∈ pgs (d + 1) (inT pg (t0, l0)) := by rw [pgs_in, ← hsm]; exact List.mem_cons_self ..
  show ∃ r : Row (Tr (d + 1)), parts (d + 1) r = l ∧ Got N U (d + 1) t key E N'' U'' r ∧ ((∀ c ∈ kidsR (t0, l0), Ful d c) → l0 ≠ [] → ∀ x ∈ kidsR r, Ful (d + 1) x) ∧ ((∀ c ∈ kidsR (t0, l0), Ful d c) → (∀ x ∈ kidsR r, KFul (d + 1) x)) ∧ (r.2 ≠ [] → l0 ≠ [])
  rcases hw with ⟨rfl, rfl, rfl⟩ | ⟨A, B, k, to, rfl, h0, rfl, rfl, hh⟩
  · refine ⟨(inT pg (t0, l0), []), ?_, ⟨by simp, hsm, ?_, by rw [fl_one]; exact h.asc, by rw [fl_one]; exact h.ents, by rw [fl_one]; exact h.lo, by rw [fl_one]; exact h.hi, ?_, by rw [pgR_one]; exact h.cnt⟩, ?_, ?_, fun h => absurd rfl h⟩
    · rw [← hsm]; rfl
    · intro c hc
      rw [kids_one] at hc
      rw [List.mem_singleton.1 hc]
      refine on_in ?_ (fun x hx => (hkids x hx).congr (fun k hk => updN_other (by rw [← hsm]; exact hpk x hx k hk)))
      rw [hsm, updN_same, ndT_in]
    · rw [pgR_one]
      exact hu.trans (Upd.put hnd hpgm _)
    · intro h1 h2 x hx
      rw [kids_one] at hx
      rw [List.mem_singleton.1 hx]
      exact ful_in h2 h1
    · intro h1 x hx
      rw [kids_one] at hx
      rw [List.mem_singleton.1 hx]
      exact kful_in h1
  · obtain ⟨i, hi1, hi2, hA, hB, hk⟩ := hh.inner rfl
    have hA : A = ⟨false, (keysR (t0, l0)).take i, [], ((kidsR (t0, l0)).map (atT d)).take (i + 1)⟩ := hA
    have hB : B = ⟨false, (keysR (t0, l0)).drop (i + 1), [], ((kidsR (t0, l0)).map (atT d)).drop (i + 1)⟩ := hB
    have hk : (l0.map (·.1))[i]? = some k := hk
    have hi2 : i + 1 < (l0.map (·.1)).length := hi2
    rw [List.length_map] at hi2
    obtain ⟨x, hx⟩ := take_map_cut hk
    have hl1 : (l0.take i).length = i := by rw [List.length_take]; omega
    have hl2 : l0.drop (i + 1) ≠ [] := by
      intro h3
      have := congrArg List.length h3
      rw [List.length_drop, List.length_nil] at this
      omega
    generalize l0.take i = l1 at hx hl1
    generalize l0.drop (i + 1) = l2 at hx hl2
    subst hx
    have hkk : kidsR (t0, l1 ++ (k, x) :: l2) = kidsR (t0, l1) ++ kidsR (x, l2) := by simp [kidsR]
    have hkl : ((kidsR (t0, l1)).map (atT d)).length = i + 1 := by simp [kidsR, hl1]
    have hkl1 : (keysR (t0, l1)).length = i := by simp [keysR, hl1]
    have hks1 : (keysR (t0, l1 ++ (k, x) :: l2)).take i = keysR (t0, l1) := by
      have e : keysR (t0, l1 ++ (k, x) :: l2) = keysR (t0, l1) ++ k :: keysR (x, l2) := by simp [keysR]
      rw [e, List.take_left' hkl1]
    have hks2 : (keysR (t0, l1 ++ (k, x) :: l2)).drop (i + 1) = keysR (x, l2) := by
      have e : keysR (t0, l1 ++ (k, x) :: l2) = (keysR (t0, l1) ++ [k]) ++ keysR (x, l2) := by simp [keysR]
      rw [e, List.drop_left' (by rw [List.length_append, hkl1]; rfl)]
    have hA2 : A = ⟨false, keysR (t0, l1), [], (kidsR (t0, l1)).map (atT d)⟩ := by
      rw [hA, hkk, List.map_append, List.take_left' hkl, hks1]
    have hB2 : B = ⟨false, keysR (x, l2), [], (kidsR (x, l2)).map (atT d)⟩ := by
      rw [hB, hkk, List.map_append, List.drop_left' hkl, hks2]
    have hton : ∀ k2 ∈ pgs (d + 1) (inT pg (t0, l1 ++ (k, x) :: l2)), k2 ≠ to := by
      intro k2 hk2 e
      subst e
      rw [pgs_in] at hk2
      rcases List.mem_cons.1 hk2 with rfl | hk2
      · have := h.node
        rw [← hsm, h0] at this; cases this
      · obtain ⟨c, hc, hkc⟩ := List.mem_flatMap.1 hk2
        have := (hkids c hc).used k2 hkc
        rw [h0] at this; cases this
    have hpt : pg ≠ to := hton pg (by rw [pgs_in]; exact List.mem_cons_self ..)
    have htk : fl (toks (d + 1)) ((inT pg (t0, l1), [(k, inT to (x, l2))]) : Row (Tr (d + 1))) = toks (d + 1) (inT pg (t0, l1 ++ (k, x) :: l2)) := by
      rw [toks_in, row_cut, fl_cons, fl_one, toks_in, toks_in]
    have hpr : pgR (d + 1) ((inT pg (t0, l1), [(k, inT to (x, l2))]) : Row (Tr (d + 1))) = pgs (d + 1) (inT pg (t0, l1)) ++ pgs (d + 1) (inT to (x, l2)) := by
      unfold pgR; rw [kids_two]; simp
    have hper : (to :: pgs (d + 1) (inT pg (t0, l1 ++ (k, x) :: l2))).Perm (pgR (d + 1) ((inT pg (t0, l1), [(k, inT to (x, l2))]) : Row (Tr (d + 1)))) := by
      rw [hpr, pgs_in, pgs_in, pgs_in, hkk, List.flatMap_append]
      refine (List.Perm.swap _ _ _).trans ?_
      rw [List.cons_append]
      exact List.Perm.cons _ List.perm_middle.symm
    refine ⟨(inT pg (t0, l1), [(k, inT to (x, l2))]), ?_, ⟨by simp, hsm, ?_, by rw [htk]; exact h.asc, by rw [htk]; exact h.ents, by rw [htk]; exact h.lo, by rw [htk]; exact h.hi, ?_, ?_⟩, ?_, ?_, fun _ h3 => by simp at h3⟩
    · rw [← hsm]; rfl
    · intro c hc
      rw [kids_two] at hc
      have hkid : ∀ y ∈ kidsR (t0, l1 ++ (k, x) :: l2), On (updN (updN N' t.1 (some A)) to (some B)) d y := fun y hy =>
        (hkids y hy).congr (fun j hj => by
          rw [updN_other (hton j (by rw [pgs_in]; exact List.mem_cons_of_mem _ (List.mem_flatMap.2 ⟨y, hy, hj⟩))), updN_other (by rw [← hsm]; exact hpk y hy j hj)])
      rcases List.mem_cons.1 hc with rfl | hc
      · refine on_in ?_ (fun y hy => hkid y (by rw [hkk]; exact List.mem_append_left _ hy))
        rw [updN_other hpt, hsm, updN_same, hA2]
      · rw [List.mem_singleton.1 hc]
        refine on_in ?_ (fun y hy => hkid y (by rw [hkk]; exact List.mem_append_right _ hy))
        rw [updN_same, hB2]
    · have u1 := hu.trans (Upd.put (N := N') hnd hpgm A)
      have u2 := u1.trans (Upd.new2 (N := updN N' t.1 (some A)) (k := to) hnd (by rw [updN_other (by rw [← hsm]; exact hpt.symm)]; exact h0) (fun hk => hton to hk rfl) B)
      exact u2.perm (fun k => Iff.rfl) hper
    · have h5 := h.cnt
      have h6 := hper.length_eq
      rw [List.length_cons] at h6
      omega
    · intro h3 h4 y hy
      rw [kids_two] at hy
      rcases List.mem_cons.1 hy with rfl | hy
      · exact ful_in (fun h5 => by
          have h5 : l1 = [] := h5
          rw [h5] at hl1; simp at hl1; omega) (fun c hc => h3 c (by rw [hkk]; exact List.mem_append_left _ hc))
      · rw [List.mem_singleton.1 hy]
        exact ful_in hl2 (fun c hc => h3 c (by rw [hkk]; exact List.mem_append_right _ hc))
    · intro h3 y hy
      rw [kids_two] at hy
      rcases List.mem_cons.1 hy with rfl | hy
      · exact kful_in (fun c hc => h3 c (by rw [hkk]; exact List.mem_append_left _ hc))
      · rw [List.mem_singleton.1 hy]
        exact kful_in (fun c hc => h3 c (by rw [hkk]; exact List.mem_append_right _ hc))
/-- the kids of a row in its place -/
theorem rput_ful {d : Nat} {t0 : Tr d} {l : List (Tx × Tr d)} {i : Nat} {r : Row (Tr d)} (hi : i ≤ l.length) (h : ∀ c ∈ kidsR (t0, l), Ful d c) (hr : ∀ c ∈ kidsR r, Ful d c) : ∀ c ∈ kidsR (rput t0 l i r), Ful d c := by
  intro c hc
  rw [rput_kids t0 l i r hi] at hc
  rcases List.mem_append.1 hc with hc | hc
  · rcases List.mem_append.1 hc with hc | hc
    · exact h c (List.mem_of_mem_take hc)
    · exact hr c hc
  · exact h c (List.mem_of_mem_drop hc)
theorem rput_len {d : Nat} {t0 : Tr d} {l : List (Tx × Tr d)} {i : Nat} {r : Row (Tr d)} (hi : i ≤ l.length) : (rput t0 l i r).2.length = l.length + r.2.length := by
  have h := rput_keys t0 l i r hi
  have h2 := congrArg List.length h
  simp only [keysR, List.length_map, List.length_append, List.length_take, List.length_drop] at h2
  omega
end Go.Proofs.Ytdilkgcoecipjaa
