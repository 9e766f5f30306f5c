/- Arrays and rows of several cells in blocks: what is loaded, stored, copied, made. -/
import Derived.Test.YtdilkgcoecipjaaHeap
import Derived.StillTailTactics
namespace Go.Proofs.Ytdilkgcoecipjaa
open Go.RowKit
set_option linter.unusedVariables false

/-- a block's cells -/
abbrev Blk (w : World) (g : Nat) (cur : List Value) (T : TypeId) : Prop := w.heap[g]? = some (.cells cur.toArray T (0, 0))

theorem Blk.lt {w : World} {g : Nat} {cur : List Value} {T : TypeId} (h : Blk w g cur T) : g < w.heap.size := (Array.getElem?_eq_some_iff.1 h).1
theorem Blk.cell {w : World} {g : Nat} {cur : List Value} {T : TypeId} (h : Blk w g cur T) (j : Nat) : w.cell? ⟨g, j, none⟩ = cur[j]? := by
  rw [cell_of_row _ _ _ _ _ _ h]; simp
theorem Blk.frozen {w : World} {g : Nat} {cur : List Value} {T : TypeId} (h : Blk w g cur T) (j : Nat) : w.frozen? ⟨g, j, none⟩ = false := frozen_of_row _ _ _ _ _ h
theorem Blk.set {w : World} {g : Nat} {cur : List Value} {T : TypeId} (h : Blk w g cur T) (j : Nat) (v : Value) : Blk (w.setCell ⟨g, j, none⟩ v) g (cur.set j v) T := by
  unfold Blk
  rw [heap_setCell_same _ _ _ _ _ _ h]; simp
theorem Blk.chg {w w' : World} {fp : Nat → Prop} {g : Nat} {cur : List Value} {T : TypeId} (h : Blk w g cur T) (hc : Chg fp w w') (hn : ¬ fp g) : Blk w' g cur T := hc.heap h hn

theorem setRow_blk {w : World} {g : Nat} {cur new : List Value} {T : TypeId} (h : Blk w g cur T) : Blk (w.setRow g new.toArray) g new T := setRow_heap w g _ _ T _ h
theorem setRow_size (w : World) (g : Nat) (cs : Array Value) : (w.setRow g cs).heap.size = w.heap.size := by simp

/-- part of a block, as a reading -/
theorem Rd.blk {w : World} {g off n c size : Nat} {cur : List Value} {T : TypeId} (h : Blk w g cur T) (hn : n ≤ c) (hm : c ≤ maxLen) (hf : off + n * size ≤ cur.length) :
    Rd w size (.slice (some ⟨g, off, none⟩) n c) n ((cur.drop off).take (n * size)) := by
  refine ⟨by simp; omega, _, _, rfl, hn, hm, (fun h => by cases h), fun a ha j u hu => ?_⟩
  cases ha
  refine ⟨rfl, ?_⟩
  rw [h.cell]
  rw [List.getElem?_take] at hu
  split at hu
  · rwa [List.getElem?_drop] at hu
  · cases hu

theorem Chg.grown {w w' : World} {row : Option Nat} (h : w.grownBy w' row) : Chg (fun q => row = some q) w w' :=
  ⟨h.os, h.tape, h.output, h.size, fun k hk hn => h.block k hk fun e => hn e.symm⟩

section
variable {P : Program}

theorem run_storeCells_blk (w : World) (g off : Nat) (T : TypeId) (cur xs : List Value) (hg : Blk w g cur T) (hfit : off + xs.length ≤ cur.length) (h1 : ∀ u ∈ xs, u.oneCell' = true) :
    (storeCells ⟨g, off, none⟩ xs).run P w = .ok () (w.setRow g (splice cur off xs).toArray) := by
  have h := run_storeCells_at P g off T xs 0 cur.toArray w hg (by simpa using hfit) h1
  simp only [Nat.add_zero] at h
  simpa [splice] using h

theorem run_store_arr (w : World) (ty : TypeId) (size : Nat) (hi : (P.info? ty).map (·.size) = some size) (g off : Nat) (T : TypeId) (cur xs : List Value) (hg : Blk w g cur T) (hl : xs.length = size)
    (hfit : off + size ≤ cur.length) (h1 : ∀ u ∈ xs, u.oneCell' = true) :
    (Instr.storeAt ty (.pointer (some ⟨g, off, none⟩)) (.agg xs.toArray)).run P w = .ok () (w.setRow g (splice cur off xs).toArray) := by
  obtain ⟨i, hi', rfl⟩ := Option.map_eq_some_iff.1 hi
  have hs := run_storeCells_blk (P := P) w g off T cur xs hg (by omega) h1
  simp only [Instr.storeAt, Instr.sureAddr, storeVar, Sem.run_bind, Sem.run_pure, Result.andThen_ok]
  simp [sizeOf, typeInfo, hi', Value.cells, hl, hs]

theorem wpList_store_arr {w : World} {ops : Array Oper} {rest : List Oper} {o : Oper} {a : Act} {Q : Exit → Act → World → Prop} (hgd : o.guard = none) (ty : TypeId) (x y : Operand) (ho : o.op = .store ty x y)
    (size : Nat) (hi : (P.info? ty).map (·.size) = some size) (g off : Nat) (T : TypeId) (cur xs : List Value) (hx : a.eval x = .pointer (some ⟨g, off, none⟩)) (hy : a.eval y = .agg xs.toArray)
    (hg : Blk w g cur T) (hl : xs.length = size) (hfit : off + size ≤ cur.length) (h1 : ∀ u ∈ xs, u.oneCell' = true)
    (h : ∀ w', Blk w' g (splice cur off xs) T → Chg (fun k => k = g) w w' → w'.heap.size = w.heap.size → wpList P ops Q rest (a.put o.dst undef) w') : wpList P ops Q (o :: rest) a w := by
  refine wpList_plain hgd fun K hK => ?_
  have hr := run_store_arr (P := P) w ty size hi g off T cur xs hg hl hfit h1
  unfold Oper.wp execOp
  simp only [ho, hx, hy, hr, Sem.run_bind, Sem.run_pure, Result.andThen_ok]
  exact hK _ _ (h _ (setRow_blk hg) (Chg.setRow (fp := fun k => k = g) _ rfl _) (setRow_size _ _ _))

theorem run_load_arr (w : World) (ty : TypeId) (d : TypeDesc) (hu : P.underlying ty = some d) (hd : (match d with | .struct _ | .array _ _ => true | _ => false) = true) (size : Nat) (hi : (P.info? ty).map (·.size) = some size)
    (g off : Nat) (T : TypeId) (cur : List Value) (hg : Blk w g cur T) (hfit : off + size ≤ cur.length) :
    (Instr.loadAt ty (.pointer (some ⟨g, off, none⟩))).run P w = .ok (.agg ((cur.drop off).take size).toArray) w := by
  obtain ⟨i, hi', rfl⟩ := Option.map_eq_some_iff.1 hi
  have hlen : ((cur.drop off).take i.size).length = i.size := by simp; omega
  have hl := run_loadCells_list (P := P) w ⟨g, off, none⟩ ((cur.drop off).take i.size) (fun j v hv => by
    have hadd : (⟨g, off, none⟩ : Addr).add j = ⟨g, off + j, none⟩ := by unfold Addr.add; split <;> simp_all
    rw [hadd, hg.cell]
    rw [List.getElem?_take] at hv
    split at hv
    · rwa [List.getElem?_drop] at hv
    · cases hv)
  rw [hlen] at hl
  have hagg : (isAgg ty).run P w = .ok true w := by
    unfold isAgg
    rw [Sem.run_bind, run_underlying hu w]
    cases d <;> simp_all
  simp only [Instr.loadAt, Instr.sureAddr, Sem.run_bind, Sem.run_pure, Result.andThen_ok]
  simp [loadVar, Sem.run_bind, hagg, sizeOf, typeInfo, hi', hl]

theorem exec_load_arr {w : World} {o : Oper} {a : Act} (ty : TypeId) (x : Operand) (ho : o.op = .load ty x)
    (d : TypeDesc) (hu : P.underlying ty = some d) (hd : (match d with | .struct _ | .array _ _ => true | _ => false) = true) (size : Nat) (hi : (P.info? ty).map (·.size) = some size)
    (g off : Nat) (T : TypeId) (cur : List Value) (hx : a.eval x = .pointer (some ⟨g, off, none⟩)) (hg : Blk w g cur T) (hfit : off + size ≤ cur.length)
    (xs : List Value) (hxs : (cur.drop off).take size = xs) : (execOp a.eval o).run P w = .ok (.value (.agg xs.toArray)) w := by
  have hr := run_load_arr (P := P) w ty d hu hd size hi g off T cur hg hfit
  rw [hxs] at hr
  unfold execOp
  simp only [ho, hx, hr, Sem.run_bind, Sem.run_pure, Result.andThen_ok]

theorem wpList_load_arr {w : World} {ops : Array Oper} {rest : List Oper} {o : Oper} {a : Act} {Q : Exit → Act → World → Prop} (hgd : o.guard = none) (ty : TypeId) (x : Operand) (ho : o.op = .load ty x)
    (d : TypeDesc) (hu : P.underlying ty = some d) (hd : (match d with | .struct _ | .array _ _ => true | _ => false) = true) (size : Nat) (hi : (P.info? ty).map (·.size) = some size)
    (g off : Nat) (T : TypeId) (cur : List Value) (hx : a.eval x = .pointer (some ⟨g, off, none⟩)) (hg : Blk w g cur T) (hfit : off + size ≤ cur.length)
    (xs : List Value) (hxs : (cur.drop off).take size = xs) (h : wpList P ops Q rest (a.put o.dst (.agg xs.toArray)) w) : wpList P ops Q (o :: rest) a w := by
  refine wpList_plain hgd fun K hK => ?_
  have hr := run_load_arr (P := P) w ty d hu hd size hi g off T cur hg hfit
  rw [hxs] at hr
  unfold Oper.wp execOp
  simp only [ho, hx, hr, Sem.run_bind, Sem.run_pure, Result.andThen_ok]
  exact hK _ _ h

theorem wpStill_load_arr {w : World} {ops : Array Oper} {rest : List Oper} {o : Oper} {a : Act} {Q : Act → Prop} (hgd : o.guard = none) (ty : TypeId) (x : Operand) (ho : o.op = .load ty x)
    (d : TypeDesc) (hu : P.underlying ty = some d) (hd : (match d with | .struct _ | .array _ _ => true | _ => false) = true) (size : Nat) (hi : (P.info? ty).map (·.size) = some size)
    (g off : Nat) (T : TypeId) (cur : List Value) (hx : a.eval x = .pointer (some ⟨g, off, none⟩)) (hg : Blk w g cur T) (hfit : off + size ≤ cur.length)
    (xs : List Value) (hxs : (cur.drop off).take size = xs) (h : wpStill P ops w Q rest (a.put o.dst (.agg xs.toArray))) : wpStill P ops w Q (o :: rest) a := by
  refine wpStill_step fun K hK => ?_
  have hr := run_load_arr (P := P) w ty d hu hd size hi g off T cur hg hfit
  rw [hxs] at hr
  rw [if_pos (by simp [Region.wanted, hgd])]
  unfold Oper.still execOp
  simp only [ho, hx, hr, Sem.run_bind, Sem.run_pure, Result.andThen_ok, Oper.stillUpon]
  exact ⟨trivial, hK _ h⟩

theorem run_copy_gen (w : World) (dT sT ty e : TypeId) (size : Nat) (hu : P.underlying dT = some (.slice e)) (hsz : (P.info? e).map (·.size) = some size)
    (g off dLen dCap : Nat) (T : TypeId) (cur : List Value) (hg : Blk w g cur T) (sv : Value) (sn : Nat) (xs : List Value) (hrd : Rd w size sv sn xs) (hfit : off + min sn dLen * size ≤ cur.length) (h1 : ∀ u ∈ xs, u.oneCell' = true) :
    (Builtin.copy_ #[dT, sT] ty #[.slice (some ⟨g, off, none⟩) dLen dCap, sv]).run P w = .ok (goInt (min sn dLen)) (w.setRow g (splice cur off (xs.take (min sn dLen * size))).toArray) := by
  obtain ⟨i, hi, rfl⟩ := Option.map_eq_some_iff.1 hsz
  obtain ⟨hl, p, cap, rfl, h2, h3, h4, h5⟩ := hrd
  have hlt : (xs.take (min sn dLen * i.size)).length = min sn dLen * i.size := by
    have := Nat.mul_le_mul_right i.size (Nat.min_le_left sn dLen)
    simp; omega
  have hf : (Builtin.firstCells i.size (min sn dLen) (.slice p sn cap)).run P w = .ok (xs.take (min sn dLen * i.size)).toArray w := by
    cases p with
    | none =>
      have := h4 rfl
      obtain rfl : sn = 0 := by omega
      simp [Builtin.firstCells]
    | some a =>
      refine run_firstCells_some w i.size _ a _ _ _ hlt (fun j v hv => ?_)
      rw [List.getElem?_take] at hv
      split at hv
      · obtain ⟨hs, hc⟩ := h5 a rfl j v hv
        rw [Addr.add_off a hs]; exact hc
      · cases hv
  have hst := run_storeCells_blk (P := P) w g off T cur (xs.take (min sn dLen * i.size)) hg (by rw [hlt]; exact hfit) (fun u hu => h1 u (List.mem_of_mem_take hu))
  have hmin : Nat.min sn dLen = min sn dLen := rfl
  have hcast : ((min sn dLen : Nat) : Int) = min (sn : Int) (dLen : Int) := by omega
  simp [Builtin.copy_, run_underlying hu, sizeOf, typeInfo, hi, Builtin.lenOf, hmin, hf, hst]
  rw [hcast]

theorem wpList_copy_gen {w : World} {ops : Array Oper} {rest : List Oper} {o : Oper} {a : Act} {Q : Exit → Act → World → Prop} (hgd : o.guard = none) (d s : Operand) (dT sT : TypeId)
    (ho : o.op = .call { callee := .builtin .copy, args := #[d, s], argTypes := #[dT, sT] }) (e : TypeId) (size : Nat) (hu : P.underlying dT = some (.slice e)) (hsz : (P.info? e).map (·.size) = some size)
    (g off dLen dCap : Nat) (hd : a.eval d = .slice (some ⟨g, off, none⟩) dLen dCap) (T : TypeId) (cur : List Value) (hg : Blk w g cur T)
    (sv : Value) (hs : a.eval s = sv) (sn : Nat) (xs : List Value) (hrd : Rd w size sv sn xs) (hfit : off + min sn dLen * size ≤ cur.length) (h1 : ∀ u ∈ xs, u.oneCell' = true)
    (h : ∀ w', Blk w' g (splice cur off (xs.take (min sn dLen * size))) T → Chg (fun k => k = g) w w' → w'.heap.size = w.heap.size → wpList P ops Q rest (a.put o.dst (goInt (min sn dLen))) w') :
    wpList P ops Q (o :: rest) a w := by
  refine wpList_plain hgd fun K hK => ?_
  have hr := run_copy_gen (P := P) w dT sT o.type e size hu hsz g off dLen dCap T cur hg sv sn xs hrd hfit h1
  unfold Oper.wp execOp
  simp only [ho, resolve, invoke, builtin, Sem.run_bind, Sem.run_pure, Result.andThen_ok, List.map_toArray, List.map_cons, List.map_nil, hd, hs, hr]
  exact hK _ _ (h _ (setRow_blk hg) (Chg.setRow (fp := fun k => k = g) _ rfl _) (setRow_size _ _ _))

/-- a new variable of a type whose zero value has many cells -/
theorem wpList_alloc_z {w : World} {ops : Array Oper} {rest : List Oper} {o : Oper} {a : Act} {Q : Exit → Act → World → Prop} (hgd : o.guard = none) (ty : TypeId) (ho : o.op = .alloc ty)
    (zs : List Value) (hz : (P.info? ty).map (·.zero) = some (some (.agg zs.toArray)))
    (h : ∀ w', Blk w' w.heap.size zs ty → Below w.heap.size w w' → w.heap.size < w'.heap.size → wpList P ops Q rest (a.put o.dst (.pointer (some ⟨w.heap.size, 0, none⟩))) w') :
    wpList P ops Q (o :: rest) a w := by
  obtain ⟨i, hi, hzero⟩ := Option.map_eq_some_iff.1 hz
  refine wpList_plain hgd fun K hK => ?_
  have hr : (Instr.alloc ty true (.tuple #[])).run P w = .ok (.pointer (some ⟨w.heap.size, 0, none⟩)) (w.alloc (.cells zs.toArray ty)) := by
    simp [Instr.alloc, zeroValue, typeInfo, hi, hzero, newVar, newRow, Value.cells]
  unfold Oper.wp execOp
  simp only [ho, hr, Sem.run_bind, Sem.run_pure, Result.andThen_ok]
  exact hK _ _ (h _ (heap_alloc_new w _) ((Below.refl _ _).alloc (Nat.le_refl _) _) (by simp))

theorem fold_sets (xs : List Value) : ∀ (k : Nat) (cells : Array Value), k + xs.length ≤ cells.size →
    ((xs.zipIdx k).foldl (fun cs (c, j) => cs.setIfInBounds j c) cells).toList = cells.toList.take k ++ xs ++ cells.toList.drop (k + xs.length) := by
  induction xs with
  | nil => intro k cells h; simp
  | cons x r ih =>
    intro k cells h
    simp only [List.length_cons] at h
    simp only [List.zipIdx_cons, List.foldl_cons]
    rw [ih (k + 1) (cells.setIfInBounds k x) (by simp; omega)]
    simp only [Array.toList_setIfInBounds, List.length_cons]
    have hk : k < cells.toList.length := by simp; omega
    rw [List.take_set, List.take_succ_eq_append_getElem hk, List.drop_set_of_lt (by omega)]
    have e1 : (cells.toList.take k ++ [cells.toList[k]]).set k x = cells.toList.take k ++ [x] := by
      rw [List.set_append_right _ _ (by simp; omega)]
      simp [Nat.min_eq_left (Nat.le_of_lt (show k < cells.size by omega))]
    rw [e1]
    simp [Nat.add_assoc, Nat.add_comm 1]

theorem fill_whole (xs : List Value) (size : Nat) (hl : xs.length = size) (cells : Array Value) (hc : cells.size = size) :
    Instr.fill (fun i => some (i * size, size)) cells [(0, .agg xs.toArray)] = some xs.toArray := by
  simp only [Instr.fill, Value.cells, List.size_toArray, hl, hc, Nat.zero_mul, Nat.zero_add]
  rw [if_neg (by simp)]
  congr 1
  apply Array.ext'
  have h := fold_sets xs 0 cells (by omega)
  simp only [Nat.zero_add, List.take_zero, List.nil_append] at h
  rw [List.drop_of_length_le (by simp; omega), List.append_nil] at h
  have e : xs.toArray.zipIdx.toList = xs.zipIdx := by simp
  rw [← Array.foldl_toList, e]
  exact h

theorem run_buildSlice_one (w : World) (t e : TypeId) (size : Nat) (z : Value) (hu : P.underlying t = some (.slice e)) (hsz : (P.info? e).map (fun i => (i.zero, i.size)) = some (some z, size)) (hs0 : 0 < size) (hs1 : size ≤ 16777216)
    (xs : List Value) (hl : xs.length = size) : (Instr.buildSlice t 1 #[(0, .agg xs.toArray)]).run P w = .ok (.slice (some ⟨w.heap.size, 0, none⟩) 1 1) (w.alloc (.cells xs.toArray e)) := by
  obtain ⟨i, hi, he⟩ := Option.map_eq_some_iff.1 hsz
  simp only [Prod.mk.injEq] at he
  obtain ⟨hz, rfl⟩ := he
  have hf := fill_whole xs i.size hl ((Array.range (1 * i.size)).map (z.cells[· % z.cells.size]!)) (by simp)
  have h1 : ¬ (16777216 < i.size) := by omega
  have h2 : ¬ (i.size = 0) := by omega
  simp only [Nat.one_mul] at hf
  simp [Instr.buildSlice, run_underlying hu, sizeOf, typeInfo, hi, zeroValue, hz, h1, h2, hf, newRow]

theorem wpList_buildSlice_one {w : World} {ops : Array Oper} {rest : List Oper} {o : Oper} {a : Act} {Q : Exit → Act → World → Prop} (hgd : o.guard = none) (t : TypeId) (x : Operand) (ho : o.op = .buildSlice t 1 #[(0, x)])
    (e : TypeId) (size : Nat) (z : Value) (hu : P.underlying t = some (.slice e)) (hsz : (P.info? e).map (fun i => (i.zero, i.size)) = some (some z, size)) (hs0 : 0 < size) (hs1 : size ≤ 16777216)
    (xs : List Value) (hl : xs.length = size) (hx : a.eval x = .agg xs.toArray)
    (h : ∀ w', Blk w' w.heap.size xs e → Below w.heap.size w w' → w.heap.size < w'.heap.size → wpList P ops Q rest (a.put o.dst (.slice (some ⟨w.heap.size, 0, none⟩) 1 1)) w') :
    wpList P ops Q (o :: rest) a w := by
  refine wpList_plain hgd fun K hK => ?_
  have hr := run_buildSlice_one (P := P) w t e size z hu hsz hs0 hs1 xs hl
  unfold Oper.wp execOp
  simp only [ho, List.map_toArray, List.map_cons, List.map_nil, hx, hr, Sem.run_bind, Sem.run_pure, Result.andThen_ok]
  exact hK _ _ (h _ (heap_alloc_new w _) ((Below.refl _ _).alloc (Nat.le_refl _) _) (by simp))

theorem wpList_build_one {w : World} {ops : Array Oper} {rest : List Oper} {o : Oper} {a : Act} {Q : Exit → Act → World → Prop} (hgd : o.guard = none) (t : TypeId) (i : Nat) (x : Operand) (ho : o.op = .build t #[(i, x)])
    (xv v : Value) (hx : a.eval x = xv) (hr : (Instr.build t #[(i, xv)]).run P w = .ok v w) (h : wpList P ops Q rest (a.put o.dst v) w) : wpList P ops Q (o :: rest) a w := by
  refine wpList_plain hgd fun K hK => ?_
  unfold Oper.wp execOp
  simp only [ho, List.map_toArray, List.map_cons, List.map_nil, hx, hr, Sem.run_bind, Sem.run_pure, Result.andThen_ok]
  exact hK _ _ h

theorem wpList_build_run {w : World} {ops : Array Oper} {rest : List Oper} {o : Oper} {a : Act} {Q : Exit → Act → World → Prop} (hgd : o.guard = none) (t : TypeId) (ps : Array (Nat × Operand)) (ho : o.op = .build t ps)
    (v : Value) (hr : (Instr.build t (ps.map fun (i, x) => (i, a.eval x))).run P w = .ok v w) (h : wpList P ops Q rest (a.put o.dst v) w) : wpList P ops Q (o :: rest) a w := by
  refine wpList_plain hgd fun K hK => ?_
  unfold Oper.wp execOp
  simp only [ho, hr, Sem.run_bind, Sem.run_pure, Result.andThen_ok]
  exact hK _ _ h
end
theorem made_bytes (n : Nat) : madeCells (Value.int .u8 0).cells (n * 1) = (bv (List.replicate n 0)).toArray := by
  apply Array.ext'
  rw [Nat.mul_one]
  show (madeCells #[Value.int .u8 0] n).toList = _
  rw [toList_madeCells_one]
  simp [bv]
theorem splice_all {α : Type} (L X : List α) (h : L.length = X.length) : splice L 0 X = X := by
  simp [splice, h]
theorem bv_drop (l : List UInt8) (k : Nat) : (bv l).drop k = bv (l.drop k) := by simp [bv]
theorem bv_take (l : List UInt8) (k : Nat) : (bv l).take k = bv (l.take k) := by simp [bv]
theorem bv_splice (l r : List UInt8) (k : Nat) : splice (bv l) k (bv r) = bv (splice l k r) := by simp [splice, bv]
end Go.Proofs.Ytdilkgcoecipjaa
