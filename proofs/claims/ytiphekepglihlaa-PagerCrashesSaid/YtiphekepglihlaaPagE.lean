/- package pager: are two heads one and the same; a head's bytes. -/
import Derived.Test.YtiphekepglihlaaPagQ
import Derived.DeepKeys
namespace Go.Proofs.Ytiphekepglihlaa
open Go.RowKit Go.Maps
set_option linter.unusedVariables false

theorem mapM_all {α β : Type} {f : α → Option β} {g : α → β} : ∀ (l : List α), (∀ x ∈ l, f x = some (g x)) → l.mapM f = some (l.map g)
  | [], _ => rfl
  | x :: l, h => by
    rw [List.mapM_cons, h x (List.mem_cons_self ..), mapM_all l (fun y hy => h y (List.mem_cons_of_mem _ hy))]
    rfl
theorem cellsU8 : Try.prog.cellsOf 5 = 1 := by kernel_rfl
theorem cellsInt : Try.prog.cellsOf 3 = 1 := by kernel_rfl
theorem cells375 : Try.prog.cellsOf 76 = 375 := by kernel_rfl
theorem cellsHead : Try.prog.cellsOf 78 = 378 := by kernel_rfl
theorem u8_lit (b : UInt8) : Try.prog.keyLits 1 5 [.int .u8 b.toNat] = some [.int .u8 b.toNat] := by
  unfold Program.keyLits
  simp only [Try.underlying5]
  rw [if_pos]
  refine ⟨trivial, ?_⟩
  have := b.toNat_lt
  simp only [Lit.wf, IntKind.min, IntKind.max, IntKind.signed, IntKind.bits]
  simp
  omega
theorem int_lit {x : Int} (h0 : -9223372036854775808 ≤ x) (h1 : x ≤ 9223372036854775807) : Try.prog.keyLits 2 3 [.int .i64 x] = some [.int .i64 x] := by
  unfold Program.keyLits
  simp only [Try.underlying3]
  rw [if_pos]
  refine ⟨trivial, ?_⟩
  simp only [Lit.wf, IntKind.min, IntKind.max, IntKind.signed, IntKind.bits]
  simp
  omega
theorem used_lits (u : List UInt8) (hu : u.length = 375) : Try.prog.keyLits 2 76 (bv u) = some (u.map fun b => Lit.int .u8 b.toNat) := by
  unfold Program.keyLits
  simp only [Try.underlying76]
  rw [cells375, cellsU8, if_pos (by rw [bv_length, hu])]
  rw [mapM_all (g := fun i => [Lit.int .u8 (u.getD i 0).toNat]) _ (fun i hi => by
    rw [List.mem_range] at hi
    have hl : i < u.length := by omega
    rw [Nat.mul_one, show ((bv u).drop i).take 1 = [.int .u8 (u.getD i 0).toNat] by
      rw [List.drop_eq_getElem_cons (by rw [bv_length]; exact hl)]
      simp [bv, hl]]
    exact u8_lit _)]
  rw [Option.map_some]
  congr 1
  rw [← List.flatMap_def, ← List.map_eq_flatMap]
  apply List.ext_getElem
  · simp [hu]
  · intro i h1 h2
    simp at h1 h2
    simp [h2]
structure HdOk (h : HD) : Prop where
  used : h.used.length = 375
  r0 : -9223372036854775808 ≤ h.root
  r1 : h.root ≤ 9223372036854775807
  e0 : -9223372036854775808 ≤ h.ever
  e1 : h.ever ≤ 9223372036854775807
  f0 : -9223372036854775808 ≤ h.free
  f1 : h.free ≤ 9223372036854775807
def hdLits (h : HD) : List Lit := .int .i64 h.root :: .int .i64 h.ever :: .int .i64 h.free :: h.used.map fun b => Lit.int .u8 b.toNat
set_option maxRecDepth 100000 in
theorem hd_lits {h : HD} (ok : HdOk h) : Try.prog.keyLits 3 78 (hdC h) = some (hdLits h) := by
  unfold Program.keyLits
  simp only [Try.underlying78]
  rw [cellsHead, if_pos ⟨hdC_length ok.used, by kernel_rfl⟩]
  have e1 : ((hdC h).drop 0).take 1 = [.int .i64 h.root] := rfl
  have e2 : ((hdC h).drop 1).take 1 = [.int .i64 h.ever] := rfl
  have e3 : ((hdC h).drop 2).take 1 = [.int .i64 h.free] := rfl
  have e4 : ((hdC h).drop 3).take 375 = bv h.used := by
    unfold hdC
    rw [List.drop_succ_cons, List.drop_succ_cons, List.drop_succ_cons, List.drop_zero, List.take_of_length_le (by rw [bv_length, ok.used]; exact Nat.le_refl _)]
  simp only [List.mapM_cons, List.mapM_nil, cellsInt, cells375, e1, e2, e3, e4, int_lit ok.r0 ok.r1, int_lit ok.e0 ok.e1, int_lit ok.f0 ok.f1, used_lits _ ok.used]
  simp [hdLits]
def hdEq (a b : HD) : Bool := decide (a.root = b.root ∧ a.ever = b.ever ∧ a.free = b.free ∧ a.used = b.used)
theorem hdEq_iff {a b : HD} : hdEq a b = true ↔ a = b := by
  unfold hdEq
  rw [decide_eq_true_eq]
  cases a; cases b
  simp
theorem hdLits_inj {a b : HD} : hdLits a = hdLits b ↔ a = b := by
  unfold hdLits
  refine ⟨fun h => ?_, fun h => by rw [h]⟩
  simp only [List.cons.injEq, Lit.int.injEq, true_and] at h
  obtain ⟨h1, h2, h3, h4⟩ := h
  have h5 : a.used = b.used := by
    have hinj : ∀ x y : UInt8, (fun b : UInt8 => Lit.int .u8 b.toNat) x = (fun b : UInt8 => Lit.int .u8 b.toNat) y → x = y := fun x y e => by
      simp only [Lit.int.injEq, true_and] at e
      exact UInt8.toNat_inj.1 (by omega)
    exact (List.map_inj_right hinj).1 h4
  cases a; cases b
  simp_all
theorem hd_formed {h : HD} (hu : h.used.length = 375) : (Value.agg (hdC h).toArray).formed Try.prog 78 = true := by
  unfold Value.formed
  rw [Try.underlying78]
  simp only [List.size_toArray, hdC_length hu, cellsHead]
  rfl
theorem hdKey : Try.prog.keyTypeAt 3 78 = true := by kernel_rfl
theorem hd_equal {a b : HD} (oa : HdOk a) (ob : HdOk b) (w : World) : (Op.equal 78 (.agg (hdC a).toArray) (.agg (hdC b).toArray)).run Try.prog w = .ok (hdEq a b) w := by
  obtain ⟨r, hr, hiff⟩ := run_equalIn_deep (P := Try.prog) 9997 3 78 hdKey w 3 3 (.agg (hdC a).toArray) (.agg (hdC b).toArray) (hdLits a) (hdLits b) (hd_formed oa.used) (hd_formed ob.used) (hd_lits oa) (hd_lits ob)
  have e : r = hdEq a b := by
    rw [Bool.eq_iff_iff, hiff, hdLits_inj, hdEq_iff]
  rw [← e]
  exact hr

theorem hdGuard : Try.prog.eqGuardType Try.prog.depth 78 = false := by kernel_rfl
theorem hd_guard (x y : Operand) (a b : Array Value) (w : World) : (eqGuard .neq 78 x y (.agg a) (.agg b)).run Try.prog w = .ok () w := by
  unfold eqGuard
  simp only [Bool.not_true, Bool.false_eq_true, if_false, Sem.run_bind, Sem.run_pure, Result.andThen_ok, run_program, hdGuard, Bool.not_false, if_true]
theorem exec_hd_neq {w : World} {o : Oper} {a : Act} {ty : TypeId} {h1 h2 : HD} (o1 : HdOk h1) (o2 : HdOk h2) (x y : Operand) (ho : o.op = .binOp .neq 78 x y ty) (hx : a.eval x = .agg (hdC h1).toArray) (hy : a.eval y = .agg (hdC h2).toArray) :
    (execOp a.eval o).run Try.prog w = .ok (.value (.bool (!hdEq h1 h2))) w := by
  unfold execOp
  simp only [ho, hx, hy, Sem.run_bind, hd_guard, Result.andThen_ok, binOp, Sem.run_pure, hd_equal o1 o2]
/-- a head's bytes -/
def hdB (h : HD) : List UInt8 := le8 h.root ++ le8 h.ever ++ le8 h.free ++ h.used
theorem hdB_length {h : HD} (hu : h.used.length = 375) : (hdB h).length = 399 := by simp [hdB, le8_length, hu]

set_option maxRecDepth 100000 in
set_option maxHeartbeats 2000000 in
theorem bytes_any (w : World) (h : HD) (hu : h.used.length = 375) :
    Calls Try.prog 74 #[.agg (hdC h).toArray] w (Made w (hdB h)) := by
  have U := hid hu
  clear hu
  go_enter Try.func74, Try.ntmps74
  have hblk : Hid (Blk (w.alloc (Obj.cells (hdC h).toArray 78)) w.heap.size (hdC h) 78) := hid (heap_alloc_new w _)
  have hbel : Hid (Below w.heap.size w (w.alloc (Obj.cells (hdC h).toArray 78))) := hid ((Below.refl _ _).alloc (Nat.le_refl _) _)
  go_wp2_with fail
  generalize w.alloc (Obj.cells (hdC h).toArray 78) = w0 at *
  have hS : Hid (∀ w', Below w0.heap.size w0 w' → Blk w' w.heap.size (hdC h) 78) := hid (fun w' hb => hblk.out.chg (Chg.new hb (fun _ => False)) (fun h => h))
  have hlt : w.heap.size < w0.heap.size := hblk.out.lt
  refine wp_region_plan (fun w' => Blk w' w.heap.size (hdC h) 78) (fun j => !([2, 5, 8, 11, 12].contains j)) (fun j => [11, 12].contains j)
    (.of [0, 1, 3, 4, 6, 7, 9, 10, 2, 5, 8, 11, 12]) (by kernel_rfl) (by kernel_rfl) rfl (by kernel_rfl) (by kernel_rfl) (hS.out _ (below_drewN (Below.refl _ _) 1)) ?_
  iterate 8 (apply wpPlan_val; (case ho => rfl); (case hst => rfl); (case hw => rfl); (case hv => intro w' hS; have k0 : w'.cell? ⟨w.heap.size, 0, none⟩ = some (.int .i64 h.root) := (hS.cell 0).trans rfl; have k1 : w'.cell? ⟨w.heap.size, 1, none⟩ = some (.int .i64 h.ever) := (hS.cell 1).trans rfl; have k2 : w'.cell? ⟨w.heap.size, 2, none⟩ = some (.int .i64 h.free) := (hS.cell 2).trans rfl; clear hS; go_simp; first | done | rfl); intro K hK; go_simp; refine hK _ ?_; clear hK K)
  have BD : Hid (Below w0.heap.size w0 w0.drew) := hid (below_drewN (Below.refl _ _) 1)
  refine wpPlan_list rfl rfl rfl (fun K hK => ?_)
  refine wpList_step (fun K2 hK2 => ?_)
  go_simp
  refine (cInt_any (.slice none 0 0) [] h.root w0.drew (Rd.nil _ _) (by simp)).mono ?_
  rintro e1 w1 ⟨p1, n1, c1, rfl, hn1, hb1, ho1⟩
  rw [List.nil_append] at ho1 hn1
  have hn1' : n1 = 8 := hn1
  subst hn1'
  have B1 := hid (BD.out.trans (hb1.mono BD.out.size))
  have O1 := hid (show Bs w1 (.slice p1 8 c1) (le8 h.root) from Rd.of_own ho1)
  clear hb1 ho1 hn1
  go_simp
  refine hK2 _ _ ?_
  clear hK2 K2
  simp only [wpList]
  refine hK _ _ (fun _ => hS.out _ B1.out) ?_
  clear hK K
  refine wpPlan_list rfl rfl rfl (fun K hK => ?_)
  refine wpList_step (fun K2 hK2 => ?_)
  go_simp
  refine (cInt_any (.slice p1 8 c1) (le8 h.root) h.ever w1 O1.out (by rw [le8_length]; omega)).mono ?_
  rintro e2 w2 ⟨p2, n2, c2, rfl, hn2, hb2, ho2⟩
  have hn2' : n2 = 16 := hn2.trans (by rw [List.length_append, le8_length]; rfl)
  subst hn2'
  have B2 := hid (B1.out.trans (hb2.mono B1.out.size))
  have O2 := hid (show Bs w2 (.slice p2 16 c2) (le8 h.root ++ le8 h.ever) from by unfold Bs; rw [show (le8 h.root ++ le8 h.ever).length = 16 by rw [List.length_append, le8_length, le8_length]]; exact Rd.of_own ho2)
  clear hb2 ho2 hn2
  go_simp
  refine hK2 _ _ ?_
  clear hK2 K2
  simp only [wpList]
  refine hK _ _ (fun _ => hS.out _ B2.out) ?_
  clear hK K
  refine wpPlan_list rfl rfl rfl (fun K hK => ?_)
  refine wpList_step (fun K2 hK2 => ?_)
  go_simp
  refine (cInt_any (.slice p2 16 c2) (le8 h.root ++ le8 h.ever) h.free w2 O2.out (by rw [List.length_append, le8_length, le8_length]; omega)).mono ?_
  rintro e3 w3 ⟨p3, n3, c3, rfl, hn3, hb3, ho3⟩
  have hn3' : n3 = 24 := hn3.trans (by rw [List.length_append, List.length_append, le8_length, le8_length]; rfl)
  subst hn3'
  have B3 := hid (B2.out.trans (hb3.mono B2.out.size))
  have hlo3 : Hid (w.heap.size ≤ w2.heap.size) := hid (Nat.le_trans (Nat.le_of_lt hlt) B2.out.size)
  have O3 := hid (ownsRow_lower ho3 hlo3.out)
  clear hb3 ho3 hn3
  go_simp
  refine hK2 _ _ ?_
  clear hK2 K2
  simp only [wpList]
  refine hK _ _ (fun _ => hS.out _ B3.out) ?_
  clear hK K
  refine wpPlan_list rfl rfl rfl (fun K hK => ?_)
  have hsrc : Rd w3 1 (.slice (some ⟨w.heap.size, 3, none⟩) 375 375) 375 (bv h.used) := by
    have h1 := Rd.blk (off := 3) (n := 375) (c := 375) (size := 1) (hS.out _ B3.out) (by omega) (by simp only [maxLen]; omega) (by rw [hdC_length U.out]; omega)
    have e : ((hdC h).drop 3).take (375 * 1) = bv h.used := by
      unfold hdC
      rw [List.drop_succ_cons, List.drop_succ_cons, List.drop_succ_cons, List.drop_zero, List.take_of_length_le (by rw [bv_length, U.out]; omega)]
    rw [e] at h1
    exact h1
  refine wpList_append_rd rfl _ _ 41 rfl w.heap.size 5 _ 1 1 Try.underlying41 infoU8 rfl (by decide) _ 24 _ rfl O3.out _ 375 _ rfl hsrc (bv_one _) (by simp only [maxLen]; omega) (by omega) (Nat.le_trans (Nat.le_of_lt hlt) B3.out.size) ?_
  intro p4 c4 w4 hown4 hg4 hb4
  have hc4 : Chg (fun k => w.heap.size ≤ k) w3 w4 := (Chg.grown hg4).mono (fun k _ e => (O3.out.lt k e).1)
  have B4 := hid ((hbel.out.trans (B3.out.mono (Nat.le_of_lt hlt))).trans (hc4.below (fun k hk => hk) (Nat.le_trans (Nat.le_of_lt hlt) B3.out.size)))
  have O4 := hid hown4
  clear hsrc hown4 hg4 hb4 hc4
  simp only [wpList]
  refine hK _ _ (fun h => by cases h) ?_
  clear hK K
  refine wpPlan_list rfl rfl rfl (fun K hK => ?_)
  refine wpList_step (fun K2 hK2 => ?_)
  go_simp
  refine hK2 _ _ ?_
  clear hK2 K2
  simp only [wpList]
  refine hK _ _ (fun h => by cases h) ?_
  clear hK K
  refine wpPlan_nil ?_
  simp only [Qn]
  go_wp2_with fail
  go_ret
  refine ⟨p4, 399, c4, rfl, (hdB_length U.out).symm, B4.out, ?_⟩
  have h9 := O4.out
  rw [← bv_append] at h9
  exact h9
end Go.Proofs.Ytiphekepglihlaa
