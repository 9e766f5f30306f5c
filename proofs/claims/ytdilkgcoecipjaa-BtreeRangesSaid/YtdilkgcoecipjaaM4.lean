/- package pager: heads, and a pager's own cells. pager.Open. package pager: the marks of a head. package pager: pages, there, SetRoot. package pager: what is changed: a map of pages. package pager: read. package pager: a pager as one thing: its cells, its disk, its changed pages. package pager: Open, Begin, SetRoot, Put on the whole. package pager: fresh. package pager: marks on the whole. package pager: New, Drop, Put, Get, SetRoot, Root, Abort on the whole. -/
import Derived.Test.YtdilkgcoecipjaaM3
import Derived.Maps.Views
import Derived.Laws.Tables
namespace Go.Proofs.Ytdilkgcoecipjaa
open Go.RowKit
set_option linter.unusedVariables false

/-- what page 0 says -/
structure HD where
  root : Int
  ever : Int
  free : Int
  used : List UInt8

def hdC (h : HD) : List Value := .int .i64 h.root :: .int .i64 h.ever :: .int .i64 h.free :: bv h.used
def pgC (d : Value) (was now : HD) (op : Bool) (m f : Value) : List Value := d :: (hdC was ++ (hdC now ++ [.bool op, m, f]))
theorem hdC_length {h : HD} (hu : h.used.length = 375) : (hdC h).length = 378 := by simp [hdC, hu]
theorem pgC_length {d m f : Value} {was now : HD} {op : Bool} (h1 : was.used.length = 375) (h2 : now.used.length = 375) : (pgC d was now op m f).length = 760 := by
  simp [pgC, hdC_length h1, hdC_length h2]
theorem pgC_d {d m f : Value} {was now : HD} {op : Bool} : (pgC d was now op m f)[0]? = some d := rfl
theorem pgC_tail {d m f : Value} {was now : HD} {op : Bool} (h1 : was.used.length = 375) (h2 : now.used.length = 375) :
    (pgC d was now op m f)[757]? = some (.bool op) ∧ (pgC d was now op m f)[758]? = some m ∧ (pgC d was now op m f)[759]? = some f := by
  have e1 := hdC_length h1
  have e2 := hdC_length h2
  unfold pgC
  refine ⟨?_, ?_, ?_⟩ <;> rw [List.getElem?_cons_succ, List.getElem?_append_right (by omega), List.getElem?_append_right (by omega), e1, e2] <;> rfl
theorem pgC_was {d m f : Value} {was now : HD} {op : Bool} (h1 : was.used.length = 375) : ((pgC d was now op m f).drop 1).take 378 = hdC was := by
  have e1 := hdC_length h1
  unfold pgC
  rw [List.drop_succ_cons, List.drop_zero, List.take_left' e1]
theorem pgC_now {d m f : Value} {was now : HD} {op : Bool} (h1 : was.used.length = 375) (h2 : now.used.length = 375) : ((pgC d was now op m f).drop 379).take 378 = hdC now := by
  have e1 := hdC_length h1
  have e2 := hdC_length h2
  unfold pgC
  rw [List.drop_succ_cons, List.drop_left' e1, List.take_left' e2]
theorem pgC_setNow {d m f : Value} {was now h : HD} {op : Bool} (h1 : was.used.length = 375) (h2 : now.used.length = 375) (h3 : h.used.length = 375) : splice (pgC d was now op m f) 379 (hdC h) = pgC d was h op m f := by
  have e1 := hdC_length h1
  have e2 := hdC_length h2
  have e3 := hdC_length h3
  unfold pgC splice
  rw [List.take_succ_cons, List.take_left' e1, e3, show 379 + 378 = (378 + 378) + 1 by rfl, List.drop_succ_cons, ← List.drop_drop, List.drop_left' e1, List.drop_left' e2]
  simp
theorem pgC_setWas {d m f : Value} {was now h : HD} {op : Bool} (h1 : was.used.length = 375) (h3 : h.used.length = 375) : splice (pgC d was now op m f) 1 (hdC h) = pgC d h now op m f := by
  have e1 := hdC_length h1
  have e3 := hdC_length h3
  unfold pgC splice
  rw [List.take_succ_cons, List.take_zero, e3, show 1 + 378 = 378 + 1 by rfl, List.drop_succ_cons, List.drop_left' e1]
  rfl
theorem pgC_setOpen {d m f : Value} {was now : HD} {op : Bool} (o : Bool) (h1 : was.used.length = 375) (h2 : now.used.length = 375) : (pgC d was now op m f).set 757 (.bool o) = pgC d was now o m f := by
  have e1 := hdC_length h1
  have e2 := hdC_length h2
  unfold pgC
  rw [List.set_cons_succ, List.set_append_right _ _ (by omega), List.set_append_right _ _ (by omega), e1, e2]
  rfl
theorem pgC_setMap {d m f : Value} {was now : HD} {op : Bool} (o : Value) (h1 : was.used.length = 375) (h2 : now.used.length = 375) : (pgC d was now op m f).set 758 o = pgC d was now op o f := by
  have e1 := hdC_length h1
  have e2 := hdC_length h2
  unfold pgC
  rw [List.set_cons_succ, List.set_append_right _ _ (by omega), List.set_append_right _ _ (by omega), e1, e2]
  rfl
theorem pgC_setFn {d m f : Value} {was now : HD} {op : Bool} (o : Value) (h1 : was.used.length = 375) (h2 : now.used.length = 375) : (pgC d was now op m f).set 759 o = pgC d was now op m o := by
  have e1 := hdC_length h1
  have e2 := hdC_length h2
  unfold pgC
  rw [List.set_cons_succ, List.set_append_right _ _ (by omega), List.set_append_right _ _ (by omega), e1, e2]
  rfl

/-- the cells that a walk asks for -/
theorem pg_cells {w : World} {p : Nat} {d m f : Value} {was now : HD} {op : Bool} {T : TypeId} (h : Blk w p (pgC d was now op m f) T) (h1 : was.used.length = 375) (h2 : now.used.length = 375) :
    w.cell? ⟨p, 0, none⟩ = some d ∧ w.cell? ⟨p, 757, none⟩ = some (.bool op) ∧ w.cell? ⟨p, 758, none⟩ = some m ∧ w.cell? ⟨p, 759, none⟩ = some f ∧
    w.frozen? ⟨p, 0, none⟩ = false ∧ w.frozen? ⟨p, 757, none⟩ = false ∧ w.frozen? ⟨p, 758, none⟩ = false ∧ w.frozen? ⟨p, 759, none⟩ = false := by
  obtain ⟨t1, t2, t3⟩ := pgC_tail (d := d) (m := m) (f := f) (op := op) h1 h2
  refine ⟨?_, ?_, ?_, ?_, h.frozen 0, h.frozen 757, h.frozen 758, h.frozen 759⟩ <;> rw [h.cell] <;> first | rfl | assumption

theorem hdInfo : (Try.prog.info? 83).map (·.size) = some 378 := by kernel_rfl
theorem hdInfo0 : (Try.prog.info? 83).map (·.zero) = some (some (.agg (hdC ⟨0, 0, 0, List.replicate 375 0⟩).toArray)) := by kernel_rfl
theorem hdC_one (h : HD) : ∀ u ∈ hdC h, u.oneCell' = true := by
  intro u hu
  unfold hdC at hu
  simp only [List.mem_cons] at hu
  rcases hu with rfl | rfl | rfl | hu
  · rfl
  · rfl
  · rfl
  · exact bv_one _ u hu

set_option maxRecDepth 100000 in
set_option maxHeartbeats 2000000 in
theorem forget_any (w : World) (p : Nat) (d m f : Value) (was now : HD) (op : Bool) (h : Blk w p (pgC d was now op m f) 87) (h1 : was.used.length = 375) (h2 : now.used.length = 375) :
    Calls Try.prog 39 #[.pointer (some ⟨p, 0, none⟩)] w fun e w' => e = .returned (.tuple #[]) ∧ Chg (fun k => k = p) w w' ∧ Blk w' p (pgC d was was false (.map (some w.heap.size)) f) 87 ∧ w'.heap[w.heap.size]? = some (.map #[] 0) := by
  have H := hid h
  have H1 := hid h1
  have H2 := hid h2
  have hlt := h.lt
  clear h h1 h2
  have hmm := @run_makeMap Try.prog
  go_enter Try.func39, Try.ntmps39
  go_wp2_with (first
    | (refine wpList_load_arr rfl 83 _ rfl _ Try.underlying83 rfl 378 hdInfo p 1 87 _ rfl H.out (by rw [pgC_length H1.out H2.out]; omega) (hdC was) (pgC_was H1.out) ?_)
    | (refine wpList_store_arr rfl 83 _ _ rfl 378 hdInfo p 379 87 _ (hdC was) rfl rfl (H.out.chg (Chg.alloc (fun _ => False) _ _) (fun h => h)) (hdC_length H1.out) (by rw [pgC_length H1.out H2.out]; omega) (hdC_one _) ?_; intro w2 hw2 hc2 hs2; rw [pgC_setNow H1.out H2.out H1.out] at hw2; obtain ⟨c0, c1, c2, c3, f0, f1, f2, f3⟩ := pg_cells hw2 H1.out H1.out; have W2 := hid hw2; have C2 := hid hc2; clear hw2 hc2))
  go_end0
  refine ⟨rfl, ?_, ?_, ?_⟩
  · exact (((Chg.alloc _ _ _).trans C2.out (fun i hi h => h)).trans ((Chg.setCell (fp := fun k => k = p) _ rfl _).trans (Chg.setCell (fp := fun k => k = p) _ rfl _) (fun _ _ h => h)) (fun _ _ h => h))
  · have h3 := ((W2.out.set 758 (.map (some w.heap.size))).set 757 (.bool false))
    rw [pgC_setMap _ H1.out H1.out, pgC_setOpen _ H1.out H1.out] at h3
    exact h3
  · have hne : w.heap.size ≠ p := fun e => by omega
    rw [Below.heap_setCell _ _ _ _ hne, Below.heap_setCell _ _ _ _ hne, C2.out.heap (heap_alloc_new _ _) hne]

/-- the head that a page says -/
def hdP (b : List UInt8) : HD := ⟨wrap64 (num (b.take 8) : Nat), wrap64 (num ((b.drop 8).take 8) : Nat), wrap64 (num ((b.drop 16).take 8) : Nat), (b.drop 24).take 375⟩
theorem hdP_length {b : List UInt8} (h : b.length = 512) : (hdP b).used.length = 375 := by simp [hdP, h]
theorem hdBuild (x y z : Int) (w : World) : (Instr.build 83 #[(0, .int .i64 x), (1, .int .i64 y), (2, .int .i64 z)]).run Try.prog w = .ok (.agg (hdC ⟨x, y, z, List.replicate 375 0⟩).toArray) w := by kernel_rfl

set_option maxRecDepth 100000 in
set_option maxHeartbeats 2000000 in
theorem parse_any (w : World) (g : Nat) (b : List UInt8) (h : Blk w g (bv b) 5) (hl : b.length = 512) :
    Calls Try.prog 38 #[.slice (some ⟨g, 0, none⟩) 512 512] w fun e w' => e = .returned (.agg (hdC (hdP b)).toArray) ∧ Below w.heap.size w w' := by
  have H := hid h
  have L := hid hl
  clear h hl
  go_enter Try.func38, Try.ntmps38
  go_wp2_with (first
    | (refine wpList_alloc_z rfl 83 rfl _ hdInfo0 ?_; intro w1 hw1 hb1 hl1; have W1 := hid hw1; have B1 := hid hb1; clear hw1 hb1))
  have K1 : Hid (Bs w1 (.slice (some ⟨g, 0, none⟩) 512 512) b) := hid (Bs.blk (H.out.chg (Chg.new B1.out (fun _ => False)) (fun h => h)) L.out.symm (by simp [maxLen]))
  refine (New_any _ b w1 K1.out (by rw [L.out]; omega)).mono ?_
  rintro e1 w2 ⟨r, rfl, hb2, hr, ob, hob, hrd⟩
  have B2 := hid (B1.out.trans (hb2.mono B1.out.size))
  have W2 := hid (W1.out.chg (Chg.new hb2 (fun _ => False)) (fun h => h))
  have R2 := hid hrd
  clear hb2 hrd W1
  go_wp2_with fail
  refine (rInt_any r ob b 0 w2 R2.out (by rw [L.out]; omega) (by omega) (by omega)).mono ?_
  rintro e2 w3 ⟨rfl, hc3, hr3⟩
  rw [show tkGot b 0 8 = b.take 8 by unfold tkGot; rw [if_neg (by simp), if_neg (by rw [L.out]; omega)]]
  rw [show tkLeft b 0 8 = b.drop 8 by unfold tkLeft; rw [if_neg (by simp), if_neg (by rw [L.out]; omega)], show tkErr b 0 8 = 0 by unfold tkErr; rw [if_neg (by simp), if_neg (by rw [L.out]; omega)]] at hr3
  have R3 := hid hr3
  have C3 := hid hc3
  clear hc3 hr3
  have L8 : Hid ((b.drop 8).length = 504) := hid (by rw [List.length_drop, L.out])
  generalize hx : wrap64 ((num (b.take 8) : Nat) : Int) = x
  have HX := hid hx
  clear hx
  go_wp2_with fail
  refine (rInt_any r ob (b.drop 8) 0 w3 R3.out (by rw [L8.out]; omega) (by omega) (by omega)).mono ?_
  rintro e2 w4 ⟨rfl, hc4, hr4⟩
  rw [show tkGot (b.drop 8) 0 8 = (b.drop 8).take 8 by unfold tkGot; rw [if_neg (by simp), if_neg (by rw [L8.out]; omega)]]
  rw [show tkLeft (b.drop 8) 0 8 = b.drop 16 by unfold tkLeft; rw [if_neg (by simp), if_neg (by rw [L8.out]; omega), List.drop_drop], show tkErr (b.drop 8) 0 8 = 0 by unfold tkErr; rw [if_neg (by simp), if_neg (by rw [L8.out]; omega)]] at hr4
  have R4 := hid hr4
  have C4 := hid (C3.out.trans hc4 (fun _ _ h => h))
  clear hc4 hr4
  have L16 : Hid ((b.drop 16).length = 496) := hid (by rw [List.length_drop, L.out])
  generalize hy : wrap64 ((num ((b.drop 8).take 8) : Nat) : Int) = y
  have HY := hid hy
  clear hy
  go_wp2_with fail
  refine (rInt_any r ob (b.drop 16) 0 w4 R4.out (by rw [L16.out]; omega) (by omega) (by omega)).mono ?_
  rintro e2 w5 ⟨rfl, hc5, _⟩
  rw [show tkGot (b.drop 16) 0 8 = (b.drop 16).take 8 by unfold tkGot; rw [if_neg (by simp), if_neg (by rw [L16.out]; omega)]]
  have C5 := hid (C4.out.trans hc5 (fun _ _ h => h))
  clear hc5
  generalize hz : wrap64 ((num ((b.drop 16).take 8) : Nat) : Int) = z
  have HZ := hid hz
  clear hz C3 C4 R2 R3 R4
  have B5 := hid (B2.out.trans (C5.out.below (fun k hk => by rw [hk]; exact Nat.le_trans B1.out.size hr) B2.out.size))
  have W5 := hid (W2.out.chg C5.out (fun h => by omega))
  have hp5 := W5.out.lt
  have G5 := hid (H.out.chg (Chg.new B5.out (fun _ => False)) (fun h => h))
  clear W2 B2 C5 B1 K1 H
  go_wp2_with (first
    | (refine wpList_build_run rfl 83 _ rfl _ (hdBuild x y z _) ?_)
    | (refine wpList_alloc_z rfl 83 rfl _ hdInfo0 ?_; intro w6 hw6 hb6 hl6; have W6 := hid hw6; have B6 := hid hb6; clear hw6 hb6)
    | (refine wpList_store_arr rfl 83 _ _ rfl 378 hdInfo w5.heap.size 0 83 _ (hdC ⟨x, y, z, List.replicate 375 0⟩) rfl rfl W6.out rfl (Nat.le_refl _) (hdC_one _) ?_; intro w7 hw7 hc7 hs7; have W7 := hid hw7; have C7 := hid hc7; clear hw7 hc7))
  have hw65 : w6.heap.size ≤ w7.heap.size := C7.out.size
  have hW7 := hid (show Blk w7 w5.heap.size (hdC ⟨x, y, z, List.replicate 375 0⟩) 83 from W7.out)
  have G7 := hid ((G5.out.chg (Chg.new B6.out (fun _ => False)) (fun h => h)).chg C7.out (fun h => by have := G5.out.lt; omega))
  have P7 := hid ((W5.out.chg (Chg.new B6.out (fun _ => False)) (fun h => h)).chg C7.out (fun h => by omega))
  have B7 := hid ((B5.out.trans (B6.out.mono B5.out.size)).trans (C7.out.below (fun k hk => by rw [hk]; exact B5.out.size) (Nat.le_trans B5.out.size (by omega))))
  have hq : w5.heap.size ≠ w.heap.size := by omega
  clear W7 C7 G5 W5 B6 W6
  go_wp2_with fail
  refine wp_region_plan (fun w' => True) (fun j => !([4].contains j)) (fun j => [4].contains j) (.of [0, 1, 2, 3, 4]) (by kernel_rfl) (by kernel_rfl) rfl (by kernel_rfl) (by kernel_rfl) trivial ?_
  iterate 4 (apply wpPlan_val; (case ho => rfl); (case hst => rfl); (case hw => rfl); (case hv => intro w' hS; go_simp; first | done | rfl); intro K hK; go_simp; refine hK _ ?_; clear hK K)
  refine wpPlan_list rfl rfl rfl (fun K hK => ?_)
  have hsrc := Rd.blk (off := 24) (n := 488) (c := 488) (size := 1) (G7.out.chg (Chg.drewN (fun _ => False) w7 1) (fun h => h)) (by omega) (by simp only [maxLen]; omega) (by rw [bv_length, L.out]; omega)
  have hW7d := hW7.out.chg (Chg.drewN (fun _ => False) w7 1) (fun h => h)
  have hP7d := hid (P7.out.chg (Chg.drewN (fun _ => False) w7 1) (fun h => h))
  refine wpList_copy_gen rfl _ _ 30 30 rfl 5 1 Try.underlying30 infoU8' w5.heap.size 3 375 375 rfl _ _ hW7d _ rfl 488 (((bv b).drop 24).take (488 * 1)) hsrc (by rw [hdC_length (by simp)]; omega) (fun u hu => bv_one _ u (List.mem_of_mem_drop (List.mem_of_mem_take hu))) ?_
  intro w8 hb8 hc8 hs8
  have e8 : splice (hdC ⟨x, y, z, List.replicate 375 0⟩) 3 ((((bv b).drop 24).take (488 * 1)).take (min 488 375 * 1)) = hdC (hdP b) := by
    have e1 : (((bv b).drop 24).take (488 * 1)).take (min 488 375 * 1) = bv ((b.drop 24).take 375) := by
      rw [List.take_take, bv_drop, bv_take]
      rfl
    rw [e1, ← HX.out, ← HY.out, ← HZ.out]
    unfold splice hdC hdP
    have e2 : (bv ((b.drop 24).take 375)).length = 375 := by rw [bv_length, List.length_take, List.length_drop, L.out]; rfl
    have e3 : (bv (List.replicate 375 0)).drop 375 = [] := List.drop_eq_nil_of_le (by rw [bv_length, List.length_replicate]; exact Nat.le_refl _)
    rw [e2]
    simp only [List.take_succ_cons, List.take_zero]
    rw [show 3 + 375 = 375 + 1 + 1 + 1 by rfl, List.drop_succ_cons, List.drop_succ_cons, List.drop_succ_cons, e3, List.append_nil]
    rfl
  rw [e8] at hb8
  have W8 := hid hb8
  have hn8 : ¬ (fun k => k = w5.heap.size) w.heap.size := fun e => hq e.symm
  have P8 := hid (hP7d.out.chg hc8 hn8)
  have B8 := hid ((B7.out.trans (below_drewN (Below.refl _ _) 1)).trans (hc8.below (fun k hk => by rw [hk]; exact B5.out.size) (Nat.le_trans B7.out.size (Nat.le_refl _))))
  clear hb8 hc8 hsrc hW7d hP7d e8 P7 G7 hW7 B7
  go_simp
  simp only [wpList]
  refine hK _ _ (fun h => by cases h) ?_
  clear hK K
  refine wpPlan_nil ?_
  simp only [Qn]
  go_wp2_with (first
    | (refine wpList_load_arr rfl 83 _ rfl _ Try.underlying83 rfl 378 hdInfo w5.heap.size 0 83 _ rfl W8.out (by rw [hdC_length (hdP_length L.out)]; omega) (hdC (hdP b)) (List.take_of_length_le (by rw [List.drop_zero, hdC_length (hdP_length L.out)]; omega)) ?_)
    | (refine wpList_store_arr rfl 83 _ _ rfl 378 hdInfo w.heap.size 0 83 _ (hdC (hdP b)) rfl rfl P8.out (hdC_length (hdP_length L.out)) (by rw [hdC_length (by simp)]; omega) (hdC_one _) ?_; intro w9 hw9 hc9 hs9; have W9 := hid hw9; have C9 := hid hc9; clear hw9 hc9))
  rw [splice_all _ _ (by rw [hdC_length (by simp), hdC_length (hdP_length L.out)])] at W9
  refine bodyPost_ret (results_cell_row rfl _ _ w.heap.size 83 (hdC (hdP b)).toArray _ _ rfl W9.out Try.underlying83 rfl (by rw [List.size_toArray, hdC_length (hdP_length L.out)]; exact hdInfo)) rfl ?_
  exact ⟨rfl, B8.out.trans (C9.out.below (fun k hk => by rw [hk]; exact Nat.le_refl _) B8.out.size)⟩
end Go.Proofs.Ytdilkgcoecipjaa

namespace Go.Proofs.Ytdilkgcoecipjaa
open Go.RowKit
set_option linter.unusedVariables false

theorem fold_shift (off : Nat) : ∀ (xs : List Value) (k : Nat) (cells : Array Value),
    (xs.zipIdx k).foldl (fun cs p => cs.setIfInBounds (off + p.2) p.1) cells = (xs.zipIdx (off + k)).foldl (fun cs p => cs.setIfInBounds p.2 p.1) cells
  | [], _, _ => rfl
  | x :: xs, k, cells => by
    rw [List.zipIdx_cons, List.zipIdx_cons, List.foldl_cons, List.foldl_cons, fold_shift off xs (k + 1)]
    rfl
theorem fill_two {place : Nat → Option (Nat × Nat)} {cells : Array Value} {xs : List Value} {d : Value} (h0 : place 0 = some (0, 1)) (h1 : place 1 = some (1, xs.length)) (hd : d.cells = #[d]) (hc : 1 + xs.length ≤ cells.size) :
    Instr.fill place cells [(0, d), (1, .agg xs.toArray)] = some (d :: (xs ++ cells.toList.drop (1 + xs.length))).toArray := by
  simp only [Instr.fill, h0, h1, hd]
  have e0 : (#[d].zipIdx.foldl (fun cs (x : Value × Nat) => match x with | (c, j) => cs.setIfInBounds (0 + j) c) cells) = cells.setIfInBounds 0 d := rfl
  rw [e0]
  have hs : (cells.setIfInBounds 0 d).size = cells.size := by simp
  have e1 : (Value.agg xs.toArray).cells = xs.toArray := rfl
  simp only [e1, hs, List.size_toArray]
  have hcs : 0 < cells.size := by omega
  rw [if_neg (by intro hh; simp at hh; rw [hh] at hcs; exact absurd hcs (by decide)), if_neg (by intro hh; simp at hh; omega)]
  congr 1
  apply Array.ext'
  have e : xs.toArray.zipIdx.toList = xs.zipIdx := by simp
  rw [← Array.foldl_toList, e]
  have e2 := fold_shift 1 xs 0 (cells.setIfInBounds 0 d)
  have e3 := fold_sets xs 1 (cells.setIfInBounds 0 d) (by rw [hs]; exact hc)
  refine (congrArg Array.toList e2).trans (e3.trans ?_)
  rw [Array.toList_setIfInBounds]
  obtain ⟨c, r, hcr⟩ : ∃ c r, cells.toList = c :: r := by
    rcases hl : cells.toList with _ | ⟨c, r⟩
    · have : cells.toList.length = 0 := by rw [hl]; rfl
      rw [Array.length_toList] at this
      omega
    · exact ⟨c, r, rfl⟩
  rw [hcr, Nat.add_comm 1]
  simp
theorem built_struct {P : Program} {t : TypeId} {z : Value} {fields : Array Field} {places : List (Nat × Nat)} {parts : List (Nat × Value)} {cells : Array Value}
    (hz : (P.info? t).map (·.zero) = some (some z)) (hu : P.underlying t = some (.struct fields)) (hp : fields.toList.mapM (fun f => (P.info? f.type).map fun i => (f.offset, i.size)) = some places)
    (hf : Instr.fill (places.toArray[·]?) z.cells parts = some cells) : P.built t parts = some cells := by
  obtain ⟨i, hi, hzero⟩ := Option.map_eq_some_iff.1 hz
  unfold Program.built
  simp only [hi, hu, hzero, hp]
  exact hf

def hd0 : HD := ⟨0, 0, 0, List.replicate 375 0⟩
theorem pgInfo0 : (Try.prog.info? 87).map (·.zero) = some (some (.agg (pgC (.pointer none) hd0 hd0 false (.map none) .nilFunc).toArray)) := by kernel_rfl
theorem pgPlaces : ∃ fields, Try.prog.underlying 87 = some (.struct fields) ∧ fields.toList.mapM (fun f => (Try.prog.info? f.type).map fun i => (f.offset, i.size)) = some [(0, 1), (1, 378), (379, 378), (757, 1), (758, 1), (759, 1)] := ⟨_, Try.underlying87, by kernel_rfl⟩
set_option maxRecDepth 100000 in
theorem pgBuild (d : Addr) (h : HD) (hu : h.used.length = 375) (w : World) :
    (Instr.build 87 #[(0, .pointer (some d)), (1, .agg (hdC h).toArray)]).run Try.prog w = .ok (.agg (pgC (.pointer (some d)) h hd0 false (.map none) .nilFunc).toArray) w := by
  refine run_build w _ _ _ ?_
  obtain ⟨fields, h1, h2⟩ := pgPlaces
  have e1 := hdC_length hu
  have e0 : (hdC hd0).length = 378 := hdC_length rfl
  refine built_struct pgInfo0 h1 h2 ((fill_two (d := .pointer (some d)) rfl (by rw [e1]; rfl) rfl ?_).trans ?_)
  · show 1 + _ ≤ (pgC (.pointer none) hd0 hd0 false (.map none) .nilFunc).toArray.size
    rw [List.size_toArray, pgC_length rfl rfl, e1]
    omega
  · show some (Value.pointer (some d) :: (hdC h ++ (pgC (.pointer none) hd0 hd0 false (.map none) .nilFunc).drop (1 + (hdC h).length))).toArray = _
    rw [e1, show 1 + 378 = 378 + 1 by rfl]
    unfold pgC
    rw [List.drop_succ_cons, List.drop_left' e0]

set_option maxRecDepth 100000 in
theorem pgFold (d : Addr) (h : HD) (hu : h.used.length = 375) :
    List.foldl (fun cs x => cs.setIfInBounds (1 + x.snd) x.fst) (Try.zeroCells87.setIfInBounds 0 (Value.pointer (some d))) (hdC h).zipIdx = (pgC (.pointer (some d)) h hd0 false (.map none) .nilFunc).toArray := by
  have e1 := hdC_length hu
  have e0 : (hdC hd0).length = 378 := hdC_length rfl
  have ez : Try.zeroCells87 = (pgC (.pointer none) hd0 hd0 false (.map none) .nilFunc).toArray := by kernel_rfl
  rw [ez]
  apply Array.ext'
  have e2 := fold_shift 1 (hdC h) 0 ((pgC (.pointer none) hd0 hd0 false (.map none) .nilFunc).toArray.setIfInBounds 0 (Value.pointer (some d)))
  have e3 := fold_sets (hdC h) 1 ((pgC (.pointer none) hd0 hd0 false (.map none) .nilFunc).toArray.setIfInBounds 0 (Value.pointer (some d))) (by rw [Array.size_setIfInBounds, List.size_toArray, pgC_length rfl rfl, e1]; omega)
  refine (congrArg Array.toList e2).trans (e3.trans ?_)
  rw [Array.toList_setIfInBounds, e1, show 1 + 378 = 378 + 1 by rfl]
  unfold pgC
  rw [List.set_cons_zero, List.take_succ_cons, List.take_zero, List.drop_succ_cons, List.drop_left' e0]
  rfl

theorem run_store_func {P : Program} {w : World} {a : Addr} {m : Mode} (f : Fn) (x y : Array Value) : (store a (.func f x y) m).run P w = stored P w a (.func f x y) m := run_store P w a _ m rfl

/-- the pager's own forget, as a value -/
def fgt (p : Nat) : Value := .func (.func 39) #[.pointer (some ⟨p, 0, none⟩)] #[]

set_option maxRecDepth 100000 in
set_option maxHeartbeats 2000000 in
theorem open_any (w : World) (d : Nat) (fp : Nat → Prop) (n : Nat) (s : DS) (h : Dsk w d fp n s) (hn : 403 ≤ n) (ho : s.ops + 3000 ≤ 1000000) (hr : (recov n s).2.2 = 0) (hdead : (recov n s).1.dead = false) :
    Calls Try.prog 21 #[.pointer (some ⟨d, 0, none⟩)] w fun e w' => ∃ p m fp', e = .returned (.tuple #[.pointer (some ⟨p, 0, none⟩), .int .i64 0]) ∧ Dsk w' d fp' n (recov n s).1 ∧
      Blk w' p (pgC (.pointer (some ⟨d, 0, none⟩)) (hdP (row (recov n s).1.now 401)) (hdP (row (recov n s).1.now 401)) false (.map (some m)) (fgt p)) 87 ∧
      w'.heap[m]? = some (.map #[] 0) ∧ ¬ fp' p ∧ ¬ fp' m ∧ p ≠ m ∧ w.heap.size ≤ p ∧ w.heap.size ≤ m ∧ Chg fp w w' ∧ ∀ k, fp' k → fp k ∨ w.heap.size ≤ k := by
  have H := hid h
  have RC := hid (recov_any w d fp n s h ho)
  have HS := hid (dSize_any w d fp n s h)
  have RE := hid hr
  have RD := hid hdead
  have hn' : ¬ (n : Int) < 403 := by omega
  clear h hr hdead
  go_enter Try.func21, Try.ntmps21
  go_wp2_with fail
  refine HS.out.mono ?_; rintro e1 wx ⟨rfl, hw⟩
  subst hw
  go_wp2_with fail
  refine RC.out.mono ?_
  rintro e1 w1 ⟨rfl, fp1, hd1, hc1, hf1⟩
  rw [RE.out]
  have D1 := hid hd1
  have C1 := hid hc1
  have F1 := hid hf1
  clear hd1 hc1 hf1
  go_wp2_with fail
  refine (dRead_ok w1 d fp1 n (recov n s).1 401 D1.out RD.out (by omega)).mono ?_
  rintro e2 w2 ⟨g, rfl, hg, hblk, hb2⟩
  have B2 := hid hb2
  have D2 := hid (D1.out.chg (Chg.new hb2 (fun _ => False)) (fun k hk h => h))
  have G2 := hid hblk
  clear hb2 hblk
  go_wp2_with fail
  refine (parse_any w2 g _ G2.out (row_length D1.out.ok.now (by omega))).mono ?_
  rintro e3 w3 ⟨rfl, hb3⟩
  have B3 := hid hb3
  clear hb3
  have hpu := hdP_length (row_length D1.out.ok.now (show 401 < n by omega))
  have HPU := hid hpu
  clear hpu
  generalize hhp : hdP (row (recov n s).1.now 401) = hp at *
  have HHP := hid hhp
  clear hhp
  have D3 := hid (D2.out.chg (Chg.new B3.out (fun _ => False)) (fun k hk h => h))
  have B4 := hid (B2.out.trans (B3.out.mono B2.out.size))
  clear D2 B2 B3 G2
  have hfold := pgFold ⟨d, 0, none⟩ hp HPU.out
  have hlen := hdC_length HPU.out
  have hblk := heap_alloc_new w3 (Obj.cells (pgC (.pointer (some ⟨d, 0, none⟩)) hp hd0 false (.map none) .nilFunc).toArray 87)
  obtain ⟨c0, c1, c2, c3, f0, f1, f2, f3⟩ := pg_cells (w := w3.alloc (Obj.cells (pgC (.pointer (some ⟨d, 0, none⟩)) hp hd0 false (.map none) .nilFunc).toArray 87)) hblk HPU.out rfl
  have PB := hid hblk
  clear hblk
  have B5 : Hid (Below w3.heap.size w3 (w3.alloc (Obj.cells (pgC (.pointer (some ⟨d, 0, none⟩)) hp hd0 false (.map none) .nilFunc).toArray 87))) := hid ((Below.refl _ _).alloc (Nat.le_refl _) _)
  go_wp2_with fail
  generalize w3.alloc (Obj.cells (pgC (.pointer (some ⟨d, 0, none⟩)) hp hd0 false (.map none) .nilFunc).toArray 87) = w4 at *
  simp only [run_store_func]
  go_simp
  have PS := hid (Blk.set (cur := pgC (.pointer (some ⟨d, 0, none⟩)) hp hd0 false (.map none) .nilFunc) (T := 87) PB.out 759 (fgt w3.heap.size))
  rw [pgC_setFn _ HPU.out rfl] at PS
  have HQ : Hid (Below w3.heap.size w3 (w4.setCell ⟨w3.heap.size, 759, none⟩ (fgt w3.heap.size))) := hid (B5.out.setCell (Nat.le_refl _) _)
  have h759 : (w4.setCell ⟨w3.heap.size, 759, none⟩ (fgt w3.heap.size)).cell? ⟨w3.heap.size, 759, none⟩ = some (fgt w3.heap.size) := (pg_cells PS.out HPU.out rfl).2.2.2.1
  have hs4 : w3.heap.size < (w4.setCell ⟨w3.heap.size, 759, none⟩ (fgt w3.heap.size)).heap.size := PS.out.lt
  unfold fgt at PS HQ h759 hs4
  generalize w4.setCell ⟨w3.heap.size, 759, none⟩ _ = w5 at *
  clear PB B5 c0 c1 c2 c3 f0 f1 f2 f3
  go_wp2_with fail
  refine (forget_any w5 _ _ _ _ hp hd0 false PS.out HPU.out rfl).mono ?_
  rintro e6 w6 ⟨rfl, hc6, hb6, hm6⟩
  have C6 := hid hc6
  have P6 := hid hb6
  have M6 := hid hm6
  clear hc6 hb6 hm6 PS h759
  go_wp2_with fail
  go_ret2
  have hs1 := C1.out.size
  have hs2 := B4.out.size
  have C15 : Chg (fun _ => False) w1 w5 := Chg.new (B4.out.trans (HQ.out.mono hs2)) _
  have C16 : Chg (fun k => w1.heap.size ≤ k) w1 w6 := (C15.mono (fun _ _ h => h.elim)).trans C6.out (fun k hk e => by omega)
  have hfp : ∀ k, fp1 k → k < w1.heap.size := D1.out.lt
  refine ⟨w3.heap.size, w5.heap.size, fp1, rfl, D1.out.chg C16 (fun k hk h => by have := hfp k hk; omega), by rw [HHP.out]; exact P6.out, M6.out, (fun h => by have := hfp _ h; omega), (fun h => by have := hfp _ h; omega), by omega, by omega, by omega, C1.out.trans C16 (fun k hk h => by omega), F1.out⟩

theorem begin_any (w : World) (p : Nat) (d m f : Value) (was now : HD) (op : Bool) (h : Blk w p (pgC d was now op m f) 87) (h1 : was.used.length = 375) (h2 : now.used.length = 375) :
    Calls Try.prog 23 #[.pointer (some ⟨p, 0, none⟩)] w fun e w' => e = .returned (.int .i64 (if op then 12 else 0)) ∧ Chg (fun k => k = p) w w' ∧ Blk w' p (pgC d was now true m f) 87 := by
  obtain ⟨c0, c1, c2, c3, f0, f1, f2, f3⟩ := pg_cells h h1 h2
  have H := hid h
  have H1 := hid h1
  have H2 := hid h2
  clear h h1 h2
  go_enter Try.func23, Try.ntmps23
  cases op
  · go_wp2_with fail
    go_ret
    refine ⟨rfl, Chg.setCell (fp := fun k => k = p) _ rfl _, ?_⟩
    have h3 := H.out.set 757 (.bool true)
    rw [pgC_setOpen _ H1.out H2.out] at h3
    exact h3
  · go_wp2_with fail
    go_ret
    exact ⟨rfl, Chg.refl _ _, H.out⟩

theorem open5_any (w : World) :
    Calls Try.prog 8 #[] w fun e w' => ∃ p, e = .returned (.pointer (some ⟨p, 0, none⟩)) ∧ Below w.heap.size w w' := by
  go_enter Try.func8, Try.ntmps8
  go_wp2_with fail
  refine (dNew_any w 1600).mono ?_
  rintro e1 w1 ⟨d, rfl, hd1, hb1, hd⟩
  have hcl : clampN 1600 = 1600 := rfl
  rw [hcl] at hd1
  have D1 := hid hd1
  have B1 := hid hb1
  clear hd1 hb1 hcl
  go_wp2_with fail
  have hrn := recov_new (n := 1600) (by omega)
  refine (open_any w1 d _ 1600 (dNew 1600) D1.out (by omega) (by decide) (by rw [hrn]) (by rw [hrn]; rfl)).mono ?_
  rintro e2 w2 ⟨p, m, fp', rfl, hd2, hp2, hm2, n1, n2, n3, n4, n5, hc2, hf2⟩
  have hpu := hdP_length (row_length hd2.ok.now (show 401 < 1600 by omega))
  have P2 := hid hp2
  have C2 := hid hc2
  clear hd2 hp2 hm2 hc2 hf2 n1 n2 n3 hrn
  have HPU := hid hpu
  clear hpu
  go_wp2_with fail
  refine (begin_any w2 p _ _ _ _ _ _ P2.out HPU.out HPU.out).mono ?_
  rintro e3 w3 ⟨rfl, hc3, hp3⟩
  have C3 := hid hc3
  clear hc3 hp3
  go_wp2_with fail
  go_ret
  exact ⟨p, rfl, (B1.out.trans (C2.out.below (fun k hk => hk.1) B1.out.size)).trans (C3.out.below (fun k hk => by rw [hk]; exact Nat.le_trans B1.out.size n4) (Nat.le_trans B1.out.size C2.out.size))⟩
end Go.Proofs.Ytdilkgcoecipjaa

namespace Go.Proofs.Ytdilkgcoecipjaa
open Go.RowKit
set_option linter.unusedVariables false

/-- is a page in use -/
def bitOf (u : List UInt8) (at_ : Int) : Bool := decide (0 < at_ ∧ at_ < 3000) && decide ((u.getD (at_.toNat / 8) 0).toNat / 2 ^ (at_.toNat % 8) % 2 = 1)

/-- a head among a block's cells -/
def HdAt (w : World) (p o : Nat) (h : HD) : Prop := h.used.length = 375 ∧ ∀ j x, (hdC h)[j]? = some x → w.cell? ⟨p, o + j, none⟩ = some x
theorem HdAt.of {w : World} {p o : Nat} {h : HD} {cur : List Value} {T : TypeId} (hb : Blk w p cur T) (hu : h.used.length = 375) (hc : (cur.drop o).take 378 = hdC h) : HdAt w p o h := ⟨hu, fun j x hx => by
  rw [hb.cell, ← hx, ← hc, List.getElem?_take, if_pos (by have := (List.getElem?_eq_some_iff.1 hx).1; rw [hdC_length hu] at this; exact this), List.getElem?_drop]⟩
theorem HdAt.mark {w : World} {p o : Nat} {h : HD} (hh : HdAt w p o h) {k : Nat} (hk : k < 375) : w.cell? ⟨p, o + 3 + k, none⟩ = some (.int .u8 (h.used.getD k 0).toNat) := by
  have h1 := hh.2 (3 + k) (.int .u8 (h.used.getD k 0).toNat) (by
    unfold hdC bv
    rw [Nat.add_comm 3]
    simp [hh.1, hk])
  rw [← Nat.add_assoc] at h1
  exact h1

set_option maxRecDepth 100000 in
theorem and_bitF : ∀ (b : Fin 256) (k : Fin 8), (bits .and .u8 ((b.val : Int) / 2 ^ k.val) 1 == 1) = decide (b.val / 2 ^ k.val % 2 = 1) := by decide +kernel
theorem and_bit (b : UInt8) (k : Nat) : (bits .and .u8 ((b.toNat : Int) / 2 ^ (k % 8)) 1 == 1) = decide (b.toNat / 2 ^ (k % 8) % 2 = 1) :=
  and_bitF ⟨b.toNat, b.toNat_lt⟩ ⟨k % 8, Nat.mod_lt _ (by omega)⟩
theorem bitOf_not {u : List UInt8} {at_ : Int} (h : ¬ (0 < at_ ∧ at_ < 3000)) : bitOf u at_ = false := by unfold bitOf; rw [decide_eq_false h]; rfl
theorem bitOf_nat {u : List UInt8} {k : Nat} (h0 : (0 : Int) < k) (h1 : (k : Int) < 3000) : bitOf u k = decide ((u.getD (k / 8) 0).toNat / 2 ^ (k % 8) % 2 = 1) := by
  unfold bitOf
  rw [decide_eq_true (show (0 : Int) < k ∧ (k : Int) < 3000 from ⟨h0, h1⟩)]
  simp

set_option maxRecDepth 100000 in
theorem in_any (w : World) (p o : Nat) (h : HD) (at_ : Int) (hh : HdAt w p o h) :
    Calls Try.prog 51 #[.pointer (some ⟨p, o, none⟩), .int .i64 at_] w fun e w' => e = .returned (.bool (bitOf h.used at_)) ∧ w' = w := by
  by_cases h0 : 0 < at_
  · by_cases h1 : at_ < 3000
    · obtain ⟨k, rfl⟩ : ∃ k : Nat, at_ = (k : Int) := ⟨at_.toNat, by omega⟩
      have hk : k / 8 < 375 := by omega
      have hm := hh.mark hk
      go_enter Try.func51, Try.ntmps51
      go_wp2_with fail
      go_ret
      refine ⟨?_, rfl⟩
      show Ending.returned (Value.bool (bits BinOp.and IntKind.u8 (↑(h.used[k / 8]?.getD 0).toNat / 2 ^ (k % 8)) 1 == 1)) = _
      rw [and_bit, bitOf_nat h0 h1, List.getD_eq_getElem?_getD]
    · go_enter Try.func51, Try.ntmps51
      go_wp2_with fail
      go_ret
      exact ⟨by rw [bitOf_not (by omega)]; rfl, rfl⟩
  · go_enter Try.func51, Try.ntmps51
    go_wp2_with fail
    go_ret
    exact ⟨by rw [bitOf_not (by omega)]; rfl, rfl⟩

set_option maxRecDepth 100000 in
theorem not_bitF : ∀ (b : Fin 256) (k : Fin 8), bits .andNot .u8 (b.val : Int) (IntKind.u8.wrap (2 ^ k.val)) = (((UInt8.ofNat b.val) &&& ~~~ ((1 : UInt8) <<< (UInt8.ofNat k.val))).toNat : Int) := by decide +kernel
set_option maxRecDepth 100000 in
theorem or_bitF : ∀ (b : Fin 256) (k : Fin 8), bits .or .u8 (b.val : Int) (IntKind.u8.wrap (2 ^ k.val)) = (((UInt8.ofNat b.val) ||| ((1 : UInt8) <<< (UInt8.ofNat k.val))).toNat : Int) := by decide +kernel
theorem not_bit (b : UInt8) (k : Nat) : bits .andNot .u8 (b.toNat : Int) (IntKind.u8.wrap (2 ^ (k % 8))) = ((b &&& ~~~ ((1 : UInt8) <<< (UInt8.ofNat (k % 8)))).toNat : Int) := by
  have h := not_bitF ⟨b.toNat, b.toNat_lt⟩ ⟨k % 8, Nat.mod_lt _ (by omega)⟩
  simpa using h
theorem or_bit (b : UInt8) (k : Nat) : bits .or .u8 (b.toNat : Int) (IntKind.u8.wrap (2 ^ (k % 8))) = ((b ||| ((1 : UInt8) <<< (UInt8.ofNat (k % 8)))).toNat : Int) := by
  have h := or_bitF ⟨b.toNat, b.toNat_lt⟩ ⟨k % 8, Nat.mod_lt _ (by omega)⟩
  simpa using h

/-- a byte of marks, with one bit turned -/
def turnB (b : UInt8) (k : Nat) (is : Bool) : UInt8 := if is then (b &&& ~~~ ((1 : UInt8) <<< (UInt8.ofNat (k % 8)))) ||| ((1 : UInt8) <<< (UInt8.ofNat (k % 8))) else b &&& ~~~ ((1 : UInt8) <<< (UInt8.ofNat (k % 8)))

set_option maxRecDepth 100000 in
set_option maxHeartbeats 2000000 in
theorem mark_any (w : World) (p o : Nat) (cur : List Value) (T : TypeId) (h : HD) (k : Nat) (is : Bool) (hb : Blk w p cur T) (hh : HdAt w p o h) (hk : k < 3000) :
    Calls Try.prog 41 #[.pointer (some ⟨p, o, none⟩), .int .i64 k, .bool is] w fun e w' => e = .returned (.tuple #[]) ∧ Chg (fun q => q = p) w w' ∧
      Blk w' p (cur.set (o + 3 + k / 8) (.int .u8 (turnB (h.used.getD (k / 8) 0) k is).toNat)) T := by
  have hk8 : k / 8 < 375 := by omega
  have hm := hh.mark hk8
  have hf := hb.frozen (o + 3 + k / 8)
  have HB := hid hb
  have HH := hid hh
  clear hb hh
  go_enter Try.func41, Try.ntmps41
  go_wp2_with fail
  generalize hgb : h.used.getD (k / 8) 0 = b at *
  have HGB := hid hgb
  clear hgb
  have q1 : IntKind.i64.wrap ((k : Int) / 8) = (k : Int) / 8 := by
    simp [IntKind.wrap, IntKind.bits, IntKind.signed]; omega
  have q2 : 0 ≤ (k : Int) / 8 := by omega
  have q3 : (k : Int) / 8 < 375 := by omega
  have q4 : ((k : Int) / 8).toNat = k / 8 := by omega
  have q5 : (k : Int).tmod 8 = (k : Int) % 8 := Int.tmod_eq_emod_of_nonneg (by omega)
  have q6 : ((k : Int) % 8).toNat = k % 8 := by omega
  have q7 : 0 ≤ (k : Int) % 8 := by omega
  have q8 : IntKind.i64.wrap ((k : Int) % 8) = (k : Int) % 8 := by
    simp [IntKind.wrap, IntKind.bits, IntKind.signed]; omega
  refine wp_region_plan (fun w' => w'.cell? ⟨p, o + 3 + k / 8, none⟩ = some (.int .u8 b.toNat)) (fun j => !([14].contains j)) (fun j => [14].contains j) (.of [0, 1, 2, 3, 4, 5, 6, 7, 8, 9, 10, 11, 12, 13, 14]) (by kernel_rfl) (by kernel_rfl) rfl (by kernel_rfl) (by kernel_rfl) hm ?_
  iterate 14 (apply wpPlan_val; (case ho => rfl); (case hst => rfl); (case hw => rfl); (case hv => intro w' hS; go_simp; first | done | rfl); intro K hK; go_simp; refine hK _ ?_; clear hK K)
  refine wpPlan_list rfl rfl rfl (fun K hK => ?_)
  refine wpList_step (fun K2 hK2 => ?_)
  go_simp
  refine hK2 _ _ ?_
  clear hK2 K2
  simp only [wpList]
  refine hK _ _ (fun h => by cases h) ?_
  clear hK K
  refine wpPlan_nil ?_
  simp only [Qn]
  rw [not_bit]
  have hx1 : turnB b k false = b &&& ~~~ ((1 : UInt8) <<< (UInt8.ofNat (k % 8))) := rfl
  have hx2 : turnB b k true = turnB b k false ||| ((1 : UInt8) <<< (UInt8.ofNat (k % 8))) := rfl
  rw [← hx1]
  clear hx1
  have HX2 := hid hx2
  clear hx2
  generalize hb1 : turnB b k false = b1 at *
  have HB1 := hid hb1
  clear hb1
  have B1 : Hid (Blk (w.setCell ⟨p, o + 3 + k / 8, none⟩ (.int .u8 b1.toNat)).drew p (cur.set (o + 3 + k / 8) (.int .u8 b1.toNat)) T) := hid ((HB.out.set (o + 3 + k / 8) (.int .u8 b1.toNat)).chg (Chg.drewN (fun _ => False) _ 1) (fun h => h))
  have C1 : Hid (Chg (fun q => q = p) w (w.setCell ⟨p, o + 3 + k / 8, none⟩ (.int .u8 b1.toNat)).drew) := hid ((Chg.setCell (fp := fun q => q = p) _ rfl _).trans (Chg.drewN _ _ 1) (fun _ _ h => h))
  have hlc : o + 3 + k / 8 < cur.length := by
    have h1 := hm
    rw [HB.out.cell] at h1
    exact (List.getElem?_eq_some_iff.1 h1).1
  have hm1 : (w.setCell ⟨p, o + 3 + k / 8, none⟩ (.int .u8 b1.toNat)).drew.cell? ⟨p, o + 3 + k / 8, none⟩ = some (.int .u8 b1.toNat) := by
    rw [B1.out.cell, List.getElem?_set_self hlc]
  have hf1 := B1.out.frozen (o + 3 + k / 8)
  generalize (w.setCell ⟨p, o + 3 + k / 8, none⟩ (.int .u8 b1.toNat)).drew = w1 at *
  clear hm hf
  cases is
  · go_wp2_with fail
    go_end0
    exact ⟨rfl, C1.out, by rw [HGB.out, HB1.out]; exact B1.out⟩
  · go_wp2_with fail
    refine wp_region_plan (fun w' => w'.cell? ⟨p, o + 3 + k / 8, none⟩ = some (.int .u8 b1.toNat)) (fun j => !([14].contains j)) (fun j => [14].contains j) (.of [0, 1, 2, 3, 4, 5, 6, 7, 8, 9, 10, 11, 12, 13, 14]) (by kernel_rfl) (by kernel_rfl) rfl (by kernel_rfl) (by kernel_rfl) hm1 ?_
    iterate 14 (apply wpPlan_val; (case ho => rfl); (case hst => rfl); (case hw => rfl); (case hv => intro w' hS; go_simp; first | done | rfl); intro K hK; go_simp; refine hK _ ?_; clear hK K)
    refine wpPlan_list rfl rfl rfl (fun K hK => ?_)
    refine wpList_step (fun K2 hK2 => ?_)
    go_simp
    refine hK2 _ _ ?_
    clear hK2 K2
    simp only [wpList]
    refine hK _ _ (fun h => by cases h) ?_
    clear hK K
    refine wpPlan_nil ?_
    simp only [Qn]
    rw [or_bit, ← HX2.out]
    have B2 : Hid (Blk (w1.setCell ⟨p, o + 3 + k / 8, none⟩ (.int .u8 (turnB b k true).toNat)).drew p (cur.set (o + 3 + k / 8) (.int .u8 (turnB b k true).toNat)) T) := hid (by
      have h2 := (B1.out.set (o + 3 + k / 8) (.int .u8 (turnB b k true).toNat)).chg (Chg.drewN (fun _ => False) _ 1) (fun h => h)
      rw [List.set_set] at h2
      exact h2)
    have C2 : Hid (Chg (fun q => q = p) w (w1.setCell ⟨p, o + 3 + k / 8, none⟩ (.int .u8 (turnB b k true).toNat)).drew) := hid (C1.out.trans ((Chg.setCell (fp := fun q => q = p) _ rfl _).trans (Chg.drewN _ _ 1) (fun _ _ h => h)) (fun _ _ h => h))
    generalize (w1.setCell ⟨p, o + 3 + k / 8, none⟩ (.int .u8 (turnB b k true).toNat)).drew = w2 at *
    go_wp2_with fail
    go_end0
    exact ⟨rfl, C2.out, by rw [HGB.out]; exact B2.out⟩
end Go.Proofs.Ytdilkgcoecipjaa

namespace Go.Proofs.Ytdilkgcoecipjaa
open Go.RowKit
set_option linter.unusedVariables false

/-- a pager's cells and its disk -/
structure PgB (w : World) (p d : Nat) (fp : Nat → Prop) (n : Nat) (s : DS) (was now : HD) (op : Bool) (m f : Value) : Prop where
  dsk : Dsk w d fp n s
  blk : Blk w p (pgC (.pointer (some ⟨d, 0, none⟩)) was now op m f) 87
  was : was.used.length = 375
  now : now.used.length = 375
  out : ¬ fp p

theorem PgB.head {w : World} {p d : Nat} {fp : Nat → Prop} {n : Nat} {s : DS} {was now : HD} {op : Bool} {m f : Value} (h : PgB w p d fp n s was now op m f) : HdAt w p 379 now :=
  HdAt.of h.blk h.now (pgC_now h.was h.now)

theorem pages_any (w : World) (p d : Nat) (fp : Nat → Prop) (n : Nat) (s : DS) (was now : HD) (op : Bool) (m f : Value) (h : PgB w p d fp n s was now op m f) :
    Calls Try.prog 32 #[.pointer (some ⟨p, 0, none⟩)] w fun e w' => e = .returned (.int .i64 ((n : Int) - 401)) ∧ w' = w := by
  obtain ⟨c0, c1, c2, c3, f0, f1, f2, f3⟩ := pg_cells h.blk h.was h.now
  have HS := hid (dSize_any w d fp n s h.dsk)
  have hn2 := h.dsk.ok.n2
  clear h
  go_enter Try.func32, Try.ntmps32
  go_wp2_with fail
  refine HS.out.mono ?_; rintro e1 wx ⟨rfl, hw⟩
  subst hw
  go_wp2_with fail
  go_ret
  exact ⟨rfl, rfl⟩

theorem there_any (w : World) (p d : Nat) (fp : Nat → Prop) (n : Nat) (s : DS) (was now : HD) (op : Bool) (m f : Value) (at_ : Int) (h : PgB w p d fp n s was now op m f) :
    Calls Try.prog 33 #[.pointer (some ⟨p, 0, none⟩), .int .i64 at_] w fun e w' => e = .returned (.bool (bitOf now.used at_ && decide (at_ < (n : Int) - 401))) ∧ w' = w := by
  have HI := hid (in_any w p 379 now at_ h.head)
  have HP := hid (pages_any w p d fp n s was now op m f h)
  clear h
  go_enter Try.func33, Try.ntmps33
  go_wp2_with fail
  refine HI.out.mono ?_; rintro e1 wx ⟨rfl, hw⟩
  subst hw
  cases hbit : bitOf now.used at_
  · have HB := hid hbit
    clear hbit
    go_wp2_with fail
    go_ret
    exact ⟨by rw [HB.out]; rfl, rfl⟩
  · have HB := hid hbit
    clear hbit
    go_wp2_with fail
    refine HP.out.mono ?_; rintro e1 wx ⟨rfl, hw⟩
    subst hw
    go_wp2_with fail
    go_ret
    exact ⟨by rw [HB.out]; rfl, rfl⟩

theorem pgC_setAt {d m f x : Value} {was now h : HD} {op : Bool} {j : Nat} (h1 : was.used.length = 375) (h2 : now.used.length = 375) (hj : j < 378) (he : (hdC now).set j x = hdC h) : (pgC d was now op m f).set (379 + j) x = pgC d was h op m f := by
  have e1 := hdC_length h1
  have e2 := hdC_length h2
  unfold pgC
  rw [show 379 + j = (378 + j) + 1 by omega, List.set_cons_succ, List.set_append_right _ _ (by omega), e1, Nat.add_sub_cancel_left, List.set_append_left _ _ (by omega), he]
theorem bv_set (l : List UInt8) (k : Nat) (b : UInt8) : (bv l).set k (.int .u8 b.toNat) = bv (l.set k b) := by simp [bv, List.map_set]
theorem hdC_setUsed (h : HD) (k : Nat) (b : UInt8) : (hdC h).set (3 + k) (.int .u8 b.toNat) = hdC { h with used := h.used.set k b } := by
  unfold hdC
  rw [Nat.add_comm 3, List.set_cons_succ, List.set_cons_succ, List.set_cons_succ, bv_set]

set_option maxRecDepth 100000 in
theorem setRoot_any (w : World) (p d : Nat) (fp : Nat → Prop) (n : Nat) (s : DS) (was now : HD) (op : Bool) (m f : Value) (at_ : Int) (h : PgB w p d fp n s was now op m f) :
    Calls Try.prog 44 #[.pointer (some ⟨p, 0, none⟩), .int .i64 at_] w fun e w' => e = .returned (.int .i64 (if op = false then 12 else if at_ < 0 then 1 else 0)) ∧ Chg (fun k => k = p) w w' ∧
      PgB w' p d fp n s was (if op = false then now else if at_ < 0 then now else { now with root := at_ }) op m f := by
  obtain ⟨c0, c1, c2, c3, f0, f1, f2, f3⟩ := pg_cells h.blk h.was h.now
  have H := hid h
  have hc := h.head.2 0 (.int .i64 now.root) rfl
  have hfz := h.blk.frozen 379
  clear h
  cases op
  · go_enter Try.func44, Try.ntmps44
    go_wp2_with fail
    go_ret
    exact ⟨rfl, Chg.refl _ _, H.out⟩
  · by_cases hn : at_ < 0
    · go_enter Try.func44, Try.ntmps44
      go_wp2_with fail
      go_ret
      simp only
      exact ⟨rfl, Chg.refl _ _, H.out⟩
    · go_enter Try.func44, Try.ntmps44
      go_wp2_with fail
      go_ret
      simp only
      have hch : Chg (fun k => k = p) w (w.setCell ⟨p, 379, none⟩ (.int .i64 at_)) := Chg.setCell (fp := fun k => k = p) _ rfl _
      refine ⟨rfl, hch, H.out.dsk.chg hch (fun k hk e => H.out.out (e ▸ hk)), ?_, H.out.was, H.out.now, H.out.out⟩
      have h3 := H.out.blk.set 379 (.int .i64 at_)
      rw [pgC_setAt (j := 0) (h := { now with root := at_ }) H.out.was H.out.now (by omega) rfl] at h3
      exact h3
end Go.Proofs.Ytdilkgcoecipjaa

namespace Go.Proofs.Ytdilkgcoecipjaa
open Go.RowKit Go.Maps
set_option linter.unusedVariables false

/-- how a changed page reads: by the block that it lies in -/
def pageElem (v : Value) : Option (DataW Unit × List MemPlace) :=
  match v with
  | .slice (some ⟨g, 0, none⟩) 504 504 => some (.lit (.int .i64 g), [])
  | .slice none 0 0 => some (.nil, [])
  | _ => none
theorem pageElem_page (g : Nat) : pageElem (.slice (some ⟨g, 0, none⟩) 504 504) = some (.lit (.int .i64 g), []) := rfl
theorem pageElem_nil : pageElem (.slice none 0 0) = some (.nil, []) := rfl
theorem pageElem_inv {v : Value} {x : DataW Unit} {ps : List MemPlace} (h : pageElem v = some (x, ps)) : (∃ g : Nat, v = .slice (some ⟨g, 0, none⟩) 504 504 ∧ x = .lit (.int .i64 g)) ∨ (v = .slice none 0 0 ∧ x = .nil) := by
  unfold pageElem at h
  split at h
  · simp at h; exact .inl ⟨_, rfl, h.1.symm⟩
  · simp at h; exact .inr ⟨rfl, h.1.symm⟩
  · cases h

/-- the pages that are changed -/
def Chd (w : World) (D : DataW Unit) (ok : Nat → Prop) (ch : Int → Option (List UInt8)) : Prop :=
  ∀ k : Int, match ch k with
    | none => Maps.has D (.int .i64 k) = false
    | some l => Maps.has D (.int .i64 k) = true ∧ ∃ g : Nat, D.atKey (.int .i64 k) .nil = .lit (.int .i64 g) ∧ Blk w g (bv l) 5 ∧ l.length = 504 ∧ ok g
theorem Chd.nil (w : World) (ok : Nat → Prop) : Chd w (.map []) ok (fun _ => none) := fun k => rfl
theorem Chd.chg {w w' : World} {D : DataW Unit} {ok fq : Nat → Prop} {ch : Int → Option (List UInt8)} (h : Chd w D ok ch) (hc : Chg fq w w') (hn : ∀ g, ok g → ¬ fq g) : Chd w' D ok ch := fun k => by
  have h1 := h k
  split at h1
  · exact h1
  · rename_i l e
    obtain ⟨h2, g, h3, h4, h5, h6⟩ := h1
    exact ⟨h2, g, h3, h4.chg hc (hn g h6), h5, h6⟩
theorem Chd.put {w : World} {D : DataW Unit} {ok ok' : Nat → Prop} {ch : Int → Option (List UInt8)} (h : Chd w D ok ch) (hD : IsMap D) (hm : ∀ g, ok g → ok' g) {k : Int} {g : Nat} {l : List UInt8} (hb : Blk w g (bv l) 5) (hl : l.length = 504) (hg : ok' g) :
    Chd w (D.put (.int .i64 k) (.lit (.int .i64 g))) ok' (fun q => if q = k then some l else ch q) := fun q => by
  by_cases e : q = k
  · subst e
    simp only [if_true]
    exact ⟨Maps.has_put_same hD (by simp [WideAt.IsKeyLit]) _, g, Maps.atKey_put_same hD (by simp [WideAt.IsKeyLit]) _ _, hb, hl, hg⟩
  · have hne : (Lit.int .i64 q) ≠ Lit.int .i64 k := fun h => e (by cases h; rfl)
    simp only [if_neg e]
    have h1 := h q
    split at h1
    · exact (Maps.has_put_other hne _).trans h1
    · rename_i l2 e2
      obtain ⟨h2, g2, h3, h4, h5, h6⟩ := h1
      exact ⟨(Maps.has_put_other hne _).trans h2, g2, (Maps.atKey_put_other hne _ _).trans h3, h4, h5, hm _ h6⟩

/-- a page, cut or filled to its length -/
def pageOf (l : List UInt8) : List UInt8 := pad504 l

set_option maxRecDepth 100000 in
set_option maxHeartbeats 2000000 in
theorem write_any (w : World) (p d : Nat) (fp : Nat → Prop) (n : Nat) (s : DS) (was now : HD) (op : Bool) (b N : Nat) (D : DataW Unit) (f : Value) (ok : Nat → Prop) (ch : Int → Option (List UInt8)) (at_ : Int) (v : Value) (l : List UInt8)
    (h : PgB w p d fp n s was now op (.map (some b)) f) (hM : w.ownsMap Try.prog 3 pageElem b N D) (hC : Chd w D ok ch) (hb : ¬ fp b) (hbp : b ≠ p) (hok : ∀ g, ok g → g ≠ b ∧ g < w.heap.size) (hN : N ≤ 1000000) (hv : Bs w v l) (hl : l.length ≤ 504) (hat : (Lit.int .i64 at_).wf = true) :
    Calls Try.prog 42 #[.pointer (some ⟨p, 0, none⟩), .int .i64 at_, v] w fun e w' => e = .returned (.tuple #[]) ∧ Chg (fun k => k = b) w w' ∧ PgB w' p d fp n s was now op (.map (some b)) f ∧
      ∃ D', w'.ownsMap Try.prog 3 pageElem b (N + 1) D' ∧ Chd w' D' (fun g => ok g ∨ w.heap.size ≤ g) (fun q => if q = at_ then some (pad504 l) else ch q) := by
  obtain ⟨c0, c1, c2, c3, f0, f1, f2, f3⟩ := pg_cells h.blk h.was h.now
  have H := hid h
  have HV := hid hv
  obtain ⟨_, pv, pc, rfl, _⟩ := hv
  have HKEY := hid (show keyOf Try.prog 3 (.int .i64 at_) = some (.int .i64 at_) from keyOf_int_mk Try.underlying3 hat)
  have MW : Hid (∀ w', Below w.heap.size w w' → w'.ownsMap Try.prog 3 pageElem b N D) := hid (fun w' hb => by
    obtain ⟨es, cl, h1, h2⟩ := hM
    exact ⟨es, cl, by rw [hb.block b (Array.getElem?_eq_some_iff.1 h1).1]; exact h1, h2⟩)
  clear h
  go_enter Try.func42, Try.ntmps42
  go_wp2_with (first
    | (at_make; refine wpList_make_blk rfl _ _ 30 rfl 5 _ 1 1 Try.underlying30 infoU8 _ _ _ _ 504 rfl rfl rfl rfl (by omega) (by simp only [maxLen]; omega) ?_; intro w1 hh1 hb1 hl1; rw [made_bytes] at hh1; have HM := hid hh1; have B1 := hid hb1; clear hh1 hb1)
    | (refine wpList_copy_gen rfl _ _ 30 30 rfl 5 1 Try.underlying30 infoU8' _ _ _ _ rfl _ _ HM.out _ rfl l.length (bv l) ?hr1 ?hr2 (bv_one _) ?_; (case hr1 => exact HV.out.chg (Chg.new B1.out (fun _ => False)) (fun _ _ _ _ h => h)); (case hr2 => rw [bv_length, List.length_replicate]; omega); intro w2 hb2 hc2 hs2; have W2 := hid hb2; have C2 := hid hc2; have S2 := hid hs2; clear hb2 hc2 hs2; (clear c0 c1 c2 c3 f0 f1 f2 f3); have B2 := hid (B1.out.trans (C2.out.below (fun k hk => by rw [hk]; exact Nat.le_refl _) B1.out.size)); have BP2 := hid ((H.out.blk.chg (Chg.new B1.out (fun _ => False)) (fun h => h)).chg C2.out (fun e => Nat.ne_of_lt H.out.blk.lt e)); obtain ⟨c0, c1, c2, c3, f0, f1, f2, f3⟩ := pg_cells BP2.out H.out.was H.out.now)
    | (at_mapUpdate; refine wpList_mapUpdate_in _ rfl _ _ _ 85 rfl 3 30 mapKeyed Try.underlying85 pageElem b N _ rfl (MW.out w2 (B2.out)) (by unfold maxLen; omega) _ _ _ rfl rfl HKEY.out _ [] (pageElem_page _) ?_; intro w3 hown3 hturn3; have OW3 := hid hown3; have TU3 := hid hturn3; clear hown3 hturn3))
  go_end0
  have hblt : b < w.heap.size := by
    obtain ⟨es, cl, h1, _⟩ := hM
    exact (Array.getElem?_eq_some_iff.1 h1).1
  have C3 : Chg (fun k => k = b) w2 w3 := (Chg.grown TU3.out.grown).mono (fun k _ h => (Option.some.inj h).symm)
  have C03 : Chg (fun k => k = b) w w3 := (Chg.new B2.out (fun k => k = b)).trans C3 (fun _ _ h => h)
  have hpg : Blk w2 w.heap.size (bv (pad504 l)) 5 := by
    have h := W2.out
    have e : splice (bv (List.replicate 504 0)) 0 ((bv l).take (min l.length 504 * 1)) = bv (pad504 l) := by
      rw [show min l.length 504 * 1 = l.length by omega, List.take_of_length_le (by rw [bv_length]; omega), bv_splice]
      congr 1
      unfold splice pad504
      rw [List.take_zero, List.nil_append, Nat.zero_add, List.drop_replicate]
    rw [e] at h
    exact h
  refine ⟨rfl, C03, ⟨H.out.dsk.chg C03 (fun k hk e => hb (e ▸ hk)), BP2.out.chg C3 (fun e => hbp e.symm), H.out.was, H.out.now, H.out.out⟩, _, OW3.out, ?_⟩
  exact Chd.put (ok := ok) ((hC.chg (Chg.new B2.out (fun _ => False)) (fun _ _ h => h)).chg C3 (fun g hg => (hok g hg).1)) (hM.isMap) (fun g hg => .inl hg) (hpg.chg C3 (fun e => by have : w.heap.size = b := e; omega)) (by simp [pad504]; omega) (.inr (Nat.le_refl _))
end Go.Proofs.Ytdilkgcoecipjaa

namespace Go.Proofs.Ytdilkgcoecipjaa
open Go.RowKit Go.Maps
set_option linter.unusedVariables false

/-- what a page reads as -/
def pgRead (s : DS) (ch : Int → Option (List UInt8)) (at_ : Nat) : List UInt8 := (ch at_).getD ((row s.now (401 + at_)).take 504)

theorem pageZero (w : World) : (zeroValue 30).run Try.prog w = .ok (.slice none 0 0) w := by kernel_rfl

set_option maxRecDepth 100000 in
set_option maxHeartbeats 2000000 in
theorem read_any (w : World) (p d : Nat) (fp : Nat → Prop) (n : Nat) (s : DS) (was now : HD) (op : Bool) (b N : Nat) (D : DataW Unit) (f : Value) (ok : Nat → Prop) (ch : Int → Option (List UInt8)) (k : Nat)
    (h : PgB w p d fp n s was now op (.map (some b)) f) (hM : w.ownsMap Try.prog 3 pageElem b N D) (hC : Chd w D ok ch) (hk : 401 + k < n) (hdead : s.dead = false) (hat : (Lit.int .i64 (k : Int)).wf = true) :
    Calls Try.prog 58 #[.pointer (some ⟨p, 0, none⟩), .int .i64 k] w fun e w' => ∃ q m c, e = .returned (.tuple #[.slice q m c, .int .i64 0]) ∧ Bs w' (.slice q m c) (pgRead s ch k) ∧ m = (pgRead s ch k).length ∧ Below w.heap.size w w' ∧ ∀ g, Value.ownBlock (.slice q m c) = some g → w.heap.size ≤ g := by
  obtain ⟨c0, c1, c2, c3, f0, f1, f2, f3⟩ := pg_cells h.blk h.was h.now
  have H := hid h
  have HKEY := hid (show keyOf Try.prog 3 (.int .i64 k) = some (.int .i64 k) from keyOf_int_mk Try.underlying3 hat)
  have HM := hid hM
  have HC := hid (hC k)
  have hn2 := h.dsk.ok.n2
  clear h hM hC hat
  have hw1 : IntKind.i64.wrap (401 + (k : Int)) = 401 + (k : Int) := by
    simp [IntKind.wrap, IntKind.bits, IntKind.signed]; omega
  generalize hck : ch k = c at *
  cases c with
  | none =>
    have HH : Hid (Maps.has D (.int .i64 k) = false) := hid HC.out
    have HCK := hid hck
    clear hck
    go_enter Try.func58, Try.ntmps58
    go_wp2_with (at_lookup; refine wpList_lookup_own_ok _ rfl _ _ 85 rfl 3 30 mapKeyed Try.underlying85 pageElem (pageZero _) .nil [] pageElem_nil b N _ rfl HM.out _ _ rfl HKEY.out ?_; intro v ps hv; rw [HH.out]; have HV := hid hv; clear hv)
    rw [show (401 + (k : Int)) = ((401 + k : Nat) : Int) by push_cast; rfl]
    refine (dRead_ok w d fp n s (401 + k) H.out.dsk hdead hk).mono ?_
    rintro e2 w2 ⟨g, rfl, hg, hblk, hb2⟩
    have B2 := hid hb2
    have hrl := row_length H.out.dsk.ok.now hk
    have G2 := hid (bs_part (lo := 0) (hi := 504) (c := 512) hblk hrl (by omega) (by omega) (by omega))
    clear hb2 hblk
    go_wp2_with fail
    have CL := hid (clone_any _ _ w2 G2.out (by rw [List.length_take, List.length_drop]; omega))
    have hl5 : (((row s.now (401 + k)).drop 0).take 504).length = 504 := by rw [List.length_take, List.length_drop, hrl]; rfl
    rw [hl5] at CL
    refine CL.out.mono ?_
    rintro e3 w3 ⟨p3, c3', rfl, ho3, hb3⟩
    have O3 := hid ho3
    have B3 := hid (B2.out.trans (hb3.mono B2.out.size))
    clear ho3 hb3 CL
    go_wp2_with fail
    go_ret2
    have e : pgRead s ch k = ((row s.now (401 + k)).drop 0).take 504 := by unfold pgRead; rw [HCK.out]; rfl
    refine ⟨p3, 504, c3', rfl, ?_, by rw [e, hl5], B3.out, fun g hg => Nat.le_trans B2.out.size (O3.out.lt g hg).1⟩
    rw [e]
    have h9 := Rd.of_own O3.out
    unfold Bs
    rw [hl5]
    exact h9
  | some l =>
    have HCK := hid hck
    clear hck
    go_enter Try.func58, Try.ntmps58
    go_wp2_with (at_lookup; refine wpList_lookup_own_ok _ rfl _ _ 85 rfl 3 30 mapKeyed Try.underlying85 pageElem (pageZero _) .nil [] pageElem_nil b N _ rfl HM.out _ _ rfl HKEY.out ?_; intro v ps hv; obtain ⟨q1, g, q2, q3, q4, q5⟩ := HC.out; rw [q1]; rw [q2] at hv; have HV := hid hv; have Q3 := hid q3; have Q4 := hid q4; clear hv q1 q2 q3 q4 q5)
    obtain ⟨g, rfl, q7⟩ : ∃ g' : Nat, v = .slice (some ⟨g', 0, none⟩) 504 504 ∧ g' = g := by
      rcases pageElem_inv HV.out with ⟨g', h1, h2⟩ | ⟨_, h2⟩
      · exact ⟨g', h1, by injection h2 with h2; injection h2 with _ h2; omega⟩
      · cases h2
    have G2 : Hid (Bs w (.slice (some ⟨g, 0, none⟩) 504 504) l) := hid (Bs.blk (q7 ▸ Q3.out) Q4.out.symm (by simp [maxLen]))
    have CL := hid (clone_any _ _ w G2.out (by rw [Q4.out]; omega))
    rw [Q4.out] at CL
    refine CL.out.mono ?_
    rintro e3 w3 ⟨p3, c3', rfl, ho3, hb3⟩
    have O3 := hid ho3
    have B3 := hid hb3
    clear ho3 hb3 CL
    go_wp2_with fail
    go_ret2
    have e : pgRead s ch k = l := by unfold pgRead; rw [HCK.out]; rfl
    refine ⟨p3, 504, c3', rfl, ?_, by rw [e, Q4.out], B3.out, fun g hg => (O3.out.lt g hg).1⟩
    rw [e]
    have h9 := Rd.of_own O3.out
    unfold Bs
    rw [Q4.out]
    exact h9
end Go.Proofs.Ytdilkgcoecipjaa

namespace Go.Proofs.Ytdilkgcoecipjaa
open Go.RowKit Go.Maps
set_option linter.unusedVariables false

/-- a pager, over the blocks F -/
def PgA (w : World) (p d : Nat) (F : Nat → Prop) (n : Nat) (s : DS) (was now : HD) (op : Bool) (ch : Int → Option (List UInt8)) (N : Nat) : Prop :=
  ∃ (fp ok : Nat → Prop) (b : Nat) (D : DataW Unit), PgB w p d fp n s was now op (.map (some b)) (fgt p) ∧ w.ownsMap Try.prog 3 pageElem b N D ∧ Chd w D ok ch ∧ ¬ fp b ∧ b ≠ p ∧
    (∀ g, ok g → g ≠ b ∧ g ≠ p ∧ ¬ fp g ∧ g < w.heap.size) ∧ ∀ k, F k ↔ (fp k ∨ k = p ∨ k = b ∨ ok k)

theorem PgA.lt {w : World} {p d : Nat} {F : Nat → Prop} {n : Nat} {s : DS} {was now : HD} {op : Bool} {ch : Int → Option (List UInt8)} {N : Nat} (h : PgA w p d F n s was now op ch N) : ∀ k, F k → k < w.heap.size := fun k hk => by
  obtain ⟨fp, ok, b, D, h1, h2, h3, h4, h5, h6, h7⟩ := h
  rcases (h7 k).1 hk with hk | rfl | rfl | hk
  · exact h1.dsk.lt k hk
  · exact h1.blk.lt
  · obtain ⟨es, cl, h8, _⟩ := h2
    exact (Array.getElem?_eq_some_iff.1 h8).1
  · exact (h6 k hk).2.2.2
theorem PgA.chg {w w' : World} {p d : Nat} {F fq : Nat → Prop} {n : Nat} {s : DS} {was now : HD} {op : Bool} {ch : Int → Option (List UInt8)} {N : Nat} (h : PgA w p d F n s was now op ch N) (hc : Chg fq w w') (hn : ∀ k, F k → ¬ fq k) : PgA w' p d F n s was now op ch N := by
  obtain ⟨fp, ok, b, D, h1, h2, h3, h4, h5, h6, h7⟩ := h
  have e1 : ∀ k, fp k → ¬ fq k := fun k hk => hn k ((h7 k).2 (.inl hk))
  have e2 : ¬ fq p := hn p ((h7 p).2 (.inr (.inl rfl)))
  have e3 : ¬ fq b := hn b ((h7 b).2 (.inr (.inr (.inl rfl))))
  have e4 : ∀ g, ok g → ¬ fq g := fun g hg => hn g ((h7 g).2 (.inr (.inr (.inr hg))))
  refine ⟨fp, ok, b, D, ⟨h1.dsk.chg hc e1, h1.blk.chg hc e2, h1.was, h1.now, h1.out⟩, ?_, h3.chg hc e4, h4, h5, fun g hg => ⟨(h6 g hg).1, (h6 g hg).2.1, (h6 g hg).2.2.1, Nat.lt_of_lt_of_le (h6 g hg).2.2.2 hc.size⟩, h7⟩
  obtain ⟨es, cl, h8, h9⟩ := h2
  exact ⟨es, cl, hc.heap h8 e3, h9⟩

/-- write, on the whole -/
theorem PgA.write {w : World} {p d : Nat} {F : Nat → Prop} {n : Nat} {s : DS} {was now : HD} {op : Bool} {ch : Int → Option (List UInt8)} {N : Nat} (h : PgA w p d F n s was now op ch N) (at_ : Int) (v : Value) (l : List UInt8) (hN : N ≤ 1000000) (hv : Bs w v l) (hl : l.length ≤ 504) (hat : (Lit.int .i64 at_).wf = true) :
    Calls Try.prog 42 #[.pointer (some ⟨p, 0, none⟩), .int .i64 at_, v] w fun e w' => e = .returned (.tuple #[]) ∧ Chg F w w' ∧ ∃ F', PgA w' p d F' n s was now op (fun q => if q = at_ then some (pad504 l) else ch q) (N + 1) ∧ ∀ k, F' k → F k ∨ w.heap.size ≤ k := by
  have hlt := h.lt
  obtain ⟨fp, ok, b, D, h1, h2, h3, h4, h5, h6, h7⟩ := h
  refine (write_any w p d fp n s was now op b N D (fgt p) ok ch at_ v l h1 h2 h3 h4 h5 (fun g hg => ⟨(h6 g hg).1, (h6 g hg).2.2.2⟩) hN hv hl hat).mono ?_
  rintro e w' ⟨rfl, hc, hb, D', hm, hd⟩
  refine ⟨rfl, hc.mono (fun k _ e => (h7 k).2 (.inr (.inr (.inl e)))), fun k => fp k ∨ k = p ∨ k = b ∨ (ok k ∨ (w.heap.size ≤ k ∧ k < w'.heap.size)), ⟨fp, fun k => ok k ∨ (w.heap.size ≤ k ∧ k < w'.heap.size), b, D', hb, hm, ?_, h4, h5, ?_, fun k => Iff.rfl⟩, ?_⟩
  · intro q
    have h8 := hd q
    split at h8
    · exact h8
    · obtain ⟨q1, g, q2, q3, q4, q5⟩ := h8
      exact ⟨q1, g, q2, q3, q4, q5.imp id (fun h => ⟨h, q3.lt⟩)⟩
  · rintro g (hg | ⟨hg, hg2⟩)
    · exact ⟨(h6 g hg).1, (h6 g hg).2.1, (h6 g hg).2.2.1, Nat.lt_of_lt_of_le (h6 g hg).2.2.2 hc.size⟩
    · have l1 := hlt b ((h7 b).2 (.inr (.inr (.inl rfl))))
      have l2 := h1.blk.lt
      exact ⟨by omega, by omega, fun h => by have := h1.dsk.lt g h; omega, hg2⟩
  · rintro k (hk | hk | hk | (hk | hk))
    · exact .inl ((h7 k).2 (.inl hk))
    · exact .inl ((h7 k).2 (.inr (.inl hk)))
    · exact .inl ((h7 k).2 (.inr (.inr (.inl hk))))
    · exact .inl ((h7 k).2 (.inr (.inr (.inr hk))))
    · exact .inr hk.1
end Go.Proofs.Ytdilkgcoecipjaa

namespace Go.Proofs.Ytdilkgcoecipjaa
open Go.RowKit Go.Maps
set_option linter.unusedVariables false

theorem openA (w : World) (d : Nat) (fp : Nat → Prop) (n : Nat) (s : DS) (h : Dsk w d fp n s) (hn : 403 ≤ n) (ho : s.ops + 3000 ≤ 1000000) (hr : (recov n s).2.2 = 0) (hdead : (recov n s).1.dead = false) :
    Calls Try.prog 21 #[.pointer (some ⟨d, 0, none⟩)] w fun e w' => ∃ p F, e = .returned (.tuple #[.pointer (some ⟨p, 0, none⟩), .int .i64 0]) ∧
      PgA w' p d F n (recov n s).1 (hdP (row (recov n s).1.now 401)) (hdP (row (recov n s).1.now 401)) false (fun _ => none) 0 ∧ Chg fp w w' ∧ w.heap.size ≤ p ∧ ∀ k, F k → fp k ∨ w.heap.size ≤ k := by
  refine (open_any w d fp n s h hn ho hr hdead).mono ?_
  rintro e w' ⟨p, m, fp', rfl, hd, hb, hm, n1, n2, n3, n4, n5, hc, hf⟩
  have hu := hdP_length (row_length hd.ok.now (show 401 < n by omega))
  refine ⟨p, fun k => fp' k ∨ k = p ∨ k = m ∨ False, rfl, ⟨fp', fun _ => False, m, .map [], ⟨hd, hb, hu, hu, n1⟩, ⟨#[], 0, hm, ⟨by simp, Go.MapKept.stamped_empty 0, by simp⟩, Nat.le_refl _, rfl⟩, Chd.nil _ _, n2, fun e => n3 e.symm, fun g hg => hg.elim, fun k => Iff.rfl⟩, hc, n4, ?_⟩
  rintro k (hk | rfl | rfl | hk)
  · exact hf k hk
  · exact .inr n4
  · exact .inr n5
  · exact hk.elim

theorem beginA {w : World} {p d : Nat} {F : Nat → Prop} {n : Nat} {s : DS} {was now : HD} {op : Bool} {ch : Int → Option (List UInt8)} {N : Nat} (h : PgA w p d F n s was now op ch N) :
    Calls Try.prog 23 #[.pointer (some ⟨p, 0, none⟩)] w fun e w' => e = .returned (.int .i64 (if op then 12 else 0)) ∧ Chg F w w' ∧ PgA w' p d F n s was now true ch N := by
  obtain ⟨fp, ok, b, D, h1, h2, h3, h4, h5, h6, h7⟩ := h
  refine (begin_any w p _ _ _ was now op h1.blk h1.was h1.now).mono ?_
  rintro e w' ⟨rfl, hc, hb⟩
  have e3 : ¬ (b = p) := h5
  refine ⟨rfl, hc.mono (fun k _ e => (h7 k).2 (.inr (.inl e))), fp, ok, b, D, ⟨h1.dsk.chg hc (fun k hk e => h1.out (e ▸ hk)), hb, h1.was, h1.now, h1.out⟩, ?_, h3.chg hc (fun g hg => (h6 g hg).2.1), h4, h5, fun g hg => ⟨(h6 g hg).1, (h6 g hg).2.1, (h6 g hg).2.2.1, Nat.lt_of_lt_of_le (h6 g hg).2.2.2 hc.size⟩, h7⟩
  obtain ⟨es, cl, h8, h9⟩ := h2
  exact ⟨es, cl, hc.heap h8 e3, h9⟩
end Go.Proofs.Ytdilkgcoecipjaa

namespace Go.Proofs.Ytdilkgcoecipjaa
open Go.RowKit Go.Maps
set_option linter.unusedVariables false

/-- is a page there -/
def thereP (n : Nat) (now : HD) (at_ : Int) : Bool := bitOf now.used at_ && decide (at_ < (n : Int) - 401)
/-- the page that comes next, what it is an error, and the head behind it -/
def freshP (n : Nat) (s : DS) (now : HD) (ch : Int → Option (List UInt8)) : Int × Int × HD :=
  if 0 < now.free ∧ now.free < (n : Int) - 401 ∧ thereP n now now.free = false then (now.free, 0, { now with free := wrap64 (num ((pgRead s ch now.free.toNat).take 8) : Nat) })
  else if wrap64 (now.ever + 1) < 1 ∨ (n : Int) - 401 ≤ wrap64 (now.ever + 1) ∨ thereP n now (wrap64 (now.ever + 1)) = true then (0, 14, now)
  else (wrap64 (now.ever + 1), 0, { now with ever := wrap64 (now.ever + 1) })

theorem PgA.cells {w : World} {p d : Nat} {F : Nat → Prop} {n : Nat} {s : DS} {was now : HD} {op : Bool} {ch : Int → Option (List UInt8)} {N : Nat} (h : PgA w p d F n s was now op ch N) :
    w.cell? ⟨p, 757, none⟩ = some (.bool op) ∧ w.cell? ⟨p, 379, none⟩ = some (.int .i64 now.root) ∧ w.cell? ⟨p, 380, none⟩ = some (.int .i64 now.ever) ∧ w.cell? ⟨p, 381, none⟩ = some (.int .i64 now.free) ∧
    w.frozen? ⟨p, 379, none⟩ = false ∧ w.frozen? ⟨p, 380, none⟩ = false ∧ w.frozen? ⟨p, 381, none⟩ = false := by
  obtain ⟨fp, ok, b, D, h1, h2, h3, h4, h5, h6, h7⟩ := h
  obtain ⟨c0, c1, c2, c3, f0, f1, f2, f3⟩ := pg_cells h1.blk h1.was h1.now
  exact ⟨c1, h1.head.2 0 _ rfl, h1.head.2 1 _ rfl, h1.head.2 2 _ rfl, h1.blk.frozen 379, h1.blk.frozen 380, h1.blk.frozen 381⟩
theorem PgA.there {w : World} {p d : Nat} {F : Nat → Prop} {n : Nat} {s : DS} {was now : HD} {op : Bool} {ch : Int → Option (List UInt8)} {N : Nat} (h : PgA w p d F n s was now op ch N) (at_ : Int) :
    Calls Try.prog 33 #[.pointer (some ⟨p, 0, none⟩), .int .i64 at_] w fun e w' => e = .returned (.bool (thereP n now at_)) ∧ w' = w := by
  obtain ⟨fp, ok, b, D, h1, h2, h3, h4, h5, h6, h7⟩ := h
  exact there_any w p d fp n s was now op _ _ at_ h1
theorem PgA.pages {w : World} {p d : Nat} {F : Nat → Prop} {n : Nat} {s : DS} {was now : HD} {op : Bool} {ch : Int → Option (List UInt8)} {N : Nat} (h : PgA w p d F n s was now op ch N) :
    Calls Try.prog 32 #[.pointer (some ⟨p, 0, none⟩)] w fun e w' => e = .returned (.int .i64 ((n : Int) - 401)) ∧ w' = w := by
  obtain ⟨fp, ok, b, D, h1, h2, h3, h4, h5, h6, h7⟩ := h
  exact pages_any w p d fp n s was now op _ _ h1
theorem PgA.read {w : World} {p d : Nat} {F : Nat → Prop} {n : Nat} {s : DS} {was now : HD} {op : Bool} {ch : Int → Option (List UInt8)} {N : Nat} (h : PgA w p d F n s was now op ch N) (k : Nat) (hk : 401 + k < n) (hdead : s.dead = false) (hat : (Lit.int .i64 (k : Int)).wf = true) :
    Calls Try.prog 58 #[.pointer (some ⟨p, 0, none⟩), .int .i64 k] w fun e w' => ∃ q m c, e = .returned (.tuple #[.slice q m c, .int .i64 0]) ∧ Bs w' (.slice q m c) (pgRead s ch k) ∧ m = (pgRead s ch k).length ∧ Below w.heap.size w w' ∧ ∀ g, Value.ownBlock (.slice q m c) = some g → w.heap.size ≤ g := by
  obtain ⟨fp, ok, b, D, h1, h2, h3, h4, h5, h6, h7⟩ := h
  exact read_any w p d fp n s was now op b N D _ ok ch k h1 h2 h3 hk hdead hat
theorem PgA.setNow {w : World} {p d : Nat} {F : Nat → Prop} {n : Nat} {s : DS} {was now h' : HD} {op : Bool} {ch : Int → Option (List UInt8)} {N : Nat} (h : PgA w p d F n s was now op ch N) {j : Nat} {x : Value} (hj : j < 378) (hu : h'.used.length = 375) (he : (hdC now).set j x = hdC h') :
    PgA (w.setCell ⟨p, 379 + j, none⟩ x) p d F n s was h' op ch N := by
  obtain ⟨fp, ok, b, D, h1, h2, h3, h4, h5, h6, h7⟩ := h
  have hc : Chg (fun k => k = p) w (w.setCell ⟨p, 379 + j, none⟩ x) := Chg.setCell (fp := fun k => k = p) _ rfl _
  have h3' := h1.blk.set (379 + j) x
  rw [pgC_setAt h1.was h1.now hj he] at h3'
  refine ⟨fp, ok, b, D, ⟨h1.dsk.chg hc (fun k hk e => h1.out (e ▸ hk)), h3', h1.was, hu, h1.out⟩, ?_, h3.chg hc (fun g hg => (h6 g hg).2.1), h4, h5, fun g hg => ⟨(h6 g hg).1, (h6 g hg).2.1, (h6 g hg).2.2.1, Nat.lt_of_lt_of_le (h6 g hg).2.2.2 hc.size⟩, h7⟩
  obtain ⟨es, cl, h8, h9⟩ := h2
  exact ⟨es, cl, hc.heap h8 h5, h9⟩

theorem PgA.own {w : World} {p d : Nat} {F : Nat → Prop} {n : Nat} {s : DS} {was now : HD} {op : Bool} {ch : Int → Option (List UInt8)} {N : Nat} (h : PgA w p d F n s was now op ch N) : F p ∧ now.used.length = 375 ∧ was.used.length = 375 := by
  obtain ⟨fp, ok, b, D, h1, h2, h3, h4, h5, h6, h7⟩ := h
  exact ⟨(h7 p).2 (.inr (.inl rfl)), h1.now, h1.was⟩

set_option maxRecDepth 100000 in
set_option maxHeartbeats 4000000 in
theorem PgA.fresh {w : World} {p d : Nat} {F : Nat → Prop} {n : Nat} {s : DS} {was now : HD} {op : Bool} {ch : Int → Option (List UInt8)} {N : Nat} (h : PgA w p d F n s was now op ch N) (hn : 403 ≤ n) (hn3 : n ≤ 3000) (hdead : s.dead = false) (hl : ∀ k : Nat, 401 + k < n → (pgRead s ch k).length = 504) :
    Calls Try.prog 40 #[.pointer (some ⟨p, 0, none⟩)] w fun e w' => e = .returned (.tuple #[.int .i64 (freshP n s now ch).1, .int .i64 (freshP n s now ch).2.1]) ∧ Chg F w w' ∧ PgA w' p d F n s was (freshP n s now ch).2.2 op ch N := by
  obtain ⟨c1, c379, c380, c381, g379, g380, g381⟩ := h.cells
  have H := hid h
  have HT := hid (fun a => h.there a)
  have HPG := hid h.pages
  have HL := hid hl
  clear h hl
  by_cases a1 : 0 < now.free
  · by_cases a2 : now.free < (n : Int) - 401
    · cases a3 : thereP n now now.free
      · have hf : freshP n s now ch = (now.free, 0, { now with free := wrap64 (num ((pgRead s ch now.free.toNat).take 8) : Nat) }) := if_pos ⟨a1, a2, a3⟩
        rw [hf]
        have A3 := hid a3
        clear hf a3
        go_enter Try.func40, Try.ntmps40
        go_wp2_with fail
        refine HPG.out.mono ?_; rintro e1 wx ⟨rfl, hw⟩
        subst hw
        go_wp2_with fail
        refine (HT.out _).mono ?_; rintro e1 wx ⟨rfl, hw⟩
        subst hw
        rw [A3.out]
        go_wp2_with fail
        have hkk : now.free = ((now.free.toNat : Nat) : Int) := by omega
        have hkn : 401 + now.free.toNat < n := by omega
        have RD := hid (H.out.read now.free.toNat hkn hdead (wf_small (by omega) (by omega)))
        rw [← hkk] at RD
        clear hkk
        refine RD.out.mono ?_
        rintro e2 w2 ⟨q, m, cq, rfl, hbs, hm, hb2, _⟩
        have LR := hid (HL.out now.free.toNat hkn)
        have hm9 : Hid (m = 504) := hid (hm.trans LR.out)
        clear hm
        have BS2 := hid hbs
        have B2 := hid hb2
        have H2 := hid (H.out.chg (Chg.new hb2 (fun _ => False)) (fun _ _ h => h))
        have C381 := hid (H2.out.cells)
        clear hbs hb2 RD c1 c379 c380 c381 g379 g380 g381
        go_wp2_with fail
        refine (New_any _ _ w2 BS2.out (by rw [LR.out]; omega)).mono ?_
        rintro e3 w3 ⟨r, rfl, hb3, hr, ob, hob, hrd⟩
        have B3 := hid (B2.out.trans (hb3.mono B2.out.size))
        have H3 := hid (H2.out.chg (Chg.new hb3 (fun _ => False)) (fun _ _ h => h))
        have R3 := hid hrd
        clear hb3 hrd
        go_wp2_with fail
        refine (rInt_any r ob _ 0 w3 R3.out (by rw [LR.out]; omega) (by omega) (by omega)).mono ?_
        rintro e4 w4 ⟨rfl, hc4, _⟩
        rw [show tkGot (pgRead s ch now.free.toNat) 0 8 = (pgRead s ch now.free.toNat).take 8 by unfold tkGot; rw [if_neg (by simp), if_neg (by rw [LR.out]; omega)]]
        have hrF : ∀ k, F k → ¬ (fun k => k = r) k := fun k hk e => by have := H2.out.lt k hk; have e' : k = r := e; omega
        have H4 := hid (H3.out.chg hc4 hrF)
        have C4 := hid ((Chg.new B3.out F).trans (hc4.mono (fun k hk e => Or.inr e) : Chg (fun k => F k ∨ k = r) w3 w4) (fun k hk h => h.elim id (fun e => by have := B2.out.size; omega)))
        obtain ⟨c1, c379, c380, c381, g379, g380, g381⟩ := H4.out.cells
        clear hc4
        go_wp2_with fail
        go_ret2
        exact ⟨rfl, C4.out.trans (Chg.setCell (fp := F) _ H4.out.own.1 _) (fun _ _ h => h), H4.out.setNow (j := 2) (by omega) H4.out.own.2.1 rfl⟩
      · have hf0 := hid (show freshP n s now ch = if wrap64 (now.ever + 1) < 1 ∨ (n : Int) - 401 ≤ wrap64 (now.ever + 1) ∨ thereP n now (wrap64 (now.ever + 1)) = true then (0, 14, now) else (wrap64 (now.ever + 1), 0, { now with ever := wrap64 (now.ever + 1) }) from if_neg (fun h => by rw [a3] at h; exact absurd h.2.2 (by decide)))
        have A3 := hid a3
        clear a3
        by_cases b1 : wrap64 (now.ever + 1) < 1
        · rw [show freshP n s now ch = (0, 14, now) from hf0.out.trans (if_pos (.inl b1))]
          clear hf0
          go_enter Try.func40, Try.ntmps40
          go_wp2_with fail
          refine HPG.out.mono ?_; rintro e1 wx ⟨rfl, hw⟩
          subst hw
          go_wp2_with fail
          refine (HT.out _).mono ?_; rintro e1 wx ⟨rfl, hw⟩
          subst hw
          rw [A3.out]
          go_wp2_with fail
          go_ret2
          exact ⟨rfl, Chg.refl _ _, H.out⟩
        · by_cases b2 : (n : Int) - 401 ≤ wrap64 (now.ever + 1)
          · rw [show freshP n s now ch = (0, 14, now) from hf0.out.trans (if_pos (.inr (.inl b2)))]
            clear hf0
            go_enter Try.func40, Try.ntmps40
            go_wp2_with fail
            refine HPG.out.mono ?_; rintro e1 wx ⟨rfl, hw⟩
            subst hw
            go_wp2_with fail
            refine (HT.out _).mono ?_; rintro e1 wx ⟨rfl, hw⟩
            subst hw
            rw [A3.out]
            go_wp2_with fail
            refine HPG.out.mono ?_; rintro e1 wx ⟨rfl, hw⟩
            subst hw
            go_wp2_with fail
            go_ret2
            exact ⟨rfl, Chg.refl _ _, H.out⟩
          · cases b3 : thereP n now (wrap64 (now.ever + 1))
            · rw [show freshP n s now ch = (wrap64 (now.ever + 1), 0, { now with ever := wrap64 (now.ever + 1) }) from hf0.out.trans (if_neg (by rw [b3]; rintro (h | h | h) <;> first | exact b1 h | exact b2 h | cases h))]
              have B3 := hid b3
              clear hf0 b3
              go_enter Try.func40, Try.ntmps40
              go_wp2_with fail
              refine HPG.out.mono ?_; rintro e1 wx ⟨rfl, hw⟩
              subst hw
              go_wp2_with fail
              refine (HT.out _).mono ?_; rintro e1 wx ⟨rfl, hw⟩
              subst hw
              rw [A3.out]
              go_wp2_with fail
              refine HPG.out.mono ?_; rintro e1 wx ⟨rfl, hw⟩
              subst hw
              go_wp2_with fail
              refine (HT.out _).mono ?_; rintro e1 wx ⟨rfl, hw⟩
              subst hw
              rw [B3.out]
              go_wp2_with fail
              go_ret2
              exact ⟨rfl, Chg.setCell (fp := F) _ H.out.own.1 _, H.out.setNow (j := 1) (by omega) H.out.own.2.1 rfl⟩
            · rw [show freshP n s now ch = (0, 14, now) from hf0.out.trans (if_pos (.inr (.inr b3)))]
              have B3 := hid b3
              clear hf0 b3
              go_enter Try.func40, Try.ntmps40
              go_wp2_with fail
              refine HPG.out.mono ?_; rintro e1 wx ⟨rfl, hw⟩
              subst hw
              go_wp2_with fail
              refine (HT.out _).mono ?_; rintro e1 wx ⟨rfl, hw⟩
              subst hw
              rw [A3.out]
              go_wp2_with fail
              refine HPG.out.mono ?_; rintro e1 wx ⟨rfl, hw⟩
              subst hw
              go_wp2_with fail
              refine (HT.out _).mono ?_; rintro e1 wx ⟨rfl, hw⟩
              subst hw
              rw [B3.out]
              go_wp2_with fail
              go_ret2
              exact ⟨rfl, Chg.refl _ _, H.out⟩
    · have hf0 := hid (show freshP n s now ch = if wrap64 (now.ever + 1) < 1 ∨ (n : Int) - 401 ≤ wrap64 (now.ever + 1) ∨ thereP n now (wrap64 (now.ever + 1)) = true then (0, 14, now) else (wrap64 (now.ever + 1), 0, { now with ever := wrap64 (now.ever + 1) }) from if_neg (fun h => a2 h.2.1))
      by_cases b1 : wrap64 (now.ever + 1) < 1
      · rw [show freshP n s now ch = (0, 14, now) from hf0.out.trans (if_pos (.inl b1))]
        clear hf0
        go_enter Try.func40, Try.ntmps40
        go_wp2_with fail
        refine HPG.out.mono ?_; rintro e1 wx ⟨rfl, hw⟩
        subst hw
        go_wp2_with fail
        go_ret2
        exact ⟨rfl, Chg.refl _ _, H.out⟩
      · by_cases b2 : (n : Int) - 401 ≤ wrap64 (now.ever + 1)
        · rw [show freshP n s now ch = (0, 14, now) from hf0.out.trans (if_pos (.inr (.inl b2)))]
          clear hf0
          go_enter Try.func40, Try.ntmps40
          go_wp2_with fail
          refine HPG.out.mono ?_; rintro e1 wx ⟨rfl, hw⟩
          subst hw
          go_wp2_with fail
          refine HPG.out.mono ?_; rintro e1 wx ⟨rfl, hw⟩
          subst hw
          go_wp2_with fail
          go_ret2
          exact ⟨rfl, Chg.refl _ _, H.out⟩
        · cases b3 : thereP n now (wrap64 (now.ever + 1))
          · rw [show freshP n s now ch = (wrap64 (now.ever + 1), 0, { now with ever := wrap64 (now.ever + 1) }) from hf0.out.trans (if_neg (by rw [b3]; rintro (h | h | h) <;> first | exact b1 h | exact b2 h | cases h))]
            have B3 := hid b3
            clear hf0 b3
            go_enter Try.func40, Try.ntmps40
            go_wp2_with fail
            refine HPG.out.mono ?_; rintro e1 wx ⟨rfl, hw⟩
            subst hw
            go_wp2_with fail
            refine HPG.out.mono ?_; rintro e1 wx ⟨rfl, hw⟩
            subst hw
            go_wp2_with fail
            refine (HT.out _).mono ?_; rintro e1 wx ⟨rfl, hw⟩
            subst hw
            rw [B3.out]
            go_wp2_with fail
            go_ret2
            exact ⟨rfl, Chg.setCell (fp := F) _ H.out.own.1 _, H.out.setNow (j := 1) (by omega) H.out.own.2.1 rfl⟩
          · rw [show freshP n s now ch = (0, 14, now) from hf0.out.trans (if_pos (.inr (.inr b3)))]
            have B3 := hid b3
            clear hf0 b3
            go_enter Try.func40, Try.ntmps40
            go_wp2_with fail
            refine HPG.out.mono ?_; rintro e1 wx ⟨rfl, hw⟩
            subst hw
            go_wp2_with fail
            refine HPG.out.mono ?_; rintro e1 wx ⟨rfl, hw⟩
            subst hw
            go_wp2_with fail
            refine (HT.out _).mono ?_; rintro e1 wx ⟨rfl, hw⟩
            subst hw
            rw [B3.out]
            go_wp2_with fail
            go_ret2
            exact ⟨rfl, Chg.refl _ _, H.out⟩
  · have hf0 := hid (show freshP n s now ch = if wrap64 (now.ever + 1) < 1 ∨ (n : Int) - 401 ≤ wrap64 (now.ever + 1) ∨ thereP n now (wrap64 (now.ever + 1)) = true then (0, 14, now) else (wrap64 (now.ever + 1), 0, { now with ever := wrap64 (now.ever + 1) }) from if_neg (fun h => a1 h.1))
    by_cases b1 : wrap64 (now.ever + 1) < 1
    · rw [show freshP n s now ch = (0, 14, now) from hf0.out.trans (if_pos (.inl b1))]
      clear hf0
      go_enter Try.func40, Try.ntmps40
      go_wp2_with fail
      go_ret2
      exact ⟨rfl, Chg.refl _ _, H.out⟩
    · by_cases b2 : (n : Int) - 401 ≤ wrap64 (now.ever + 1)
      · rw [show freshP n s now ch = (0, 14, now) from hf0.out.trans (if_pos (.inr (.inl b2)))]
        clear hf0
        go_enter Try.func40, Try.ntmps40
        go_wp2_with fail
        refine HPG.out.mono ?_; rintro e1 wx ⟨rfl, hw⟩
        subst hw
        go_wp2_with fail
        go_ret2
        exact ⟨rfl, Chg.refl _ _, H.out⟩
      · cases b3 : thereP n now (wrap64 (now.ever + 1))
        · rw [show freshP n s now ch = (wrap64 (now.ever + 1), 0, { now with ever := wrap64 (now.ever + 1) }) from hf0.out.trans (if_neg (by rw [b3]; rintro (h | h | h) <;> first | exact b1 h | exact b2 h | cases h))]
          have B3 := hid b3
          clear hf0 b3
          go_enter Try.func40, Try.ntmps40
          go_wp2_with fail
          refine HPG.out.mono ?_; rintro e1 wx ⟨rfl, hw⟩
          subst hw
          go_wp2_with fail
          refine (HT.out _).mono ?_; rintro e1 wx ⟨rfl, hw⟩
          subst hw
          rw [B3.out]
          go_wp2_with fail
          go_ret2
          exact ⟨rfl, Chg.setCell (fp := F) _ H.out.own.1 _, H.out.setNow (j := 1) (by omega) H.out.own.2.1 rfl⟩
        · rw [show freshP n s now ch = (0, 14, now) from hf0.out.trans (if_pos (.inr (.inr b3)))]
          have B3 := hid b3
          clear hf0 b3
          go_enter Try.func40, Try.ntmps40
          go_wp2_with fail
          refine HPG.out.mono ?_; rintro e1 wx ⟨rfl, hw⟩
          subst hw
          go_wp2_with fail
          refine (HT.out _).mono ?_; rintro e1 wx ⟨rfl, hw⟩
          subst hw
          rw [B3.out]
          go_wp2_with fail
          go_ret2
          exact ⟨rfl, Chg.refl _ _, H.out⟩
end Go.Proofs.Ytdilkgcoecipjaa

namespace Go.Proofs.Ytdilkgcoecipjaa
open Go.RowKit Go.Maps
set_option linter.unusedVariables false

/-- a head with a page's mark turned -/
def turnH (h : HD) (k : Nat) (is : Bool) : HD := { h with used := h.used.set (k / 8) (turnB (h.used.getD (k / 8) 0) k is) }

theorem PgA.mark {w : World} {p d : Nat} {F : Nat → Prop} {n : Nat} {s : DS} {was now : HD} {op : Bool} {ch : Int → Option (List UInt8)} {N : Nat} (h : PgA w p d F n s was now op ch N) (k : Nat) (is : Bool) (hk : k < 3000) :
    Calls Try.prog 41 #[.pointer (some ⟨p, 379, none⟩), .int .i64 k, .bool is] w fun e w' => e = .returned (.tuple #[]) ∧ Chg F w w' ∧ PgA w' p d F n s was (turnH now k is) op ch N := by
  have hF := h.own.1
  obtain ⟨fp, ok, b, D, h1, h2, h3, h4, h5, h6, h7⟩ := h
  refine (mark_any w p 379 _ _ now k is h1.blk h1.head hk).mono ?_
  rintro e w' ⟨rfl, hc, hb⟩
  have hb' : Blk w' p (pgC (.pointer (some ⟨d, 0, none⟩)) was (turnH now k is) op (.map (some b)) (fgt p)) 87 := by
    rw [Nat.add_assoc, pgC_setAt (j := 3 + k / 8) (h := turnH now k is) h1.was h1.now (by omega) (hdC_setUsed _ _ _)] at hb
    exact hb
  refine ⟨rfl, hc.mono (fun q _ e => e ▸ hF), fp, ok, b, D, ⟨h1.dsk.chg hc (fun q hq e => h1.out (e ▸ hq)), hb', h1.was, by simp [turnH, h1.now], h1.out⟩, ?_, h3.chg hc (fun g hg => (h6 g hg).2.1), h4, h5, fun g hg => ⟨(h6 g hg).1, (h6 g hg).2.1, (h6 g hg).2.2.1, Nat.lt_of_lt_of_le (h6 g hg).2.2.2 hc.size⟩, h7⟩
  obtain ⟨es, cl, h8, h9⟩ := h2
  exact ⟨es, cl, hc.heap h8 h5, h9⟩
end Go.Proofs.Ytdilkgcoecipjaa

namespace Go.Proofs.Ytdilkgcoecipjaa
open Go.RowKit Go.Maps
set_option linter.unusedVariables false

/-- the changed pages, with one more -/
def chP (ch : Int → Option (List UInt8)) (at_ : Int) (l : List UInt8) : Int → Option (List UInt8) := fun q => if q = at_ then some (pad504 l) else ch q
def newP (n : Nat) (s : DS) (op : Bool) (now : HD) (ch : Int → Option (List UInt8)) : Int × Int × HD × (Int → Option (List UInt8)) :=
  if op = false then (0, 12, now, ch)
  else if (freshP n s now ch).2.1 = 0 then ((freshP n s now ch).1, 0, turnH (freshP n s now ch).2.2 (freshP n s now ch).1.toNat true, chP ch (freshP n s now ch).1 [])
  else (0, (freshP n s now ch).2.1, (freshP n s now ch).2.2, ch)
def dropP (n : Nat) (op : Bool) (now : HD) (ch : Int → Option (List UInt8)) (at_ : Int) : Int × HD × (Int → Option (List UInt8)) :=
  if op = false then (12, now, ch)
  else if thereP n now at_ = false then (1, now, ch)
  else (0, { turnH now at_.toNat false with free := at_ }, chP ch at_ (le8 now.free))
def putP (n : Nat) (op : Bool) (now : HD) (ch : Int → Option (List UInt8)) (at_ : Int) (l : List UInt8) : Int × (Int → Option (List UInt8)) :=
  if op = false then (12, ch)
  else if thereP n now at_ = false then (1, ch)
  else if 504 < l.length then (5, ch)
  else (0, chP ch at_ l)
theorem thereP_bd {n : Nat} {now : HD} {at_ : Int} (h : thereP n now at_ = true) : 0 < at_ ∧ at_ < 3000 ∧ at_ < (n : Int) - 401 := by
  unfold thereP bitOf at h
  simp only [Bool.and_eq_true, decide_eq_true_eq] at h
  omega
theorem freshP_bd {n : Nat} {s : DS} {now : HD} {ch : Int → Option (List UInt8)} (h : (freshP n s now ch).2.1 = 0) : 0 < (freshP n s now ch).1 ∧ (freshP n s now ch).1 < (n : Int) - 401 := by
  revert h
  unfold freshP
  split
  · intro _; simp only; omega
  · split
    · intro h; simp at h
    · intro _; simp only; omega

set_option maxRecDepth 100000 in
set_option maxHeartbeats 2000000 in
theorem PgA.new {w : World} {p d : Nat} {F : Nat → Prop} {n : Nat} {s : DS} {was now : HD} {op : Bool} {ch : Int → Option (List UInt8)} {N : Nat} (h : PgA w p d F n s was now op ch N) (hn : 403 ≤ n) (hn3 : n ≤ 3000) (hdead : s.dead = false) (hl : ∀ k : Nat, 401 + k < n → (pgRead s ch k).length = 504) (hN : N ≤ 1000000) :
    Calls Try.prog 24 #[.pointer (some ⟨p, 0, none⟩)] w fun e w' => e = .returned (.tuple #[.int .i64 (newP n s op now ch).1, .int .i64 (newP n s op now ch).2.1]) ∧ Chg F w w' ∧
      ∃ F' N', PgA w' p d F' n s was (newP n s op now ch).2.2.1 op (newP n s op now ch).2.2.2 N' ∧ N' ≤ N + 1 ∧ ∀ k, F' k → F k ∨ w.heap.size ≤ k := by
  obtain ⟨c1, c379, c380, c381, g379, g380, g381⟩ := h.cells
  have H := hid h
  have HF := hid (h.fresh hn hn3 hdead hl)
  clear h hl c379 c380 c381 g379 g380 g381
  cases op with
  | false =>
    rw [show newP n s false now ch = (0, 12, now, ch) from if_pos rfl]
    go_enter Try.func24, Try.ntmps24
    go_wp2_with fail
    go_ret2
    exact ⟨rfl, Chg.refl _ _, F, N, H.out, Nat.le_succ _, fun _ h => .inl h⟩
  | true =>
    have hdef : newP n s true now ch = if (freshP n s now ch).2.1 = 0 then ((freshP n s now ch).1, 0, turnH (freshP n s now ch).2.2 (freshP n s now ch).1.toNat true, chP ch (freshP n s now ch).1 []) else (0, (freshP n s now ch).2.1, (freshP n s now ch).2.2, ch) := if_neg (by simp)
    have hbd := @freshP_bd n s now ch
    rw [hdef]
    clear hdef
    generalize freshP n s now ch = fr at *
    obtain ⟨at_, er, now'⟩ := fr
    simp only at *
    by_cases he : er = 0
    · subst he
      obtain ⟨b1, b2⟩ := hbd rfl
      obtain ⟨k, rfl⟩ : ∃ k : Nat, at_ = (k : Int) := ⟨at_.toNat, by omega⟩
      rw [if_pos rfl, Int.toNat_natCast]
      clear hbd
      go_enter Try.func24, Try.ntmps24
      go_wp2_with fail
      refine HF.out.mono ?_
      rintro e1 w1 ⟨rfl, hc1, h1⟩
      have C1 := hid hc1
      have H1 := hid h1
      clear hc1 h1 c1
      go_wp2_with fail
      refine (H1.out.mark k true (by omega)).mono ?_
      rintro e2 w2 ⟨rfl, hc2, h2⟩
      have C2 := hid (C1.out.trans hc2 (fun _ _ h => h))
      have H2 := hid h2
      clear hc2 h2
      go_wp2_with fail
      refine (H2.out.write (k : Int) (.slice none 0 0) [] hN (Rd.nil _ _) (by simp) (wf_small (by omega) (by omega))).mono ?_
      rintro e3 w3 ⟨rfl, hc3, F', h3, hF'⟩
      have C3 := hid (C2.out.trans hc3 (fun _ _ h => h))
      have H3 := hid h3
      have S := hid hF'
      clear hc3 h3 hF'
      go_wp2_with fail
      go_ret2
      exact ⟨rfl, C3.out, F', N + 1, H3.out, Nat.le_refl _, fun q hq => (S.out q hq).imp id (fun h => Nat.le_trans C2.out.size h)⟩
    · rw [if_neg he]
      have HE := hid he
      have hen : (er == 0) = false := by simpa using he
      clear he hbd
      go_enter Try.func24, Try.ntmps24
      go_wp2_with fail
      refine HF.out.mono ?_
      rintro e1 w1 ⟨rfl, hc1, h1⟩
      have C1 := hid hc1
      have H1 := hid h1
      clear hc1 h1 c1
      have hen2 : (er != 0) = true := by simp [bne, hen]
      go_wp2_with fail
      go_ret2
      exact ⟨rfl, C1.out, F, N, H1.out, Nat.le_succ _, fun _ h => .inl h⟩

set_option maxRecDepth 100000 in
set_option maxHeartbeats 2000000 in
theorem PgA.drop {w : World} {p d : Nat} {F : Nat → Prop} {n : Nat} {s : DS} {was now : HD} {op : Bool} {ch : Int → Option (List UInt8)} {N : Nat} (h : PgA w p d F n s was now op ch N) (at_ : Int) (hN : N ≤ 1000000) :
    Calls Try.prog 49 #[.pointer (some ⟨p, 0, none⟩), .int .i64 at_] w fun e w' => e = .returned (.int .i64 (dropP n op now ch at_).1) ∧ Chg F w w' ∧
      ∃ F' N', PgA w' p d F' n s was (dropP n op now ch at_).2.1 op (dropP n op now ch at_).2.2 N' ∧ N' ≤ N + 1 ∧ ∀ k, F' k → F k ∨ w.heap.size ≤ k := by
  obtain ⟨c1, c379, c380, c381, g379, g380, g381⟩ := h.cells
  have H := hid h
  have HT := hid (h.there at_)
  clear h c379 c380 c381 g379 g380 g381
  cases op with
  | false =>
    rw [show dropP n false now ch at_ = (12, now, ch) from if_pos rfl]
    go_enter Try.func49, Try.ntmps49
    go_wp2_with fail
    go_ret
    exact ⟨rfl, Chg.refl _ _, F, N, H.out, Nat.le_succ _, fun _ h => .inl h⟩
  | true =>
    cases ht : thereP n now at_
    · rw [show dropP n true now ch at_ = (1, now, ch) from (if_neg (by simp)).trans (if_pos ht)]
      have T := hid ht
      clear ht
      go_enter Try.func49, Try.ntmps49
      go_wp2_with fail
      refine HT.out.mono ?_; rintro e1 wx ⟨rfl, hw⟩
      subst hw
      rw [T.out]
      go_wp2_with fail
      go_ret
      exact ⟨rfl, Chg.refl _ _, F, N, H.out, Nat.le_succ _, fun _ h => .inl h⟩
    · rw [show dropP n true now ch at_ = (0, { turnH now at_.toNat false with free := at_ }, chP ch at_ (le8 now.free)) from (if_neg (by simp)).trans (if_neg (by rw [ht]; simp))]
      obtain ⟨b1, b2, b3⟩ := thereP_bd ht
      obtain ⟨k, rfl⟩ : ∃ k : Nat, at_ = (k : Int) := ⟨at_.toNat, by omega⟩
      rw [Int.toNat_natCast]
      have T := hid ht
      clear ht
      go_enter Try.func49, Try.ntmps49
      go_wp2_with fail
      refine HT.out.mono ?_; rintro e1 wx ⟨rfl, hw⟩
      subst hw
      rw [T.out]
      go_wp2_with fail
      refine (H.out.mark k false (by omega)).mono ?_
      rintro e2 w2 ⟨rfl, hc2, h2⟩
      have C2 := hid hc2
      have H2 := hid h2
      obtain ⟨d1, d379, d380, d381, g379, g380, g381⟩ := h2.cells
      have e381 : w2.cell? ⟨p, 381, none⟩ = some (.int .i64 now.free) := d381
      clear hc2 h2 c1 d381 d379 d380
      go_wp2_with fail
      refine (cInt_any (.slice none 0 0) [] now.free w2 (Rd.nil _ _) (by simp)).mono ?_
      rintro e3 w3 ⟨p3, n3, c3, rfl, hn3, hb3, ho3⟩
      rw [List.nil_append] at ho3 hn3
      have hn3' : n3 = 8 := hn3
      subst hn3'
      have O3 := hid (Rd.of_own ho3)
      have H3 := hid (H2.out.chg (Chg.new hb3 (fun _ => False)) (fun _ _ h => h))
      have C3 := hid (C2.out.trans (Chg.new hb3 F) (fun _ _ h => h))
      clear hb3 ho3 hn3 e381 d1 g379 g380 g381
      go_wp2_with fail
      refine (H3.out.write (k : Int) (.slice p3 8 c3) (le8 now.free) hN O3.out (by rw [le8_length]; omega) (wf_small (by omega) (by omega))).mono ?_
      rintro e4 w4 ⟨rfl, hc4, F', h4, hF'⟩
      have C4 := hid (C3.out.trans hc4 (fun _ _ h => h))
      have H4 := hid h4
      have S := hid hF'
      obtain ⟨d1, d379, d380, d381, g379, g380, g381⟩ := h4.cells
      clear hc4 h4 hF' d379 d380
      go_wp2_with fail
      go_ret
      exact ⟨rfl, C4.out.trans (Chg.setCell (fp := F) _ H.out.own.1 _) (fun _ _ h => h), F', N + 1, H4.out.setNow (j := 2) (by omega) H4.out.own.2.1 rfl, Nat.le_refl _, fun q hq => (S.out q hq).imp id (fun h => Nat.le_trans C3.out.size h)⟩

set_option maxRecDepth 100000 in
set_option maxHeartbeats 2000000 in
theorem PgA.put {w : World} {p d : Nat} {F : Nat → Prop} {n : Nat} {s : DS} {was now : HD} {op : Bool} {ch : Int → Option (List UInt8)} {N : Nat} (h : PgA w p d F n s was now op ch N) (at_ : Int) (v : Value) (l : List UInt8) (hv : Bs w v l) (hl : l.length ≤ 1000000) (hN : N ≤ 1000000) :
    Calls Try.prog 25 #[.pointer (some ⟨p, 0, none⟩), .int .i64 at_, v] w fun e w' => e = .returned (.int .i64 (putP n op now ch at_ l).1) ∧ Chg F w w' ∧
      ∃ F' N', PgA w' p d F' n s was now op (putP n op now ch at_ l).2 N' ∧ N' ≤ N + 1 ∧ ∀ k, F' k → F k ∨ w.heap.size ≤ k := by
  obtain ⟨c1, c379, c380, c381, g379, g380, g381⟩ := h.cells
  have H := hid h
  have HT := hid (h.there at_)
  have HV := hid hv
  obtain ⟨_, pv, pc, rfl, _⟩ := hv
  clear h c379 c380 c381 g379 g380 g381
  cases op with
  | false =>
    rw [show putP n false now ch at_ l = (12, ch) from if_pos rfl]
    go_enter Try.func25, Try.ntmps25
    go_wp2_with fail
    go_ret
    exact ⟨rfl, Chg.refl _ _, F, N, H.out, Nat.le_succ _, fun _ h => .inl h⟩
  | true =>
    cases ht : thereP n now at_
    · rw [show putP n true now ch at_ l = (1, ch) from (if_neg (by simp)).trans (if_pos ht)]
      have T := hid ht
      clear ht
      go_enter Try.func25, Try.ntmps25
      go_wp2_with fail
      refine HT.out.mono ?_; rintro e1 wx ⟨rfl, hw⟩
      subst hw
      rw [T.out]
      go_wp2_with fail
      go_ret
      exact ⟨rfl, Chg.refl _ _, F, N, H.out, Nat.le_succ _, fun _ h => .inl h⟩
    · obtain ⟨b1, b2, b3⟩ := thereP_bd ht
      by_cases h5 : 504 < l.length
      · rw [show putP n true now ch at_ l = (5, ch) from (if_neg (by simp)).trans ((if_neg (by rw [ht]; simp)).trans (if_pos h5))]
        have T := hid ht
        clear ht
        go_enter Try.func25, Try.ntmps25
        go_wp2_with fail
        refine HT.out.mono ?_; rintro e1 wx ⟨rfl, hw⟩
        subst hw
        rw [T.out]
        go_wp2_with fail
        go_ret
        exact ⟨rfl, Chg.refl _ _, F, N, H.out, Nat.le_succ _, fun _ h => .inl h⟩
      · rw [show putP n true now ch at_ l = (0, chP ch at_ l) from (if_neg (by simp)).trans ((if_neg (by rw [ht]; simp)).trans (if_neg h5))]
        have T := hid ht
        clear ht
        go_enter Try.func25, Try.ntmps25
        go_wp2_with fail
        refine HT.out.mono ?_; rintro e1 wx ⟨rfl, hw⟩
        subst hw
        rw [T.out]
        go_wp2_with fail
        refine (H.out.write at_ _ l hN HV.out (by omega) (wf_small (by omega) (by omega))).mono ?_
        rintro e4 w4 ⟨rfl, hc4, F', h4, hF'⟩
        have C4 := hid hc4
        have H4 := hid h4
        have S := hid hF'
        clear hc4 h4 hF' c1
        go_wp2_with fail
        go_ret
        exact ⟨rfl, C4.out, F', N + 1, H4.out, Nat.le_refl _, S.out⟩

set_option maxRecDepth 100000 in
theorem PgA.get {w : World} {p d : Nat} {F : Nat → Prop} {n : Nat} {s : DS} {was now : HD} {op : Bool} {ch : Int → Option (List UInt8)} {N : Nat} (h : PgA w p d F n s was now op ch N) (hdead : s.dead = false) (at_ : Int) :
    Calls Try.prog 62 #[.pointer (some ⟨p, 0, none⟩), .int .i64 at_] w fun e w' => ∃ q m c, e = .returned (.tuple #[.slice q m c, .int .i64 (if thereP n now at_ then 0 else 1)]) ∧ m = (if thereP n now at_ then pgRead s ch at_.toNat else []).length ∧
      Bs w' (.slice q m c) (if thereP n now at_ then pgRead s ch at_.toNat else []) ∧ Below w.heap.size w w' ∧ ∀ g, Value.ownBlock (.slice q m c) = some g → w.heap.size ≤ g := by
  have H := hid h
  have HT := hid (h.there at_)
  clear h
  cases ht : thereP n now at_
  · have T := hid ht
    clear ht
    go_enter Try.func62, Try.ntmps62
    go_wp2_with fail
    refine HT.out.mono ?_; rintro e1 wx ⟨rfl, hw⟩
    subst hw
    rw [T.out]
    go_wp2_with fail
    go_ret2
    exact ⟨none, 0, 0, rfl, rfl, Rd.nil _ _, Below.refl _ _, fun g hg => by cases hg⟩
  · obtain ⟨b1, b2, b3⟩ := thereP_bd ht
    obtain ⟨k, rfl⟩ : ∃ k : Nat, at_ = (k : Int) := ⟨at_.toNat, by omega⟩
    have T := hid ht
    clear ht
    simp only [Int.toNat_natCast, if_true]
    have HR := hid (H.out.read k (by omega) hdead (wf_small (by omega) (by omega)))
    go_enter Try.func62, Try.ntmps62
    go_wp2_with fail
    refine HT.out.mono ?_; rintro e1 wx ⟨rfl, hw⟩
    subst hw
    rw [T.out]
    go_wp2_with fail
    refine HR.out.mono ?_
    rintro e2 w2 ⟨q, m, c, rfl, hbs, hm, hb, hgg⟩
    have GG := hid hgg
    have BS := hid hbs
    have HM := hid hm
    have BB := hid hb
    clear hbs hm hb hgg
    go_wp2_with fail
    go_ret2
    exact ⟨q, m, c, rfl, HM.out, BS.out, BB.out, GG.out⟩

theorem PgA.root {w : World} {p d : Nat} {F : Nat → Prop} {n : Nat} {s : DS} {was now : HD} {op : Bool} {ch : Int → Option (List UInt8)} {N : Nat} (h : PgA w p d F n s was now op ch N) :
    Calls Try.prog 45 #[.pointer (some ⟨p, 0, none⟩)] w fun e w' => e = .returned (.int .i64 now.root) ∧ w' = w := by
  obtain ⟨c1, c379, c380, c381, g379, g380, g381⟩ := h.cells
  clear h c380 c381 g380 g381
  go_enter Try.func45, Try.ntmps45
  go_wp2_with fail
  go_ret
  exact ⟨rfl, rfl⟩

theorem PgA.setRoot {w : World} {p d : Nat} {F : Nat → Prop} {n : Nat} {s : DS} {was now : HD} {op : Bool} {ch : Int → Option (List UInt8)} {N : Nat} (h : PgA w p d F n s was now op ch N) (at_ : Int) :
    Calls Try.prog 44 #[.pointer (some ⟨p, 0, none⟩), .int .i64 at_] w fun e w' => e = .returned (.int .i64 (if op = false then 12 else if at_ < 0 then 1 else 0)) ∧ Chg F w w' ∧
      PgA w' p d F n s was (if op = false then now else if at_ < 0 then now else { now with root := at_ }) op ch N := by
  have hF := h.own.1
  obtain ⟨fp, ok, b, D, h1, h2, h3, h4, h5, h6, h7⟩ := h
  refine (setRoot_any w p d fp n s was now op _ _ at_ h1).mono ?_
  rintro e w' ⟨rfl, hc, hb⟩
  refine ⟨rfl, hc.mono (fun q _ e => e ▸ hF), fp, ok, b, D, hb, ?_, h3.chg hc (fun g hg => (h6 g hg).2.1), h4, h5, fun g hg => ⟨(h6 g hg).1, (h6 g hg).2.1, (h6 g hg).2.2.1, Nat.lt_of_lt_of_le (h6 g hg).2.2.2 hc.size⟩, h7⟩
  obtain ⟨es, cl, h8, h9⟩ := h2
  exact ⟨es, cl, hc.heap h8 h5, h9⟩

end Go.Proofs.Ytdilkgcoecipjaa
