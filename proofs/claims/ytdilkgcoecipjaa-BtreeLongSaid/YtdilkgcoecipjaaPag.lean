/- package pager: heads, and a pager's own cells. -/
import Derived.Test.YtdilkgcoecipjaaRecs2
import Derived.Maps.Views
namespace Go.Proofs.Ytdilkgcoecipjaa
open Go.RowKit
set_option linter.unusedVariables false

/-- what page 0 says -/
structure HD where
  root : Int
  ever : Int
  free : Int
  used : List UInt8

def hdC (h : HD) : List Value := .int .i64 h.root :: .int .i64 h.ever :: .int .i64 h.free :: bv h.used
def pgC (d : Value) (was now : HD) (op : Bool) (m f : Value) : List Value := d :: (hdC was ++ (hdC now ++ [.bool op, m, f]))
theorem hdC_length {h : HD} (hu : h.used.length = 375) : (hdC h).length = 378 := by simp [hdC, hu]
theorem pgC_length {d m f : Value} {was now : HD} {op : Bool} (h1 : was.used.length = 375) (h2 : now.used.length = 375) : (pgC d was now op m f).length = 760 := by
  simp [pgC, hdC_length h1, hdC_length h2]
theorem pgC_d {d m f : Value} {was now : HD} {op : Bool} : (pgC d was now op m f)[0]? = some d := rfl
theorem pgC_tail {d m f : Value} {was now : HD} {op : Bool} (h1 : was.used.length = 375) (h2 : now.used.length = 375) :
    (pgC d was now op m f)[757]? = some (.bool op) ∧ (pgC d was now op m f)[758]? = some m ∧ (pgC d was now op m f)[759]? = some f := by
  have e1 := hdC_length h1
  have e2 := hdC_length h2
  unfold pgC
  refine ⟨?_, ?_, ?_⟩ <;> rw [List.getElem?_cons_succ, List.getElem?_append_right (by omega), List.getElem?_append_right (by omega), e1, e2] <;> rfl
theorem pgC_was {d m f : Value} {was now : HD} {op : Bool} (h1 : was.used.length = 375) : ((pgC d was now op m f).drop 1).take 378 = hdC was := by
  have e1 := hdC_length h1
  unfold pgC
  rw [List.drop_succ_cons, List.drop_zero, List.take_left' e1]
theorem pgC_now {d m f : Value} {was now : HD} {op : Bool} (h1 : was.used.length = 375) (h2 : now.used.length = 375) : ((pgC d was now op m f).drop 379).take 378 = hdC now := by
  have e1 := hdC_length h1
  have e2 := hdC_length h2
  unfold pgC
  rw [List.drop_succ_cons, List.drop_left' e1, List.take_left' e2]
theorem pgC_setNow {d m f : Value} {was now h : HD} {op : Bool} (h1 : was.used.length = 375) (h2 : now.used.length = 375) (h3 : h.used.length = 375) : splice (pgC d was now op m f) 379 (hdC h) = pgC d was h op m f := by
  have e1 := hdC_length h1
  have e2 := hdC_length h2
  have e3 := hdC_length h3
  unfold pgC splice
  rw [List.take_succ_cons, List.take_left' e1, e3, show 379 + 378 = (378 + 378) + 1 by rfl, List.drop_succ_cons, ← List.drop_drop, List.drop_left' e1, List.drop_left' e2]
  simp
theorem pgC_setWas {d m f : Value} {was now h : HD} {op : Bool} (h1 : was.used.length = 375) (h3 : h.used.length = 375) : splice (pgC d was now op m f) 1 (hdC h) = pgC d h now op m f := by
  have e1 := hdC_length h1
  have e3 := hdC_length h3
  unfold pgC splice
  rw [List.take_succ_cons, List.take_zero, e3, show 1 + 378 = 378 + 1 by rfl, List.drop_succ_cons, List.drop_left' e1]
  rfl
theorem pgC_setOpen {d m f : Value} {was now : HD} {op : Bool} (o : Bool) (h1 : was.used.length = 375) (h2 : now.used.length = 375) : (pgC d was now op m f).set 757 (.bool o) = pgC d was now o m f := by
  have e1 := hdC_length h1
  have e2 := hdC_length h2
  unfold pgC
  rw [List.set_cons_succ, List.set_append_right _ _ (by omega), List.set_append_right _ _ (by omega), e1, e2]
  rfl
theorem pgC_setMap {d m f : Value} {was now : HD} {op : Bool} (o : Value) (h1 : was.used.length = 375) (h2 : now.used.length = 375) : (pgC d was now op m f).set 758 o = pgC d was now op o f := by
  have e1 := hdC_length h1
  have e2 := hdC_length h2
  unfold pgC
  rw [List.set_cons_succ, List.set_append_right _ _ (by omega), List.set_append_right _ _ (by omega), e1, e2]
  rfl
theorem pgC_setFn {d m f : Value} {was now : HD} {op : Bool} (o : Value) (h1 : was.used.length = 375) (h2 : now.used.length = 375) : (pgC d was now op m f).set 759 o = pgC d was now op m o := by
  have e1 := hdC_length h1
  have e2 := hdC_length h2
  unfold pgC
  rw [List.set_cons_succ, List.set_append_right _ _ (by omega), List.set_append_right _ _ (by omega), e1, e2]
  rfl

/-- the cells that a walk asks for -/
theorem pg_cells {w : World} {p : Nat} {d m f : Value} {was now : HD} {op : Bool} {T : TypeId} (h : Blk w p (pgC d was now op m f) T) (h1 : was.used.length = 375) (h2 : now.used.length = 375) :
    w.cell? ⟨p, 0, none⟩ = some d ∧ w.cell? ⟨p, 757, none⟩ = some (.bool op) ∧ w.cell? ⟨p, 758, none⟩ = some m ∧ w.cell? ⟨p, 759, none⟩ = some f ∧
    w.frozen? ⟨p, 0, none⟩ = false ∧ w.frozen? ⟨p, 757, none⟩ = false ∧ w.frozen? ⟨p, 758, none⟩ = false ∧ w.frozen? ⟨p, 759, none⟩ = false := by
  obtain ⟨t1, t2, t3⟩ := pgC_tail (d := d) (m := m) (f := f) (op := op) h1 h2
  refine ⟨?_, ?_, ?_, ?_, h.frozen 0, h.frozen 757, h.frozen 758, h.frozen 759⟩ <;> rw [h.cell] <;> first | rfl | assumption

theorem hdInfo : (Try.prog.info? 83).map (·.size) = some 378 := by kernel_rfl
theorem hdInfo0 : (Try.prog.info? 83).map (·.zero) = some (some (.agg (hdC ⟨0, 0, 0, List.replicate 375 0⟩).toArray)) := by kernel_rfl
theorem hdC_one (h : HD) : ∀ u ∈ hdC h, u.oneCell' = true := by
  intro u hu
  unfold hdC at hu
  simp only [List.mem_cons] at hu
  rcases hu with rfl | rfl | rfl | hu
  · rfl
  · rfl
  · rfl
  · exact bv_one _ u hu

set_option maxRecDepth 100000 in
set_option maxHeartbeats 2000000 in
theorem forget_any (w : World) (p : Nat) (d m f : Value) (was now : HD) (op : Bool) (h : Blk w p (pgC d was now op m f) 87) (h1 : was.used.length = 375) (h2 : now.used.length = 375) :
    Calls Try.prog 39 #[.pointer (some ⟨p, 0, none⟩)] w fun e w' => e = .returned (.tuple #[]) ∧ Chg (fun k => k = p) w w' ∧ Blk w' p (pgC d was was false (.map (some w.heap.size)) f) 87 ∧ w'.heap[w.heap.size]? = some (.map #[] 0) := by
  have H := hid h
  have H1 := hid h1
  have H2 := hid h2
  have hlt := h.lt
  clear h h1 h2
  have hmm := @run_makeMap Try.prog
  go_enter Try.func39, Try.ntmps39
  go_wp2_with (first
    | (refine wpList_load_arr rfl 83 _ rfl _ Try.underlying83 rfl 378 hdInfo p 1 87 _ rfl H.out (by rw [pgC_length H1.out H2.out]; omega) (hdC was) (pgC_was H1.out) ?_)
    | (refine wpList_store_arr rfl 83 _ _ rfl 378 hdInfo p 379 87 _ (hdC was) rfl rfl (H.out.chg (Chg.alloc (fun _ => False) _ _) (fun h => h)) (hdC_length H1.out) (by rw [pgC_length H1.out H2.out]; omega) (hdC_one _) ?_; intro w2 hw2 hc2 hs2; rw [pgC_setNow H1.out H2.out H1.out] at hw2; obtain ⟨c0, c1, c2, c3, f0, f1, f2, f3⟩ := pg_cells hw2 H1.out H1.out; have W2 := hid hw2; have C2 := hid hc2; clear hw2 hc2))
  go_end0
  refine ⟨rfl, ?_, ?_, ?_⟩
  · exact (((Chg.alloc _ _ _).trans C2.out (fun i hi h => h)).trans ((Chg.setCell (fp := fun k => k = p) _ rfl _).trans (Chg.setCell (fp := fun k => k = p) _ rfl _) (fun _ _ h => h)) (fun _ _ h => h))
  · have h3 := ((W2.out.set 758 (.map (some w.heap.size))).set 757 (.bool false))
    rw [pgC_setMap _ H1.out H1.out, pgC_setOpen _ H1.out H1.out] at h3
    exact h3
  · have hne : w.heap.size ≠ p := fun e => by omega
    rw [Below.heap_setCell _ _ _ _ hne, Below.heap_setCell _ _ _ _ hne, C2.out.heap (heap_alloc_new _ _) hne]

/-- the head that a page says -/
def hdP (b : List UInt8) : HD := ⟨wrap64 (num (b.take 8) : Nat), wrap64 (num ((b.drop 8).take 8) : Nat), wrap64 (num ((b.drop 16).take 8) : Nat), (b.drop 24).take 375⟩
theorem hdP_length {b : List UInt8} (h : b.length = 512) : (hdP b).used.length = 375 := by simp [hdP, h]
theorem hdBuild (x y z : Int) (w : World) : (Instr.build 83 #[(0, .int .i64 x), (1, .int .i64 y), (2, .int .i64 z)]).run Try.prog w = .ok (.agg (hdC ⟨x, y, z, List.replicate 375 0⟩).toArray) w := by kernel_rfl

set_option maxRecDepth 100000 in
set_option maxHeartbeats 2000000 in
theorem parse_any (w : World) (g : Nat) (b : List UInt8) (h : Blk w g (bv b) 5) (hl : b.length = 512) :
    Calls Try.prog 38 #[.slice (some ⟨g, 0, none⟩) 512 512] w fun e w' => e = .returned (.agg (hdC (hdP b)).toArray) ∧ Below w.heap.size w w' := by
  have H := hid h
  have L := hid hl
  clear h hl
  go_enter Try.func38, Try.ntmps38
  go_wp2_with (first
    | (refine wpList_alloc_z rfl 83 rfl _ hdInfo0 ?_; intro w1 hw1 hb1 hl1; have W1 := hid hw1; have B1 := hid hb1; clear hw1 hb1))
  have K1 : Hid (Bs w1 (.slice (some ⟨g, 0, none⟩) 512 512) b) := hid (Bs.blk (H.out.chg (Chg.new B1.out (fun _ => False)) (fun h => h)) L.out.symm (by simp [maxLen]))
  refine (New_any _ b w1 K1.out (by rw [L.out]; omega)).mono ?_
  rintro e1 w2 ⟨r, rfl, hb2, hr, ob, hob, hrd⟩
  have B2 := hid (B1.out.trans (hb2.mono B1.out.size))
  have W2 := hid (W1.out.chg (Chg.new hb2 (fun _ => False)) (fun h => h))
  have R2 := hid hrd
  clear hb2 hrd W1
  go_wp2_with fail
  refine (rInt_any r ob b 0 w2 R2.out (by rw [L.out]; omega) (by omega) (by omega)).mono ?_
  rintro e2 w3 ⟨rfl, hc3, hr3⟩
  rw [show tkGot b 0 8 = b.take 8 by unfold tkGot; rw [if_neg (by simp), if_neg (by rw [L.out]; omega)]]
  rw [show tkLeft b 0 8 = b.drop 8 by unfold tkLeft; rw [if_neg (by simp), if_neg (by rw [L.out]; omega)], show tkErr b 0 8 = 0 by unfold tkErr; rw [if_neg (by simp), if_neg (by rw [L.out]; omega)]] at hr3
  have R3 := hid hr3
  have C3 := hid hc3
  clear hc3 hr3
  have L8 : Hid ((b.drop 8).length = 504) := hid (by rw [List.length_drop, L.out])
  generalize hx : wrap64 ((num (b.take 8) : Nat) : Int) = x
  have HX := hid hx
  clear hx
  go_wp2_with fail
  refine (rInt_any r ob (b.drop 8) 0 w3 R3.out (by rw [L8.out]; omega) (by omega) (by omega)).mono ?_
  rintro e2 w4 ⟨rfl, hc4, hr4⟩
  rw [show tkGot (b.drop 8) 0 8 = (b.drop 8).take 8 by unfold tkGot; rw [if_neg (by simp), if_neg (by rw [L8.out]; omega)]]
  rw [show tkLeft (b.drop 8) 0 8 = b.drop 16 by unfold tkLeft; rw [if_neg (by simp), if_neg (by rw [L8.out]; omega), List.drop_drop], show tkErr (b.drop 8) 0 8 = 0 by unfold tkErr; rw [if_neg (by simp), if_neg (by rw [L8.out]; omega)]] at hr4
  have R4 := hid hr4
  have C4 := hid (C3.out.trans hc4 (fun _ _ h => h))
  clear hc4 hr4
  have L16 : Hid ((b.drop 16).length = 496) := hid (by rw [List.length_drop, L.out])
  generalize hy : wrap64 ((num ((b.drop 8).take 8) : Nat) : Int) = y
  have HY := hid hy
  clear hy
  go_wp2_with fail
  refine (rInt_any r ob (b.drop 16) 0 w4 R4.out (by rw [L16.out]; omega) (by omega) (by omega)).mono ?_
  rintro e2 w5 ⟨rfl, hc5, _⟩
  rw [show tkGot (b.drop 16) 0 8 = (b.drop 16).take 8 by unfold tkGot; rw [if_neg (by simp), if_neg (by rw [L16.out]; omega)]]
  have C5 := hid (C4.out.trans hc5 (fun _ _ h => h))
  clear hc5
  generalize hz : wrap64 ((num ((b.drop 16).take 8) : Nat) : Int) = z
  have HZ := hid hz
  clear hz C3 C4 R2 R3 R4
  have B5 := hid (B2.out.trans (C5.out.below (fun k hk => by rw [hk]; exact Nat.le_trans B1.out.size hr) B2.out.size))
  have W5 := hid (W2.out.chg C5.out (fun h => by omega))
  have hp5 := W5.out.lt
  have G5 := hid (H.out.chg (Chg.new B5.out (fun _ => False)) (fun h => h))
  clear W2 B2 C5 B1 K1 H
  go_wp2_with (first
    | (refine wpList_build_run rfl 83 _ rfl _ (hdBuild x y z _) ?_)
    | (refine wpList_alloc_z rfl 83 rfl _ hdInfo0 ?_; intro w6 hw6 hb6 hl6; have W6 := hid hw6; have B6 := hid hb6; clear hw6 hb6)
    | (refine wpList_store_arr rfl 83 _ _ rfl 378 hdInfo w5.heap.size 0 83 _ (hdC ⟨x, y, z, List.replicate 375 0⟩) rfl rfl W6.out rfl (Nat.le_refl _) (hdC_one _) ?_; intro w7 hw7 hc7 hs7; have W7 := hid hw7; have C7 := hid hc7; clear hw7 hc7))
  have hw65 : w6.heap.size ≤ w7.heap.size := C7.out.size
  have hW7 := hid (show Blk w7 w5.heap.size (hdC ⟨x, y, z, List.replicate 375 0⟩) 83 from W7.out)
  have G7 := hid ((G5.out.chg (Chg.new B6.out (fun _ => False)) (fun h => h)).chg C7.out (fun h => by have := G5.out.lt; omega))
  have P7 := hid ((W5.out.chg (Chg.new B6.out (fun _ => False)) (fun h => h)).chg C7.out (fun h => by omega))
  have B7 := hid ((B5.out.trans (B6.out.mono B5.out.size)).trans (C7.out.below (fun k hk => by rw [hk]; exact B5.out.size) (Nat.le_trans B5.out.size (by omega))))
  have hq : w5.heap.size ≠ w.heap.size := by omega
  clear W7 C7 G5 W5 B6 W6
  go_wp2_with fail
  refine wp_region_plan (fun w' => True) (fun j => !([4].contains j)) (fun j => [4].contains j) (.of [0, 1, 2, 3, 4]) (by kernel_rfl) (by kernel_rfl) rfl (by kernel_rfl) (by kernel_rfl) trivial ?_
  iterate 4 (apply wpPlan_val; (case ho => rfl); (case hst => rfl); (case hw => rfl); (case hv => intro w' hS; go_simp; first | done | rfl); intro K hK; go_simp; refine hK _ ?_; clear hK K)
  refine wpPlan_list rfl rfl rfl (fun K hK => ?_)
  have hsrc := Rd.blk (off := 24) (n := 488) (c := 488) (size := 1) (G7.out.chg (Chg.drewN (fun _ => False) w7 1) (fun h => h)) (by omega) (by simp only [maxLen]; omega) (by rw [bv_length, L.out]; omega)
  have hW7d := hW7.out.chg (Chg.drewN (fun _ => False) w7 1) (fun h => h)
  have hP7d := hid (P7.out.chg (Chg.drewN (fun _ => False) w7 1) (fun h => h))
  refine wpList_copy_gen rfl _ _ 30 30 rfl 5 1 Try.underlying30 infoU8' w5.heap.size 3 375 375 rfl _ _ hW7d _ rfl 488 (((bv b).drop 24).take (488 * 1)) hsrc (by rw [hdC_length (by simp)]; omega) (fun u hu => bv_one _ u (List.mem_of_mem_drop (List.mem_of_mem_take hu))) ?_
  intro w8 hb8 hc8 hs8
  have e8 : splice (hdC ⟨x, y, z, List.replicate 375 0⟩) 3 ((((bv b).drop 24).take (488 * 1)).take (min 488 375 * 1)) = hdC (hdP b) := by
    have e1 : (((bv b).drop 24).take (488 * 1)).take (min 488 375 * 1) = bv ((b.drop 24).take 375) := by
      rw [List.take_take, bv_drop, bv_take]
      rfl
    rw [e1, ← HX.out, ← HY.out, ← HZ.out]
    unfold splice hdC hdP
    have e2 : (bv ((b.drop 24).take 375)).length = 375 := by rw [bv_length, List.length_take, List.length_drop, L.out]; rfl
    have e3 : (bv (List.replicate 375 0)).drop 375 = [] := List.drop_eq_nil_of_le (by rw [bv_length, List.length_replicate]; exact Nat.le_refl _)
    rw [e2]
    simp only [List.take_succ_cons, List.take_zero]
    rw [show 3 + 375 = 375 + 1 + 1 + 1 by rfl, List.drop_succ_cons, List.drop_succ_cons, List.drop_succ_cons, e3, List.append_nil]
    rfl
  rw [e8] at hb8
  have W8 := hid hb8
  have hn8 : ¬ (fun k => k = w5.heap.size) w.heap.size := fun e => hq e.symm
  have P8 := hid (hP7d.out.chg hc8 hn8)
  have B8 := hid ((B7.out.trans (below_drewN (Below.refl _ _) 1)).trans (hc8.below (fun k hk => by rw [hk]; exact B5.out.size) (Nat.le_trans B7.out.size (Nat.le_refl _))))
  clear hb8 hc8 hsrc hW7d hP7d e8 P7 G7 hW7 B7
  go_simp
  simp only [wpList]
  refine hK _ _ (fun h => by cases h) ?_
  clear hK K
  refine wpPlan_nil ?_
  simp only [Qn]
  go_wp2_with (first
    | (refine wpList_load_arr rfl 83 _ rfl _ Try.underlying83 rfl 378 hdInfo w5.heap.size 0 83 _ rfl W8.out (by rw [hdC_length (hdP_length L.out)]; omega) (hdC (hdP b)) (List.take_of_length_le (by rw [List.drop_zero, hdC_length (hdP_length L.out)]; omega)) ?_)
    | (refine wpList_store_arr rfl 83 _ _ rfl 378 hdInfo w.heap.size 0 83 _ (hdC (hdP b)) rfl rfl P8.out (hdC_length (hdP_length L.out)) (by rw [hdC_length (by simp)]; omega) (hdC_one _) ?_; intro w9 hw9 hc9 hs9; have W9 := hid hw9; have C9 := hid hc9; clear hw9 hc9))
  rw [splice_all _ _ (by rw [hdC_length (by simp), hdC_length (hdP_length L.out)])] at W9
  refine bodyPost_ret (results_cell_row rfl _ _ w.heap.size 83 (hdC (hdP b)).toArray _ _ rfl W9.out Try.underlying83 rfl (by rw [List.size_toArray, hdC_length (hdP_length L.out)]; exact hdInfo)) rfl ?_
  exact ⟨rfl, B8.out.trans (C9.out.below (fun k hk => by rw [hk]; exact Nat.le_refl _) B8.out.size)⟩
end Go.Proofs.Ytdilkgcoecipjaa
