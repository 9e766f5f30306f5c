/- pager.Open. -/
import Derived.Test.YtdilkgcoecipjaaPag
import Derived.Laws.Tables
namespace Go.Proofs.Ytdilkgcoecipjaa
open Go.RowKit
set_option linter.unusedVariables false

theorem fold_shift (off : Nat) : ∀ (xs : List Value) (k : Nat) (cells : Array Value),
    (xs.zipIdx k).foldl (fun cs p => cs.setIfInBounds (off + p.2) p.1) cells = (xs.zipIdx (off + k)).foldl (fun cs p => cs.setIfInBounds p.2 p.1) cells
  | [], _, _ => rfl
  | x :: xs, k, cells => by
    rw [List.zipIdx_cons, List.zipIdx_cons, List.foldl_cons, List.foldl_cons, fold_shift off xs (k + 1)]
    rfl
theorem fill_two {place : Nat → Option (Nat × Nat)} {cells : Array Value} {xs : List Value} {d : Value} (h0 : place 0 = some (0, 1)) (h1 : place 1 = some (1, xs.length)) (hd : d.cells = #[d]) (hc : 1 + xs.length ≤ cells.size) :
    Instr.fill place cells [(0, d), (1, .agg xs.toArray)] = some (d :: (xs ++ cells.toList.drop (1 + xs.length))).toArray := by
  simp only [Instr.fill, h0, h1, hd]
  have e0 : (#[d].zipIdx.foldl (fun cs (x : Value × Nat) => match x with | (c, j) => cs.setIfInBounds (0 + j) c) cells) = cells.setIfInBounds 0 d := rfl
  rw [e0]
  have hs : (cells.setIfInBounds 0 d).size = cells.size := by simp
  have e1 : (Value.agg xs.toArray).cells = xs.toArray := rfl
  simp only [e1, hs, List.size_toArray]
  have hcs : 0 < cells.size := by omega
  rw [if_neg (by intro hh; simp at hh; rw [hh] at hcs; exact absurd hcs (by decide)), if_neg (by intro hh; simp at hh; omega)]
  congr 1
  apply Array.ext'
  have e : xs.toArray.zipIdx.toList = xs.zipIdx := by simp
  rw [← Array.foldl_toList, e]
  have e2 := fold_shift 1 xs 0 (cells.setIfInBounds 0 d)
  have e3 := fold_sets xs 1 (cells.setIfInBounds 0 d) (by rw [hs]; exact hc)
  refine (congrArg Array.toList e2).trans (e3.trans ?_)
  rw [Array.toList_setIfInBounds]
  obtain ⟨c, r, hcr⟩ : ∃ c r, cells.toList = c :: r := by
    rcases hl : cells.toList with _ | ⟨c, r⟩
    · have : cells.toList.length = 0 := by rw [hl]; rfl
      rw [Array.length_toList] at this
      omega
    · exact ⟨c, r, rfl⟩
  rw [hcr, Nat.add_comm 1]
  simp
theorem built_struct {P : Program} {t : TypeId} {z : Value} {fields : Array Field} {places : List (Nat × Nat)} {parts : List (Nat × Value)} {cells : Array Value}
    (hz : (P.info? t).map (·.zero) = some (some z)) (hu : P.underlying t = some (.struct fields)) (hp : fields.toList.mapM (fun f => (P.info? f.type).map fun i => (f.offset, i.size)) = some places)
    (hf : Instr.fill (places.toArray[·]?) z.cells parts = some cells) : P.built t parts = some cells := by
  obtain ⟨i, hi, hzero⟩ := Option.map_eq_some_iff.1 hz
  unfold Program.built
  simp only [hi, hu, hzero, hp]
  exact hf

def hd0 : HD := ⟨0, 0, 0, List.replicate 375 0⟩
theorem pgInfo0 : (Try.prog.info? 87).map (·.zero) = some (some (.agg (pgC (.pointer none) hd0 hd0 false (.map none) .nilFunc).toArray)) := by kernel_rfl
theorem pgPlaces : ∃ fields, Try.prog.underlying 87 = some (.struct fields) ∧ fields.toList.mapM (fun f => (Try.prog.info? f.type).map fun i => (f.offset, i.size)) = some [(0, 1), (1, 378), (379, 378), (757, 1), (758, 1), (759, 1)] := ⟨_, Try.underlying87, by kernel_rfl⟩
set_option maxRecDepth 100000 in
theorem pgBuild (d : Addr) (h : HD) (hu : h.used.length = 375) (w : World) :
    (Instr.build 87 #[(0, .pointer (some d)), (1, .agg (hdC h).toArray)]).run Try.prog w = .ok (.agg (pgC (.pointer (some d)) h hd0 false (.map none) .nilFunc).toArray) w := by
  refine run_build w _ _ _ ?_
  obtain ⟨fields, h1, h2⟩ := pgPlaces
  have e1 := hdC_length hu
  have e0 : (hdC hd0).length = 378 := hdC_length rfl
  refine built_struct pgInfo0 h1 h2 ((fill_two (d := .pointer (some d)) rfl (by rw [e1]; rfl) rfl ?_).trans ?_)
  · show 1 + _ ≤ (pgC (.pointer none) hd0 hd0 false (.map none) .nilFunc).toArray.size
    rw [List.size_toArray, pgC_length rfl rfl, e1]
    omega
  · show some (Value.pointer (some d) :: (hdC h ++ (pgC (.pointer none) hd0 hd0 false (.map none) .nilFunc).drop (1 + (hdC h).length))).toArray = _
    rw [e1, show 1 + 378 = 378 + 1 by rfl]
    unfold pgC
    rw [List.drop_succ_cons, List.drop_left' e0]

set_option maxRecDepth 100000 in
theorem pgFold (d : Addr) (h : HD) (hu : h.used.length = 375) :
    List.foldl (fun cs x => cs.setIfInBounds (1 + x.snd) x.fst) (Try.zeroCells87.setIfInBounds 0 (Value.pointer (some d))) (hdC h).zipIdx = (pgC (.pointer (some d)) h hd0 false (.map none) .nilFunc).toArray := by
  have e1 := hdC_length hu
  have e0 : (hdC hd0).length = 378 := hdC_length rfl
  have ez : Try.zeroCells87 = (pgC (.pointer none) hd0 hd0 false (.map none) .nilFunc).toArray := by kernel_rfl
  rw [ez]
  apply Array.ext'
  have e2 := fold_shift 1 (hdC h) 0 ((pgC (.pointer none) hd0 hd0 false (.map none) .nilFunc).toArray.setIfInBounds 0 (Value.pointer (some d)))
  have e3 := fold_sets (hdC h) 1 ((pgC (.pointer none) hd0 hd0 false (.map none) .nilFunc).toArray.setIfInBounds 0 (Value.pointer (some d))) (by rw [Array.size_setIfInBounds, List.size_toArray, pgC_length rfl rfl, e1]; omega)
  refine (congrArg Array.toList e2).trans (e3.trans ?_)
  rw [Array.toList_setIfInBounds, e1, show 1 + 378 = 378 + 1 by rfl]
  unfold pgC
  rw [List.set_cons_zero, List.take_succ_cons, List.take_zero, List.drop_succ_cons, List.drop_left' e0]
  rfl

theorem run_store_func {P : Program} {w : World} {a : Addr} {m : Mode} (f : Fn) (x y : Array Value) : (store a (.func f x y) m).run P w = stored P w a (.func f x y) m := run_store P w a _ m rfl

/-- the pager's own forget, as a value -/
def fgt (p : Nat) : Value := .func (.func 39) #[.pointer (some ⟨p, 0, none⟩)] #[]

set_option maxRecDepth 100000 in
set_option maxHeartbeats 2000000 in
theorem open_any (w : World) (d : Nat) (fp : Nat → Prop) (n : Nat) (s : DS) (h : Dsk w d fp n s) (hn : 403 ≤ n) (ho : s.ops + 3000 ≤ 1000000) (hr : (recov n s).2.2 = 0) (hdead : (recov n s).1.dead = false) :
    Calls Try.prog 21 #[.pointer (some ⟨d, 0, none⟩)] w fun e w' => ∃ p m fp', e = .returned (.tuple #[.pointer (some ⟨p, 0, none⟩), .int .i64 0]) ∧ Dsk w' d fp' n (recov n s).1 ∧
      Blk w' p (pgC (.pointer (some ⟨d, 0, none⟩)) (hdP (row (recov n s).1.now 401)) (hdP (row (recov n s).1.now 401)) false (.map (some m)) (fgt p)) 87 ∧
      w'.heap[m]? = some (.map #[] 0) ∧ ¬ fp' p ∧ ¬ fp' m ∧ p ≠ m ∧ w.heap.size ≤ p ∧ w.heap.size ≤ m ∧ Chg fp w w' ∧ ∀ k, fp' k → fp k ∨ w.heap.size ≤ k := by
  have H := hid h
  have RC := hid (recov_any w d fp n s h ho)
  have HS := hid (dSize_any w d fp n s h)
  have RE := hid hr
  have RD := hid hdead
  have hn' : ¬ (n : Int) < 403 := by omega
  clear h hr hdead
  go_enter Try.func21, Try.ntmps21
  go_wp2_with fail
  refine HS.out.mono ?_; rintro e1 wx ⟨rfl, hw⟩
  subst hw
  go_wp2_with fail
  refine RC.out.mono ?_
  rintro e1 w1 ⟨rfl, fp1, hd1, hc1, hf1⟩
  rw [RE.out]
  have D1 := hid hd1
  have C1 := hid hc1
  have F1 := hid hf1
  clear hd1 hc1 hf1
  go_wp2_with fail
  refine (dRead_ok w1 d fp1 n (recov n s).1 401 D1.out RD.out (by omega)).mono ?_
  rintro e2 w2 ⟨g, rfl, hg, hblk, hb2⟩
  have B2 := hid hb2
  have D2 := hid (D1.out.chg (Chg.new hb2 (fun _ => False)) (fun k hk h => h))
  have G2 := hid hblk
  clear hb2 hblk
  go_wp2_with fail
  refine (parse_any w2 g _ G2.out (row_length D1.out.ok.now (by omega))).mono ?_
  rintro e3 w3 ⟨rfl, hb3⟩
  have B3 := hid hb3
  clear hb3
  have hpu := hdP_length (row_length D1.out.ok.now (show 401 < n by omega))
  have HPU := hid hpu
  clear hpu
  generalize hhp : hdP (row (recov n s).1.now 401) = hp at *
  have HHP := hid hhp
  clear hhp
  have D3 := hid (D2.out.chg (Chg.new B3.out (fun _ => False)) (fun k hk h => h))
  have B4 := hid (B2.out.trans (B3.out.mono B2.out.size))
  clear D2 B2 B3 G2
  have hfold := pgFold ⟨d, 0, none⟩ hp HPU.out
  have hlen := hdC_length HPU.out
  have hblk := heap_alloc_new w3 (Obj.cells (pgC (.pointer (some ⟨d, 0, none⟩)) hp hd0 false (.map none) .nilFunc).toArray 87)
  obtain ⟨c0, c1, c2, c3, f0, f1, f2, f3⟩ := pg_cells (w := w3.alloc (Obj.cells (pgC (.pointer (some ⟨d, 0, none⟩)) hp hd0 false (.map none) .nilFunc).toArray 87)) hblk HPU.out rfl
  have PB := hid hblk
  clear hblk
  have B5 : Hid (Below w3.heap.size w3 (w3.alloc (Obj.cells (pgC (.pointer (some ⟨d, 0, none⟩)) hp hd0 false (.map none) .nilFunc).toArray 87))) := hid ((Below.refl _ _).alloc (Nat.le_refl _) _)
  go_wp2_with fail
  generalize w3.alloc (Obj.cells (pgC (.pointer (some ⟨d, 0, none⟩)) hp hd0 false (.map none) .nilFunc).toArray 87) = w4 at *
  simp only [run_store_func]
  go_simp
  have PS := hid (Blk.set (cur := pgC (.pointer (some ⟨d, 0, none⟩)) hp hd0 false (.map none) .nilFunc) (T := 87) PB.out 759 (fgt w3.heap.size))
  rw [pgC_setFn _ HPU.out rfl] at PS
  have HQ : Hid (Below w3.heap.size w3 (w4.setCell ⟨w3.heap.size, 759, none⟩ (fgt w3.heap.size))) := hid (B5.out.setCell (Nat.le_refl _) _)
  have h759 : (w4.setCell ⟨w3.heap.size, 759, none⟩ (fgt w3.heap.size)).cell? ⟨w3.heap.size, 759, none⟩ = some (fgt w3.heap.size) := (pg_cells PS.out HPU.out rfl).2.2.2.1
  have hs4 : w3.heap.size < (w4.setCell ⟨w3.heap.size, 759, none⟩ (fgt w3.heap.size)).heap.size := PS.out.lt
  unfold fgt at PS HQ h759 hs4
  generalize w4.setCell ⟨w3.heap.size, 759, none⟩ _ = w5 at *
  clear PB B5 c0 c1 c2 c3 f0 f1 f2 f3
  go_wp2_with fail
  refine (forget_any w5 _ _ _ _ hp hd0 false PS.out HPU.out rfl).mono ?_
  rintro e6 w6 ⟨rfl, hc6, hb6, hm6⟩
  have C6 := hid hc6
  have P6 := hid hb6
  have M6 := hid hm6
  clear hc6 hb6 hm6 PS h759
  go_wp2_with fail
  go_ret2
  have hs1 := C1.out.size
  have hs2 := B4.out.size
  have C15 : Chg (fun _ => False) w1 w5 := Chg.new (B4.out.trans (HQ.out.mono hs2)) _
  have C16 : Chg (fun k => w1.heap.size ≤ k) w1 w6 := (C15.mono (fun _ _ h => h.elim)).trans C6.out (fun k hk e => by omega)
  have hfp : ∀ k, fp1 k → k < w1.heap.size := D1.out.lt
  refine ⟨w3.heap.size, w5.heap.size, fp1, rfl, D1.out.chg C16 (fun k hk h => by have := hfp k hk; omega), by rw [HHP.out]; exact P6.out, M6.out, (fun h => by have := hfp _ h; omega), (fun h => by have := hfp _ h; omega), by omega, by omega, by omega, C1.out.trans C16 (fun k hk h => by omega), F1.out⟩

theorem begin_any (w : World) (p : Nat) (d m f : Value) (was now : HD) (op : Bool) (h : Blk w p (pgC d was now op m f) 87) (h1 : was.used.length = 375) (h2 : now.used.length = 375) :
    Calls Try.prog 23 #[.pointer (some ⟨p, 0, none⟩)] w fun e w' => e = .returned (.int .i64 (if op then 12 else 0)) ∧ Chg (fun k => k = p) w w' ∧ Blk w' p (pgC d was now true m f) 87 := by
  obtain ⟨c0, c1, c2, c3, f0, f1, f2, f3⟩ := pg_cells h h1 h2
  have H := hid h
  have H1 := hid h1
  have H2 := hid h2
  clear h h1 h2
  go_enter Try.func23, Try.ntmps23
  cases op
  · go_wp2_with fail
    go_ret
    refine ⟨rfl, Chg.setCell (fp := fun k => k = p) _ rfl _, ?_⟩
    have h3 := H.out.set 757 (.bool true)
    rw [pgC_setOpen _ H1.out H2.out] at h3
    exact h3
  · go_wp2_with fail
    go_ret
    exact ⟨rfl, Chg.refl _ _, H.out⟩

theorem open5_any (w : World) :
    Calls Try.prog 8 #[] w fun e w' => ∃ p, e = .returned (.pointer (some ⟨p, 0, none⟩)) ∧ Below w.heap.size w w' := by
  go_enter Try.func8, Try.ntmps8
  go_wp2_with fail
  refine (dNew_any w 1600).mono ?_
  rintro e1 w1 ⟨d, rfl, hd1, hb1, hd⟩
  have hcl : clampN 1600 = 1600 := rfl
  rw [hcl] at hd1
  have D1 := hid hd1
  have B1 := hid hb1
  clear hd1 hb1 hcl
  go_wp2_with fail
  have hrn := recov_new (n := 1600) (by omega)
  refine (open_any w1 d _ 1600 (dNew 1600) D1.out (by omega) (by decide) (by rw [hrn]) (by rw [hrn]; rfl)).mono ?_
  rintro e2 w2 ⟨p, m, fp', rfl, hd2, hp2, hm2, n1, n2, n3, n4, n5, hc2, hf2⟩
  have hpu := hdP_length (row_length hd2.ok.now (show 401 < 1600 by omega))
  have P2 := hid hp2
  have C2 := hid hc2
  clear hd2 hp2 hm2 hc2 hf2 n1 n2 n3 hrn
  have HPU := hid hpu
  clear hpu
  go_wp2_with fail
  refine (begin_any w2 p _ _ _ _ _ _ P2.out HPU.out HPU.out).mono ?_
  rintro e3 w3 ⟨rfl, hc3, hp3⟩
  have C3 := hid hc3
  clear hc3 hp3
  go_wp2_with fail
  go_ret
  exact ⟨p, rfl, (B1.out.trans (C2.out.below (fun k hk => hk.1) B1.out.size)).trans (C3.out.below (fun k hk => by rw [hk]; exact Nat.le_trans B1.out.size n4) (Nat.le_trans B1.out.size C2.out.size))⟩
end Go.Proofs.Ytdilkgcoecipjaa
