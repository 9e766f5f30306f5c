/- triadlaw3.RedoRows: the walk. -/
import Derived.Test.YtplahohlmiphoaaWalkRedoOps
namespace Go.Proofs.Ytplahohlmiphoaa
open Go.RowKit
set_option linter.unusedVariables false

def manyPuts (j : Nat) : List (Int × List UInt8) := (List.range j).map fun (i : Nat) => (401 + (i : Int), [])
theorem manyPuts_length (j : Nat) : (manyPuts j).length = j := by simp [manyPuts]
theorem manyPuts_succ (j : Nat) : manyPuts (j + 1) = manyPuts j ++ [(401 + (j : Int), [])] := by simp [manyPuts, List.range_succ]
theorem cmt_many (n : Nat) (s : DS) (m : Nat) (h : 400 < m) : cmt n s (manyPuts m) = (s, 4) := by
  have hc : chk n (manyPuts m) = 4 := by
    unfold chk
    rw [manyPuts_length, if_neg (by omega), if_pos h]
  unfold cmt
  rw [hc, if_neg (by decide)]
theorem cmt_bad {n : Nat} {s : DS} {ls : List (Int × List UInt8)} (h : chk n ls = 1) : cmt n s ls = (s, 1) := by
  unfold cmt
  rw [h, if_neg (by decide)]

theorem puts_two {w : World} {fp : Nat → Prop} {lb : Nat} {a1 a2 : Int} {b1 b2 : List UInt8} {p1 p2 : Option Addr} {n1 n2 c1 c2 : Nat} {T : TypeId} (h : Blk w lb [.int .i64 a1, .slice p1 n1 c1, .int .i64 a2, .slice p2 n2 c2] T)
    (h1 : Far w fp (.slice p1 n1 c1) b1) (h2 : Far w fp (.slice p2 n2 c2) b2) (hn1 : n1 = b1.length) (hn2 : n2 = b2.length) : IsPuts w fp (some ⟨lb, 0, none⟩) [(a1, b1), (a2, b2)] := fun i hi => by
  subst hn1 hn2
  rcases (show i = 0 ∨ i = 1 by simp at hi; omega) with rfl | rfl
  · exact ⟨lb, 0, (a1, b1), p1, c1, rfl, rfl, h.cell 0, h.cell 1, h1⟩
  · exact ⟨lb, 0, (a2, b2), p2, c2, rfl, rfl, h.cell 2, h.cell 3, h2⟩

theorem three_blocks (w : World) : ∃ w', w' = (((w.alloc (Obj.cells #[Value.int .u8 1] 5)).alloc (Obj.cells #[Value.int .u8 2] 5)).alloc (Obj.cells #[Value.int .i64 401, .slice (some ⟨w.heap.size, 0, none⟩) 1 1, .int .i64 402, .slice (some ⟨w.heap.size + 1, 0, none⟩) 1 1] 28)) ∧
    Below w.heap.size w w' ∧ Blk w' w.heap.size (bv [1]) 5 ∧ Blk w' (w.heap.size + 1) (bv [2]) 5 ∧
    Blk w' (w.heap.size + 1 + 1) [.int .i64 401, .slice (some ⟨w.heap.size, 0, none⟩) 1 1, .int .i64 402, .slice (some ⟨w.heap.size + 1, 0, none⟩) 1 1] 28 ∧ w'.heap.size = w.heap.size + 1 + 1 + 1 := by
  refine ⟨_, rfl, ?_⟩
  have s0 : (w.alloc (Obj.cells #[Value.int .u8 1] 5)).heap.size = w.heap.size + 1 := by simp
  have b0 : Blk (w.alloc (Obj.cells #[Value.int .u8 1] 5)) w.heap.size (bv [1]) 5 := heap_alloc_new w _
  have e0 : Below w.heap.size w (w.alloc (Obj.cells #[Value.int .u8 1] 5)) := (Below.refl _ _).alloc (Nat.le_refl _) _
  generalize w.alloc (Obj.cells #[Value.int .u8 1] 5) = wa at *
  have s1 : (wa.alloc (Obj.cells #[Value.int .u8 2] 5)).heap.size = wa.heap.size + 1 := by simp
  have b1 : Blk (wa.alloc (Obj.cells #[Value.int .u8 2] 5)) wa.heap.size (bv [2]) 5 := heap_alloc_new wa _
  have b01 := b0.chg (Chg.alloc NoFp wa (Obj.cells #[Value.int .u8 2] 5)) (fun h => h)
  have e1 := e0.alloc (by omega) (Obj.cells #[Value.int .u8 2] 5)
  generalize wa.alloc (Obj.cells #[Value.int .u8 2] 5) = wb at *
  have b2 : Blk (wb.alloc (Obj.cells #[Value.int .i64 401, .slice (some ⟨w.heap.size, 0, none⟩) 1 1, .int .i64 402, .slice (some ⟨w.heap.size + 1, 0, none⟩) 1 1] 28)) wb.heap.size [Value.int .i64 401, .slice (some ⟨w.heap.size, 0, none⟩) 1 1, .int .i64 402, .slice (some ⟨w.heap.size + 1, 0, none⟩) 1 1] 28 := heap_alloc_new wb _
  have c := Chg.alloc NoFp wb (Obj.cells #[Value.int .i64 401, .slice (some ⟨w.heap.size, 0, none⟩) 1 1, .int .i64 402, .slice (some ⟨w.heap.size + 1, 0, none⟩) 1 1] 28)
  have b02 := b01.chg c (fun h => h)
  have b12 := b1.chg c (fun h => h)
  rw [s0] at b12
  rw [s1, s0] at b2
  exact ⟨e1.alloc (by omega) _, b02, b12, b2, by simp [s1, s0]⟩

set_option maxRecDepth 100000 in
set_option maxHeartbeats 8000000 in
theorem redoRows_walk (a0 : Int) (a1 : Int) (w : World) (w0 : (Lit.int .i64 a0).wf = true) (w1 : (Lit.int .i64 a1).wf = true) :
    Calls Try.prog 3 #[.int .i64 a0, .int .i64 a1] w fun e w' => e = .returned (.bool true) ∧ Below w.heap.size w w' := by
  have hm0 : 0 ≤ a0 % 7 := Int.emod_nonneg _ (by omega)
  have hm1 : a0 % 7 < 7 := Int.emod_lt_of_pos _ (by omega)
  have E7 : Hid (∀ w, Calls Try.prog 11 #[.int .i64 a0, .int .i64 7] w fun e w' => e = .returned (.int .i64 (a0 % 7)) ∧ w = w') := hid (fun w => within3_any a0 7 w (by omega) (by omega))
  have hy0 : 0 ≤ a1 % 9 := Int.emod_nonneg _ (by omega)
  have hy1 : a1 % 9 < 9 := Int.emod_lt_of_pos _ (by omega)
  have E9 : Hid (∀ w, Calls Try.prog 11 #[.int .i64 a1, .int .i64 9] w fun e w' => e = .returned (.int .i64 (a1 % 9)) ∧ w = w') := hid (fun w => within3_any a1 9 w (by omega) (by omega))
  clear w0 w1
  generalize a0 % 7 = M at *
  generalize a1 % 9 = y at *
  go_enter Try.func3, Try.ntmps3
  go_wp2_with fail
  refine (known3_any _).mono ?_; rintro e1 wk ⟨rfl, hbk⟩
  have BK := hid hbk
  clear hbk
  go_wp2_with fail
  refine (E9.out _).mono ?_; rintro e1 wx ⟨rfl, hw⟩
  subst hw
  go_wp2_with fail
  refine (dNew_any _ _).mono ?_; rintro e1 w1 ⟨d, rfl, hd, hb1, hl⟩
  rw [show clampN 820 = 820 from by decide] at hd
  have D1 := hid hd
  have B1 := hid (BK.out.trans (hb1.mono BK.out.size))
  have FP : Hid (∀ k, (wk.heap.size ≤ k ∧ k < w1.heap.size) → w.heap.size ≤ k ∧ k < w1.heap.size) := hid (fun k hk => by have := BK.out.size; omega)
  clear hd hb1 hl
  go_wp2_with fail
  obtain ⟨w4, hw4, hb4, hk1, hk2, hk3, hs4⟩ := three_blocks w1
  rw [← hw4]
  have B4 := hid hb4
  have K1 := hid hk1
  have K2 := hid hk2
  have K3 := hid hk3
  have S4 := hid hs4
  have D4 := hid (D1.out.chg (Chg.new hb4 NoFp) (fun _ _ h => h))
  have BW4 := hid (B1.out.trans (hb4.mono B1.out.size))
  clear hw4 hb4 hk1 hk2 hk3 hs4 D1
  refine (E7.out _).mono ?_; rintro e1 wx ⟨rfl, hw⟩
  subst hw
  obtain ⟨fp, hfp⟩ : ∃ fp : Nat → Prop, fp = (fun k => wk.heap.size ≤ k ∧ k < w1.heap.size) := ⟨_, rfl⟩
  have FR : Hid (∀ k, fp k → w.heap.size ≤ k ∧ k < w1.heap.size) := hid (fun k hk => by rw [hfp] at hk; exact FP.out k hk)
  rw [← hfp] at D4
  clear hfp FP
  have FIN : Hid (∀ (w' : World) (a : Option Addr) (c : Nat) (ls : List (Int × List UInt8)) (want o : Int), Below w4.heap.size w4 w' ∨ Chg (fun k => k = w1.heap.size + 1 + 1) w4 w' → IsPuts w' fp a ls → (¬ ls.length = 0 → PutsOut fp a) → ls.length ≤ 1000 → (∀ q ∈ ls, q.2.length ≤ 1000) → (∀ q ∈ ls, (Lit.int .i64 q.1).wf = true) →
      (cmt 820 (dNew 820) ls).2 = want ∧ (cmt 820 (dNew 820) ls).1.ops = o → Calls Try.prog 13 #[.pointer (some ⟨d, 0, none⟩), .slice a ls.length c] w' fun e w'' => ∃ fp'' s, e = .returned (.int .i64 want) ∧ Dsk w'' d fp'' 820 s ∧ Below w.heap.size w w'' ∧ s.ops = o) := hid (fun w' a c ls want o hb hp hpo hl hq hw hc => by
    have hch : Chg (fun k => k = w1.heap.size + 1 + 1) w4 w' := by
      rcases hb with hb | hb
      · exact Chg.new hb _
      · exact hb
    have hd : Dsk w' d fp 820 (dNew 820) := D4.out.chg hch (fun k hk he => by have := (FR.out k hk).2; omega)
    have hbw : Below w.heap.size w w' := BW4.out.trans (hch.below (fun k hk => by have := B1.out.size; omega) BW4.out.size)
    refine (com_any w' d fp 820 (dNew 820) a c ls hd hp hpo hl hq hw (show (0 : Int) + 3000 ≤ 1000000 by omega)).mono ?_
    rintro e w'' ⟨rfl, fp'', h1, h2, h3⟩
    rw [hc.1]
    exact ⟨fp'', _, rfl, h1, hbw.trans (h2.below (fun k hk => (FR.out k hk).1) hbw.size), hc.2⟩)
  have PO : Hid (PutsOut fp (some ⟨w1.heap.size + 1 + 1, 0, none⟩)) := hid (fun ad had hf => by
    injection had with had
    subst had
    have := (FR.out _ hf).2
    simp at this
    omega)
  have F1 : Hid (∀ w', Blk w' w1.heap.size (bv [1]) 5 → Far w' fp (.slice (some ⟨w1.heap.size, 0, none⟩) 1 1) [1]) := hid (fun w' h => ⟨Bs.blk h rfl (by simp [maxLen]), fun _ g hg hf => by
    have e : w1.heap.size = g := by simpa [Value.ownBlock] using hg
    have := (FR.out g hf).2; omega⟩)
  have F2 : Hid (∀ w', Blk w' (w1.heap.size + 1) (bv [2]) 5 → Far w' fp (.slice (some ⟨w1.heap.size + 1, 0, none⟩) 1 1) [2]) := hid (fun w' h => ⟨Bs.blk h rfl (by simp [maxLen]), fun _ g hg hf => by
    have e : w1.heap.size + 1 = g := by simpa [Value.ownBlock] using hg
    have := (FR.out g hf).2; omega⟩)
  have c1 : w4.cell? ⟨w1.heap.size + 1 + 1, 1, none⟩ = some (.slice (some ⟨w1.heap.size, 0, none⟩) 1 1) := K3.out.cell 1
  have c2 : w4.cell? ⟨w1.heap.size + 1 + 1, 2, none⟩ = some (.int .i64 402) := K3.out.cell 2
  have f1 := K3.out.frozen 1
  have f2 := K3.out.frozen 2
  have SET : Hid (∀ (k : Nat) (v : Value), Blk (w4.setCell ⟨w1.heap.size + 1 + 1, k, none⟩ v) (w1.heap.size + 1 + 1) ([Value.int .i64 401, .slice (some ⟨w1.heap.size, 0, none⟩) 1 1, .int .i64 402, .slice (some ⟨w1.heap.size + 1, 0, none⟩) 1 1].set k v) 28 ∧
      Chg (fun z => z = w1.heap.size + 1 + 1) w4 (w4.setCell ⟨w1.heap.size + 1 + 1, k, none⟩ v) ∧ Blk (w4.setCell ⟨w1.heap.size + 1 + 1, k, none⟩ v) w1.heap.size (bv [1]) 5 ∧ Blk (w4.setCell ⟨w1.heap.size + 1 + 1, k, none⟩ v) (w1.heap.size + 1) (bv [2]) 5) := hid (fun k v => by
    have hc : Chg (fun z => z = w1.heap.size + 1 + 1) w4 (w4.setCell ⟨w1.heap.size + 1 + 1, k, none⟩ v) := Chg.setCell (fp := fun z => z = w1.heap.size + 1 + 1) w4 (a := ⟨w1.heap.size + 1 + 1, k, none⟩) rfl _
    exact ⟨K3.out.set k v, hc, K1.out.chg hc (by omega), K2.out.chg hc (by omega)⟩)
  have badW : ∀ (ls : List (Int × List UInt8)), chk 820 ls = 1 → (cmt 820 (dNew 820) ls).2 = 1 ∧ (cmt 820 (dNew 820) ls).1.ops = 0 := fun ls h => by rw [cmt_bad h]; exact ⟨rfl, rfl⟩
  have BAD := hid badW
  have OKC : Hid ((cmt 820 (dNew 820) [(401, [1]), (402, [2])]).2 = 0 ∧ (cmt 820 (dNew 820) [(401, [1]), (402, [2])]).1.ops = 10) := hid (by
    have lok : LOk 820 [(401, [1]), (402, [2])] := ⟨by simp, by simp, fun q hq => by simp at hq; rcases hq with rfl | rfl <;> simp, by simp⟩
    obtain ⟨_, h2⟩ := com_run lok (rest_new 820) (row_zero (by omega))
    obtain ⟨e0, _, hops⟩ := h2 (show (0 : Int) < 1 by omega)
    exact ⟨e0, by rw [hops]; rfl⟩)
  clear badW
  have y4 : IntKind.i64.wrap (400 - y) = 400 - y := by rw [IntKind.wrap_i64]; omega
  have y8 : IntKind.i64.wrap (820 + y) = 820 + y := by rw [IntKind.wrap_i64]; omega
  have y5 : IntKind.i64.wrap (505 + y) = 505 + y := by rw [IntKind.wrap_i64]; omega
  have y1 : IntKind.i64.wrap (401 + y) = 401 + y := by rw [IntKind.wrap_i64]; omega
  rcases (show M = 0 ∨ M = 1 ∨ M = 2 ∨ M = 3 ∨ M = 4 ∨ M = 5 ∨ M = 6 by omega) with rfl | rfl | rfl | rfl | rfl | rfl | rfl
  · go_wp2_with fail
    refine (FIN.out w4 none 0 [] 1 0 (.inl (Below.refl _ _)) (fun i hi => by simp at hi) (fun h => absurd rfl h) (by simp) (by simp) (by simp) (BAD.out _ rfl)).mono ?_
    rintro e1 w6 ⟨fp6, s6, rfl, hd6, hb6, hops⟩
    have D6 := hid hd6
    have B6 := hid hb6
    have O6 := hid hops
    clear hd6 hb6 hops
    go_wp2_with fail
    refine (dOps_any w6 d fp6 820 s6 D6.out).mono ?_
    rintro e1 w7 ⟨rfl, hw⟩
    subst hw
    rw [O6.out]
    go_wp2_with fail
    go_ret
    exact ⟨rfl, B6.out⟩
  · go_wp2_with fail
    obtain ⟨s1, s2, s3, s4⟩ := SET.out 2 (.int .i64 (400 - y))
    refine (FIN.out (w4.setCell ⟨w1.heap.size + 1 + 1, 2, none⟩ (.int .i64 (400 - y))) (some ⟨w1.heap.size + 1 + 1, 0, none⟩) 2 [(401, [1]), (400 - y, [2])] 1 0 (.inr s2) (puts_two s1 (F1.out _ s3) (F2.out _ s4) rfl rfl) (fun _ => PO.out) (by simp) (fun q hq => by simp at hq; rcases hq with rfl | rfl <;> simp) (fun q hq => by simp at hq; rcases hq with rfl | rfl <;> exact wf_small (by simp; try omega) (by simp; try omega)) (BAD.out _ (by simp [chk, scanPuts, okAt]; try omega))).mono ?_
    rintro e1 w6 ⟨fp6, s6, rfl, hd6, hb6, hops⟩
    have D6 := hid hd6
    have B6 := hid hb6
    have O6 := hid hops
    clear hd6 hb6 hops
    go_wp2_with fail
    refine (dOps_any w6 d fp6 820 s6 D6.out).mono ?_
    rintro e1 w7 ⟨rfl, hw⟩
    subst hw
    rw [O6.out]
    go_wp2_with fail
    go_ret
    exact ⟨rfl, B6.out⟩
  · go_wp2_with fail
    obtain ⟨s1, s2, s3, s4⟩ := SET.out 2 (.int .i64 (820 + y))
    refine (FIN.out (w4.setCell ⟨w1.heap.size + 1 + 1, 2, none⟩ (.int .i64 (820 + y))) (some ⟨w1.heap.size + 1 + 1, 0, none⟩) 2 [(401, [1]), (820 + y, [2])] 1 0 (.inr s2) (puts_two s1 (F1.out _ s3) (F2.out _ s4) rfl rfl) (fun _ => PO.out) (by simp) (fun q hq => by simp at hq; rcases hq with rfl | rfl <;> simp) (fun q hq => by simp at hq; rcases hq with rfl | rfl <;> exact wf_small (by simp; try omega) (by simp; try omega)) (BAD.out _ (by simp [chk, scanPuts, okAt]; try omega))).mono ?_
    rintro e1 w6 ⟨fp6, s6, rfl, hd6, hb6, hops⟩
    have D6 := hid hd6
    have B6 := hid hb6
    have O6 := hid hops
    clear hd6 hb6 hops
    go_wp2_with fail
    refine (dOps_any w6 d fp6 820 s6 D6.out).mono ?_
    rintro e1 w7 ⟨rfl, hw⟩
    subst hw
    rw [O6.out]
    go_wp2_with fail
    go_ret
    exact ⟨rfl, B6.out⟩
  · go_wp2_with fail
    obtain ⟨s1, s2, s3, s4⟩ := SET.out 2 (.int .i64 (401))
    refine (FIN.out (w4.setCell ⟨w1.heap.size + 1 + 1, 2, none⟩ (.int .i64 (401))) (some ⟨w1.heap.size + 1 + 1, 0, none⟩) 2 [(401, [1]), (401, [2])] 1 0 (.inr s2) (puts_two s1 (F1.out _ s3) (F2.out _ s4) rfl rfl) (fun _ => PO.out) (by simp) (fun q hq => by simp at hq; rcases hq with rfl | rfl <;> simp) (fun q hq => by simp at hq; rcases hq with rfl | rfl <;> exact wf_small (by simp; try omega) (by simp; try omega)) (BAD.out _ (by simp [chk, scanPuts, okAt]; try omega))).mono ?_
    rintro e1 w6 ⟨fp6, s6, rfl, hd6, hb6, hops⟩
    have D6 := hid hd6
    have B6 := hid hb6
    have O6 := hid hops
    clear hd6 hb6 hops
    go_wp2_with fail
    refine (dOps_any w6 d fp6 820 s6 D6.out).mono ?_
    rintro e1 w7 ⟨rfl, hw⟩
    subst hw
    rw [O6.out]
    go_wp2_with fail
    go_ret
    exact ⟨rfl, B6.out⟩
  · obtain ⟨m, rfl⟩ : ∃ m : Nat, y = (m : Int) := ⟨y.toNat, by omega⟩
    have K3' := hid K3.out
    go_wp2_with (at_make; refine wpList_make_blk rfl _ _ 26 rfl 5 _ 1 1 Try.underlying26 infoU8 _ _ _ _ (505 + m) rfl rfl (by push_cast; rfl) (by push_cast; rfl) (by omega) (by simp only [maxLen]; omega) ?_; intro w5 hh hb5 hl5; rw [made_bytes] at hh; (have M5 := hid hh); (have B5 := hid hb5); (have kk : w5.cell? ⟨w1.heap.size + 1 + 1, 1, none⟩ = some (.slice (some ⟨w1.heap.size, 0, none⟩) 1 1) := (K3.out.chg (Chg.new hb5 NoFp) (fun h => h)).cell 1); (have ff := (K3.out.chg (Chg.new hb5 NoFp) (fun h => h)).frozen 1); clear hh hb5 hl5)
    have hk3 := K3.out.chg (Chg.new B5.out NoFp) (fun h => h)
    have hc : Chg (fun z => z = w1.heap.size + 1 + 1) w5 (w5.setCell ⟨w1.heap.size + 1 + 1, 1, none⟩ (.slice (some ⟨w4.heap.size, 0, none⟩) (505 + m) (505 + m))) := Chg.setCell (fp := fun z => z = w1.heap.size + 1 + 1) w5 (a := ⟨w1.heap.size + 1 + 1, 1, none⟩) rfl _
    have hk2 := (K2.out.chg (Chg.new B5.out NoFp) (fun h => h)).chg hc (by omega)
    have hm5 : Blk (w5.setCell ⟨w1.heap.size + 1 + 1, 1, none⟩ (.slice (some ⟨w4.heap.size, 0, none⟩) (505 + m) (505 + m))) w4.heap.size (bv (List.replicate (505 + m) 0)) 5 := Blk.chg (show Blk w5 w4.heap.size (bv (List.replicate (505 + m) 0)) 5 from M5.out) hc (by have := S4.out; omega)
    have s1 := hk3.set 1 (.slice (some ⟨w4.heap.size, 0, none⟩) (505 + m) (505 + m))
    have hfar : Far (w5.setCell ⟨w1.heap.size + 1 + 1, 1, none⟩ (.slice (some ⟨w4.heap.size, 0, none⟩) (505 + m) (505 + m))) fp (.slice (some ⟨w4.heap.size, 0, none⟩) (505 + m) (505 + m)) (List.replicate (505 + m) 0) := ⟨Bs.blk hm5 (by simp) (by simp only [maxLen]; omega), fun _ g hg hf => by
      have e : w4.heap.size = g := by simpa [Value.ownBlock] using hg
      have := (FR.out g hf).2
      have := S4.out
      omega⟩
    refine (FIN.out _ (some ⟨w1.heap.size + 1 + 1, 0, none⟩) 2 [(401, List.replicate (505 + m) 0), (402, [2])] 1 0 (.inr ((Chg.new B5.out _).trans hc (fun _ _ h => h))) (puts_two s1 hfar (F2.out _ hk2) (by simp) rfl) (fun _ => PO.out) (by simp) (fun q hq => by simp at hq; rcases hq with rfl | rfl <;> simp; try omega) (fun q hq => by simp at hq; rcases hq with rfl | rfl <;> exact wf_small (by simp) (by simp)) (BAD.out _ (by simp [chk, scanPuts, okAt]; try omega))).mono ?_
    rintro e1 w6 ⟨fp6, s6, rfl, hd6, hb6, hops⟩
    have D6 := hid hd6
    have B6 := hid hb6
    have O6 := hid hops
    clear hd6 hb6 hops
    go_wp2_with fail
    refine (dOps_any w6 d fp6 820 s6 D6.out).mono ?_
    rintro e1 w7 ⟨rfl, hw⟩
    subst hw
    rw [O6.out]
    go_wp2_with fail
    go_ret
    exact ⟨rfl, B6.out⟩
  · obtain ⟨m, rfl⟩ : ∃ m : Nat, y = (m : Int) := ⟨y.toNat, by omega⟩
    go_wp2_with fail
    have P0 : Hid (PutsAt w4.heap.size (fun _ => False) (manyPuts 0) [] w4 w4 (.slice none 0 0)) := hid (PutsAt.start (Below.refl _ _) (Nat.le_refl _))
    go_loopw [6, 8] (fun v i wr => ∃ (j : Nat) (bs : List Value), j ≤ 401 + m ∧ i = .int .i64 j ∧ PutsAt w4.heap.size (fun _ => False) (manyPuts j) bs w4 wr v) (fun _ i _ => 402 + m - (intOf i).toNat)
    case atStart => exact ⟨0, [], by omega, rfl, P0.out⟩
    case round =>
      obtain ⟨j, bs, hj, rfl, hat⟩ := hrel
      have PA := hid hat
      obtain ⟨sp, sc, hsh⟩ := hat.shape
      rw [manyPuts_length] at hsh
      subst hsh
      clear hat P0
      by_cases hlt : j < 401 + m
      · have hd : decide ((j : Int) < 401 + (m : Int)) = true := by rw [decide_eq_true_iff]; omega
        have hwj : IntKind.i64.wrap (401 + (j : Int)) = 401 + (j : Int) := by rw [IntKind.wrap_i64]; omega
        go_wp2_with (at_builtin; refine wp_keep ?_)
        refine hid ?_
        refine wpList_append_put (q := (401 + (j : Int), [])) (b := .slice none 0 0) PA.out (Below.refl _ _) (Rd.nil _ _) (fun h => by simp at h) rfl _ _ rfl rfl rfl rfl (by rw [manyPuts_length]; omega) ?_
        intro p' c' w7 hp7
        rw [← manyPuts_succ, manyPuts_length] at hp7
        rw [manyPuts_length]
        have P7 := hid hp7
        clear hp7
        go_wp2_with fail
        go_roundw
        case rel => exact ⟨j + 1, _, by omega, by go_num, P7.out⟩
        case measure => simp [intOf]; omega
      · obtain rfl : j = 401 + m := by omega
        have hd : decide ((401 : Int) + (m : Int) < 401 + (m : Int)) = false := by rw [decide_eq_false_iff_not]; omega
        have hpp := PA.out.puts (fp := fp) (fun g hg => hg.elim) (fun k hk => by have := (FR.out k hk).2; have := S4.out; omega)
        have PP := hid hpp
        have PB := hid PA.out.2.2.2.1
        clear hpp
        go_wp2_with fail
        have hcm := FIN.out wr sp sc (manyPuts (401 + m)) 4 0 (.inl PB.out) PP.out.1 (fun _ => PP.out.2) (by rw [manyPuts_length]; omega) (fun q hq => by obtain ⟨i, hi, rfl⟩ := List.mem_map.1 hq; simp) (fun q hq => by obtain ⟨i, hi, rfl⟩ := List.mem_map.1 hq; have := List.mem_range.1 hi; exact wf_small (by show (0 : Int) ≤ 401 + (i : Int); omega) (by show 401 + (i : Int) < 1000000; omega)) (by rw [cmt_many _ _ _ (by omega)]; exact ⟨rfl, rfl⟩)
        rw [manyPuts_length] at hcm
        refine hcm.mono ?_
        rintro e1 w6 ⟨fp6, s6, rfl, hd6, hb6, hops⟩
        have D6 := hid hd6
        have B6 := hid hb6
        have O6 := hid hops
        clear hd6 hb6 hops
        go_wp2_with fail
        refine (dOps_any w6 d fp6 820 s6 D6.out).mono ?_
        rintro e1 w7 ⟨rfl, hw⟩
        subst hw
        rw [O6.out]
        go_wp2_with fail
        go_ret
        exact ⟨rfl, B6.out⟩
  · go_wp2_with fail
    refine (FIN.out w4 (some ⟨w1.heap.size + 1 + 1, 0, none⟩) 2 [(401, [1]), (402, [2])] 0 10 (.inl (Below.refl _ _)) (puts_two K3.out (F1.out _ K1.out) (F2.out _ K2.out) rfl rfl) (fun _ => PO.out) (by simp) (fun q hq => by simp at hq; rcases hq with rfl | rfl <;> simp) (fun q hq => by simp at hq; rcases hq with rfl | rfl <;> exact wf_small (by simp) (by simp)) OKC.out).mono ?_
    rintro e1 w6 ⟨fp6, s6, rfl, hd6, hb6, hops⟩
    have D6 := hid hd6
    have B6 := hid hb6
    have O6 := hid hops
    clear hd6 hb6 hops
    go_wp2_with fail
    refine (dOps_any w6 d fp6 820 s6 D6.out).mono ?_
    rintro e1 w7 ⟨rfl, hw⟩
    subst hw
    rw [O6.out]
    go_wp2_with fail
    go_ret
    exact ⟨rfl, B6.out⟩
end Go.Proofs.Ytplahohlmiphoaa
