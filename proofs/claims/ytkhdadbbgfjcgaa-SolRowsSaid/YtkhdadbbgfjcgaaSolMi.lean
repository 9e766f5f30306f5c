/- sol.Minus. -/
import Derived.Test.YtkhdadbbgfjcgaaSolLb
namespace Go.Proofs.Ytkhdadbbgfjcgaa
open Go.RowKit
set_option linter.unusedVariables false

def sharesP (a b : Sl) : Bool := a.any (fun p => hitB b p.1)
def foeP (s x : Sl) : Bool := (meetP s x).isSome && sharesP s x
def foesP (s : Sl) (l : List Sl) : Bool := l.any (foeP s)
def minP (a b : List Sl) : List Sl := a.filter (fun s => !(foesP s b))

set_option maxRecDepth 100000 in
set_option maxHeartbeats 2000000 in
theorem shareFn_any (p : Pr) (b : Sl) (vb : Value) (k : Nat) (w : World) (hc : w.cell? ⟨k, 0, none⟩ = some vb) (hb : SolAt w vb b) (ha : Asc b) (hl : b.length ≤ 100000) :
    Calls Try.prog 64 #[pv p, .pointer (some ⟨k, 0, none⟩)] w fun e w' => e = .returned (.bool (hitB b p.1)) ∧ Below w.heap.size w w' := by
  have hkl : k < w.heap.size := World.block_lt_of_cell? w _ hc
  have hb1 := (Below.refl w.heap.size w).alloc (Nat.le_refl _) (Obj.cells (pc p).toArray TP)
  have c0 : (w.alloc (Obj.cells (pc p).toArray TP)).cell? ⟨w.heap.size, 0, none⟩ = some (.string (B p.1)) := (show Blk _ _ (pc p) TP from heap_alloc_new w _).cell 0
  have c1 : (w.alloc (Obj.cells (pc p).toArray TP)).cell? ⟨k, 0, none⟩ = some vb := (hb1.cell (p := ⟨k, 0, none⟩) hkl).trans hc
  have HB := hid hb1
  have HS := hid (hb.new hb1)
  have HA := hid ha
  clear hb1 hb ha hc
  go_enter Try.func64, Try.ntmps64
  go_wp2_with fail
  refine (place_any b vb p.1 _ HS.out HA.out hl).mono ?_; rintro e1 w1 ⟨rfl, hb2⟩
  have HB2 := hid (HB.out.trans (hb2.mono (by simp)))
  clear hb2 c0 c1
  go_wp2_with fail
  go_ret
  exact ⟨rfl, HB2.out⟩

set_option maxRecDepth 100000 in
set_option maxHeartbeats 2000000 in
theorem indexP_any (a b : Sl) (va vb : Value) (k : Nat) (w : World) (n : Nat) (ha : SolAt w va a) (hc : w.cell? ⟨k, 0, none⟩ = some vb) (hb : SolAt w vb b) (hab : Asc b) (hal : a.length ≤ 100000) (hbl : b.length ≤ 100000) :
    Calls Try.prog 73 #[va, .func (.func 64) #[] #[.pointer (some ⟨k, 0, none⟩)]] w fun e w' => (∃ r : Int, e = .returned (.int .i64 r) ∧ (0 ≤ r ↔ sharesP a b = true)) ∧ Below w.heap.size w w' := by
  obtain ⟨p, c, rfl⟩ := ha.shape
  have hkl : k < w.heap.size := World.block_lt_of_cell? w _ hc
  have HA := hid ha
  have HC := hid hc
  have HB := hid hb
  have HAB := hid hab
  clear ha hc hb hab
  go_enter Try.func73, Try.ntmps73
  go_wp2_with fail
  go_loopw [8] (fun vi wr => ∃ i : Nat, vi = .int .i64 i ∧ i ≤ a.length ∧ Hid ((a.take i).any (fun p => hitB b p.1) = false) ∧ Hid (Below w.heap.size w wr)) (fun vi _ => a.length + 1 - (intOf vi).toNat)
  case atStart => exact ⟨0, rfl, Nat.zero_le _, rfl, Below.refl _ _⟩
  case round =>
    obtain ⟨i, rfl, hi, HN, HW⟩ := hrel
    have hsz := HW.out.size
    by_cases hlt : i < a.length
    · have hlt2 : (i : Int) < (a.length : Int) := by omega
      obtain ⟨g, off, rfl, c0, c1, c2, c3, c4⟩ := (HA.out.new HW.out).at hlt
      have HTK := hid (show (a.take (i + 1)).any (fun p => hitB b p.1) = hitB b (a[i]).1 by
        rw [List.take_add_one, List.getElem?_eq_getElem hlt, List.any_append, HN.out]; simp)
      have HSH := hid (show hitB b (a[i]).1 = true → sharesP a b = true from fun h => List.any_eq_true.2 ⟨a[i], List.getElem_mem hlt, h⟩)
      obtain ⟨q, hq⟩ : ∃ q, a[i] = q := ⟨_, rfl⟩
      rw [hq] at c0 c1 c2 c3 c4 HTK HSH
      clear hq
      go_wp2_with fail
      refine (shareFn_any q b vb k wr ((HW.out.cell (p := ⟨k, 0, none⟩) hkl).trans HC.out) (HB.out.new HW.out) HAB.out hbl).mono ?_
      rintro e1 w1 ⟨rfl, hb1⟩
      have HW1 := hid (HW.out.trans (hb1.mono hsz))
      clear hb1 c0 c1 c2 c3 c4
      cases hh : hitB b q.1 with
      | true =>
        have HS1 := hid (HSH.out hh)
        clear hh
        go_wp2_with fail
        go_ret
        exact ⟨⟨(i : Int), rfl, ⟨fun _ => HS1.out, fun _ => by omega⟩⟩, HW1.out⟩
      | false =>
        rw [hh] at HTK
        clear hh
        go_wp2_with fail
        go_roundw
        case rel => exact ⟨i + 1, by go_num, by omega, HTK, HW1⟩
        case measure => simp [intOf]; omega
    · have hlt2 : ¬ (i : Int) < (a.length : Int) := by omega
      rw [List.take_of_length_le (by omega)] at HN
      go_wp2_with fail
      go_ret
      refine ⟨⟨-1, rfl, ⟨fun h => by omega, fun h => ?_⟩⟩, HW.out⟩
      have := HN.out
      unfold sharesP at h
      rw [this] at h; cases h

set_option maxRecDepth 100000 in
theorem shares_any (a b : Sl) (va vb : Value) (w : World) (ha : SolAt w va a) (hb : SolAt w vb b) (hab : Asc b) (hal : a.length ≤ 100000) (hbl : b.length ≤ 100000) :
    Calls Try.prog 48 #[va, vb] w fun e w' => e = .returned (.bool (sharesP a b)) ∧ Below w.heap.size w w' := by
  obtain ⟨p, c, rfl⟩ := ha.shape
  obtain ⟨q, d, rfl⟩ := hb.shape
  have hz : Blk (w.alloc (Obj.cells ([.slice q b.length d] : List Value).toArray TL)) w.heap.size [.slice q b.length d] TL := heap_alloc_new w _
  have hzb := (Below.refl w.heap.size w).alloc (Nat.le_refl _) (Obj.cells ([.slice q b.length d] : List Value).toArray TL)
  have HA := hid (ha.new hzb)
  have HB := hid (hb.new hzb)
  have HZ := hid (show (w.alloc (Obj.cells ([.slice q b.length d] : List Value).toArray TL)).cell? ⟨w.heap.size, 0, none⟩ = some (.slice q b.length d) from hz.cell 0)
  have HW := hid hzb
  have HAB := hid hab
  clear ha hb hz hzb hab
  have key : ∀ w0 : World, Hid (SolAt w0 (.slice p a.length c) a) → Hid (SolAt w0 (.slice q b.length d) b) → Hid (w0.cell? ⟨w.heap.size, 0, none⟩ = some (.slice q b.length d)) → Hid (Below w.heap.size w w0) →
      Calls Try.prog 63 #[.slice p a.length c, .func (.func 64) #[] #[.pointer (some ⟨w.heap.size, 0, none⟩)]] w0 fun e w' => e = .returned (.bool (sharesP a b)) ∧ Below w.heap.size w w' := by
    intro w0 HA HB HZ HW
    go_enter Try.func63, Try.ntmps63
    go_wp2_with fail
    refine (indexP_any a b _ _ w.heap.size w0 0 HA.out HZ.out HB.out HAB.out hal hbl).mono ?_
    rintro e1 w1 ⟨⟨r, rfl, hr⟩, hb1⟩
    have HW1 := hid (HW.out.trans (hb1.mono HW.out.size))
    clear hb1
    cases hs : sharesP a b with
    | true =>
      have hr2 : 0 ≤ r := hr.2 hs
      have HR2 := hid (And.intro hr2 hs)
      clear hr hs
      go_wp2_with fail
      go_ret
      exact ⟨by rw [HR2.out.2]; rfl, HW1.out⟩
    | false =>
      have hr2 : ¬ 0 ≤ r := fun h => by rw [hr.1 h] at hs; cases hs
      have HR2 := hid (And.intro hr2 hs)
      clear hr hs
      go_wp2_with fail
      go_ret
      exact ⟨by rw [HR2.out.2]; exact congrArg (fun b => Ending.returned (.bool b)) (decide_eq_false (by have := HR2.out.1; omega)), HW1.out⟩
  go_enter Try.func48, Try.ntmps48
  go_wp2_with fail
  refine (key _ HA HB HZ HW).mono ?_
  rintro e1 w1 ⟨rfl, hb1⟩
  have HW1 := hid hb1
  clear hb1 key
  go_wp2_with fail
  go_ret
  exact ⟨rfl, HW1.out⟩

set_option maxRecDepth 100000 in
set_option maxHeartbeats 2000000 in
theorem foeFn_any (s x : Sl) (vs vx : Value) (k : Nat) (w : World) (n m : Nat) (hc : w.cell? ⟨k, 0, none⟩ = some vs) (hs : SolAt w vs s) (hx : SolAt w vx x) (os : OkS n s) (ox : OkS m x) (hn : n + m ≤ 200) :
    Calls Try.prog 46 #[vx, .pointer (some ⟨k, 0, none⟩)] w fun e w' => e = .returned (.bool (foeP s x)) ∧ Below w.heap.size w w' := by
  have hkl : k < w.heap.size := World.block_lt_of_cell? w _ hc
  have HS := hid hs
  have HX := hid hx
  have OS := hid os
  have OX := hid ox
  have HC := hid hc
  clear hs hx os ox
  go_enter Try.func46, Try.ntmps46
  go_wp2_with fail
  refine (meet_any s x vs vx w n m HS.out HX.out OS.out OX.out hn).mono ?_
  rintro e1 w1 ⟨p, c, rfl, _, hb1⟩
  have HW1 := hid hb1
  have hc1 : w1.cell? ⟨k, 0, none⟩ = some vs := (hb1.cell (p := ⟨k, 0, none⟩) hkl).trans HC.out
  have HS1 := hid (HS.out.new hb1)
  have HX1 := hid (HX.out.new hb1)
  clear hb1 hc
  cases hm : (meetP s x).isSome with
  | false =>
    have HF := hid (show foeP s x = false by unfold foeP; rw [hm]; rfl)
    clear hm
    go_wp2_with fail
    go_ret
    exact ⟨by rw [HF.out]; rfl, HW1.out⟩
  | true =>
    have HF := hid (show foeP s x = sharesP s x by unfold foeP; rw [hm]; rfl)
    clear hm
    go_wp2_with fail
    refine (shares_any s x vs vx w1 HS1.out HX1.out OX.out.asc (by have := OS.out.len; omega) (by have := OX.out.len; omega)).mono ?_
    rintro e2 w2 ⟨rfl, hb2⟩
    have HW2 := hid (HW1.out.trans (hb2.mono HW1.out.size))
    clear hb2 hc1
    go_wp2_with fail
    go_ret
    exact ⟨by rw [HF.out]; rfl, HW2.out⟩
set_option maxRecDepth 100000 in
set_option maxHeartbeats 2000000 in
theorem indexL_any (s : Sl) (l : List Sl) (vs vl : Value) (k : Nat) (w : World) (n m : Nat) (hc : w.cell? ⟨k, 0, none⟩ = some vs) (hs : SolAt w vs s) (hl : SolsAt w vl l) (os : OkS n s) (ol : ∀ x ∈ l, OkS m x) (hn : n + m ≤ 200) (hll : l.length ≤ 100000) :
    Calls Try.prog 62 #[vl, .func (.func 46) #[] #[.pointer (some ⟨k, 0, none⟩)]] w fun e w' => (∃ r : Int, e = .returned (.int .i64 r) ∧ (0 ≤ r ↔ foesP s l = true)) ∧ Below w.heap.size w w' := by
  obtain ⟨p, c, rfl⟩ := hl.shape
  have hkl : k < w.heap.size := World.block_lt_of_cell? w _ hc
  have HL := hid hl
  have HC := hid hc
  have HS := hid hs
  have OS := hid os
  have OL := hid ol
  clear hl hc hs os ol
  go_enter Try.func62, Try.ntmps62
  go_wp2_with fail
  go_loopw [8] (fun vi wr => ∃ i : Nat, vi = .int .i64 i ∧ i ≤ l.length ∧ Hid (foesP s (l.take i) = false) ∧ Hid (Below w.heap.size w wr)) (fun vi _ => l.length + 1 - (intOf vi).toNat)
  case atStart => exact ⟨0, rfl, Nat.zero_le _, rfl, Below.refl _ _⟩
  case round =>
    obtain ⟨i, rfl, hi, HN, HW⟩ := hrel
    have hsz := HW.out.size
    by_cases hlt : i < l.length
    · have hlt2 : (i : Int) < (l.length : Int) := by omega
      obtain ⟨g, off, u, rfl, hcell, hsu⟩ := (HL.out.new HW.out).get hlt
      have HSU := hid hsu
      have HTK := hid (show foesP s (l.take (i + 1)) = foeP s l[i] by
        have hn := HN.out
        unfold foesP at hn ⊢
        rw [List.take_add_one, List.getElem?_eq_getElem hlt, List.any_append, hn]; simp)
      have HSH := hid (show foeP s l[i] = true → foesP s l = true from fun h => List.any_eq_true.2 ⟨l[i], List.getElem_mem hlt, h⟩)
      have HOX := hid (OL.out _ (List.getElem_mem hlt))
      clear hsu
      generalize l[i] = x at *
      go_wp2_with fail
      refine (foeFn_any s x vs u k wr n m ((HW.out.cell (p := ⟨k, 0, none⟩) hkl).trans HC.out) (HS.out.new HW.out) HSU.out OS.out HOX.out hn).mono ?_
      rintro e1 w1 ⟨rfl, hb1⟩
      have HW1 := hid (HW.out.trans (hb1.mono hsz))
      clear hb1 hcell
      cases hh : foeP s x with
      | true =>
        have HS1 := hid (HSH.out hh)
        clear hh
        go_wp2_with fail
        go_ret
        exact ⟨⟨(i : Int), rfl, ⟨fun _ => HS1.out, fun _ => by omega⟩⟩, HW1.out⟩
      | false =>
        rw [hh] at HTK
        clear hh
        go_wp2_with fail
        go_roundw
        case rel => exact ⟨i + 1, by go_num, by omega, HTK, HW1⟩
        case measure => simp [intOf]; omega
    · have hlt2 : ¬ (i : Int) < (l.length : Int) := by omega
      rw [List.take_of_length_le (by omega)] at HN
      go_wp2_with fail
      go_ret
      refine ⟨⟨-1, rfl, ⟨fun h => by omega, fun h => ?_⟩⟩, HW.out⟩
      rw [HN.out] at h; cases h

set_option maxRecDepth 100000 in
theorem hasL_any (s : Sl) (l : List Sl) (vs vl : Value) (k : Nat) (w : World) (n m : Nat) (hc : w.cell? ⟨k, 0, none⟩ = some vs) (hs : SolAt w vs s) (hl : SolsAt w vl l) (os : OkS n s) (ol : ∀ x ∈ l, OkS m x) (hn : n + m ≤ 200) (hll : l.length ≤ 100000) :
    Calls Try.prog 45 #[vl, .func (.func 46) #[] #[.pointer (some ⟨k, 0, none⟩)]] w fun e w' => e = .returned (.bool (foesP s l)) ∧ Below w.heap.size w w' := by
  have HC := hid hc
  have HS := hid hs
  have HL := hid hl
  have OS := hid os
  have OL := hid ol
  clear hc hs hl os ol
  go_enter Try.func45, Try.ntmps45
  go_wp2_with fail
  refine (indexL_any s l vs vl k w n m HC.out HS.out HL.out OS.out OL.out hn hll).mono ?_
  rintro e1 w1 ⟨⟨r, rfl, hr⟩, hb1⟩
  have HW1 := hid hb1
  clear hb1
  cases hs : foesP s l with
  | true =>
    have hr2 : 0 ≤ r := hr.2 hs
    have HR2 := hid (And.intro hr2 hs)
    clear hr hs
    go_wp2_with fail
    go_ret
    exact ⟨by rw [HR2.out.2]; rfl, HW1.out⟩
  | false =>
    have hr2 : ¬ 0 ≤ r := fun h => by rw [hr.1 h] at hs; cases hs
    have HR2 := hid (And.intro hr2 hs)
    clear hr hs
    go_wp2_with fail
    go_ret
    exact ⟨by rw [HR2.out.2]; exact congrArg (fun b => Ending.returned (.bool b)) (decide_eq_false (by have := HR2.out.1; omega)), HW1.out⟩

theorem min_succ {a b : List Sl} {i : Nat} (h : i < a.length) : minP (a.take (i + 1)) b = minP (a.take i) b ++ (if foesP a[i] b then [] else [a[i]]) := by
  unfold minP
  rw [List.take_add_one, List.getElem?_eq_getElem h, List.filter_append]
  cases hb : foesP a[i] b <;> simp [hb]

set_option maxRecDepth 100000 in
set_option maxHeartbeats 4000000 in
theorem minus_any (a b : List Sl) (va vb : Value) (w : World) (n m : Nat) (ha : SolsAt w va a) (hb : SolsAt w vb b) (oa : ∀ x ∈ a, OkS n x) (ob : ∀ x ∈ b, OkS m x) (hn : n + m ≤ 200) (hal : a.length ≤ 100000) (hbl : b.length ≤ 100000) :
    Calls Try.prog 27 #[va, vb] w fun e w' => ∃ p c, e = .returned (.slice p (minP a b).length c) ∧ OwnL w.heap.size w' (.slice p (minP a b).length c) (srt textP (minP a b)) ∧ Below w.heap.size w w' := by
  obtain ⟨p, c, rfl⟩ := ha.shape
  have HA := hid ha
  have HBB := hid hb
  have OA := hid oa
  have OB := hid ob
  clear ha hb oa ob
  go_enter Try.func27, Try.ntmps27
  go_wp2_with fail
  go_loopw [5, 10] (fun vo vi wr => ∃ (i k : Nat) (p1 : Option Addr) (c1 : Nat) (M : List Sl), vo = .slice p1 k c1 ∧ vi = .int .i64 i ∧ i ≤ a.length ∧ k ≤ i ∧ Hid (M = minP (a.take i) b) ∧ Hid (M.length = k) ∧ Hid (OwnL w.heap.size wr (.slice p1 k c1) M) ∧ Hid (Below w.heap.size w wr)) (fun vo vi _ => a.length + 1 - (intOf vi).toNat)
  case atStart => exact ⟨0, 0, none, 0, [], rfl, rfl, Nat.zero_le _, Nat.zero_le _, rfl, rfl, OwnL.nil _ _, Below.refl _ _⟩
  case round =>
    obtain ⟨i, k, p1, c1, M, rfl, rfl, hi, hk, HM, HK, HO, HB⟩ := hrel
    have hsz := HB.out.size
    by_cases hlt : i < a.length
    · have hlt2 : (i : Int) < (a.length : Int) := by omega
      obtain ⟨g, off, u, rfl, hcell, hsu⟩ := (HA.out.new HB.out).get hlt
      obtain ⟨pu, cu, rfl⟩ := hsu.shape
      have HSU := hid hsu
      have HMS := hid (min_succ (b := b) hlt)
      have HOL := hid (OA.out _ (List.getElem_mem hlt))
      clear hsu
      generalize a[i] = s at *
      go_wp2_with fail
      have hz : Blk (wr.alloc (Obj.cells ([.slice pu s.length cu] : List Value).toArray TL)) wr.heap.size [.slice pu s.length cu] TL := heap_alloc_new wr _
      have hzb := (Below.refl wr.heap.size wr).alloc (Nat.le_refl _) (Obj.cells ([.slice pu s.length cu] : List Value).toArray TL)
      have hoz := HO.out.new hzb
      have hbz := HB.out.trans (hzb.mono hsz)
      obtain ⟨w3, hw3⟩ : ∃ w3, wr.alloc (Obj.cells ([.slice pu s.length cu] : List Value).toArray TL) = w3 := ⟨_, rfl⟩
      obtain ⟨bx, hbx⟩ : ∃ bx, wr.heap.size = bx := ⟨_, rfl⟩
      rw [hw3] at hz hzb hoz hbz
      have hw4 : wr.alloc (Obj.cells #[.slice pu s.length cu] TL) = w3 := hw3
      try simp only [hw4]
      try simp only [hw3]
      have hs3 := HSU.out.new hzb
      have hsz3 : w.heap.size ≤ w3.heap.size := hbz.size
      rw [hbx] at hz
      simp only [hbx]
      have hc3 : w3.cell? ⟨bx, 0, none⟩ = some (.slice pu s.length cu) := hz.cell 0
      have hbl3 : bx < w3.heap.size := hz.lt
      have HO3 := hid hoz
      have HB3 := hid hbz
      have HS3 := hid hs3
      have HC3 := hid hc3
      clear hw3 hw4 hbx hz hzb hoz hbz hs3 hcell hc3
      refine (hasL_any s b _ vb bx w3 n m HC3.out HS3.out (HBB.out.new HB3.out) HOL.out OB.out hn hbl).mono ?_
      rintro e1 w1 ⟨rfl, hb1⟩
      have HO1 := hid (HO3.out.new hb1)
      have HB1 := hid (HB3.out.trans (hb1.mono hsz3))
      have HS1 := hid (HS3.out.new hb1)
      have hc1 : w1.cell? ⟨bx, 0, none⟩ = some (.slice pu s.length cu) := (hb1.cell (p := ⟨bx, 0, none⟩) hbl3).trans HC3.out
      clear hb1
      cases hh : foesP s b with
      | true =>
        rw [hh] at HMS
        clear hh
        go_wp2_with fail
        go_roundw
        case rel => exact ⟨i + 1, k, p1, c1, M, rfl, by go_num, by omega, by omega, by rw [HMS.out, ← HM.out]; exact hid (by simp), HK, HO1, HB1⟩
        case measure => simp [intOf]; omega
      | false =>
        rw [hh] at HMS
        clear hh
        go_wp2_with (at_builtin; refine wp_keep ?_)
        refine hid ?_
        have hz : Blk (w1.alloc (Obj.cells ([.slice pu s.length cu] : List Value).toArray TL)) w1.heap.size [.slice pu s.length cu] TL := heap_alloc_new w1 _
        have hzb := (Below.refl w1.heap.size w1).alloc (Nat.le_refl _) (Obj.cells ([.slice pu s.length cu] : List Value).toArray TL)
        have hoz := HO1.out.new hzb
        have hbz := HB1.out.trans (hzb.mono HB1.out.size)
        have hsz1 := SolsAt.one hz (HS1.out.new hzb)
        generalize hw3 : w1.alloc (Obj.cells ([.slice pu s.length cu] : List Value).toArray TL) = w4 at hz hzb hoz hbz hsz1
        have hw4 : w1.alloc (Obj.cells #[.slice pu s.length cu] TL) = w4 := hw3
        try simp only [hw4]
        clear hw3 hw4 hc1
        refine wpList_append_sols rfl _ _ rfl w.heap.size _ M rfl hoz _ [s] rfl hsz1 (by rw [HK.out]; simp; omega) hbz.size ?_
        intro p4 c4 w5 ho4 hb4 _
        have HK4 := hid (show M.length + [s].length = k + 1 by rw [HK.out]; rfl)
        rw [HK4.out] at ho4 ⊢
        have HO4 := hid ho4
        have HB4 := hid (hbz.trans hb4)
        clear ho4 hb4 hz hzb hoz hbz hsz1
        go_wp2_with fail
        case roundEnd => exact ⟨⟨i + 1, k + 1, p4, c4, M ++ [s], rfl, by go_num, by omega, by omega, by rw [HMS.out, ← HM.out]; exact hid (by simp), hid (by rw [List.length_append, HK.out]; rfl), HO4, HB4⟩, by simp [intOf]; omega⟩
    · have hlt2 : ¬ (i : Int) < (a.length : Int) := by omega
      rw [List.take_of_length_le (by omega)] at HM
      go_wp2_with fail
      refine (sort_any M _ wr n HO.out.at (by rw [HK.out]; omega) (by rw [HM.out]; exact fun x hx => OA.out x (List.mem_filter.1 hx).1) (by omega)).mono ?_
      rintro e1 w1 ⟨p2, c2, rfl, ho1, hb1⟩
      have HO1 := hid (ho1.base (B0 := w.heap.size) hsz)
      have HB1 := hid (HB.out.trans (hb1.mono hsz))
      clear ho1 hb1
      go_wp2_with fail
      go_ret
      rw [← HM.out]
      exact ⟨p2, c2, rfl, HO1.out, HB1.out⟩
end Go.Proofs.Ytkhdadbbgfjcgaa
