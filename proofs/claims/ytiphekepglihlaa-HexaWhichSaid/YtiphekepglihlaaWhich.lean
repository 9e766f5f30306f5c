/- The order that a scan goes by: hexa.front, hexa.Which, triadref8.Which. -/
import Derived.Test.YtiphekepglihlaaArr
import Derived.Test.YtiphekepglihlaaHeap
import Derived.Test.YtiphekepglihlaaNum
import Derived.Test.YtiphekepglihlaaChecked
namespace Go.Proofs.Ytiphekepglihlaa
open Go.RowKit
set_option linter.unusedVariables false

/-- a triple's numbers -/
def tri (a b c : Int) (j : Nat) : Int := if j = 0 then a else if j = 1 then b else c
def i3 (a b c : Int) : Value := .agg #[.int .i64 a, .int .i64 b, .int .i64 c]
/-- no known number stands behind an open one -/
def fineO (z : Nat → Bool) (o : Nat → Nat) : Bool := !(z (o 0) && !z (o 1)) && !(z (o 0) && !z (o 2)) && !(z (o 1) && !z (o 2))
def oo (k j : Nat) : Nat := ((([[0, 1, 2], [0, 2, 1], [1, 0, 2], [1, 2, 0], [2, 0, 1], [2, 1, 0]] : List (List Nat)).getD k []).getD j 0)
theorem oo_lt (k j : Nat) : oo k j < 3 := by
  unfold oo
  rcases k with _ | _ | _ | _ | _ | _ | k <;> rcases j with _ | _ | _ | j <;> simp

theorem tri_cells {w : World} {g : Nat} {a b c : Int} {T : TypeId} (h : Blk w g [.int .i64 a, .int .i64 b, .int .i64 c] T) {j : Nat} (hj : j < 3) : w.cell? ⟨g, j, none⟩ = some (.int .i64 (tri a b c j)) := by
  rw [h.cell]
  rcases j with _ | _ | _ | j
  · rfl
  · rfl
  · rfl
  · omega
theorem oo_cells {w : World} {g k : Nat} {T : TypeId} (h : Blk w g [.int .i64 (oo k 0), .int .i64 (oo k 1), .int .i64 (oo k 2)] T) {j : Nat} (hj : j < 3) : w.cell? ⟨g, j, none⟩ = some (.int .i64 (oo k j)) := by
  rw [h.cell]
  rcases j with _ | _ | _ | j
  · rfl
  · rfl
  · rfl
  · omega

/-- what the second loop has found: a known number among those from m on -/
def anyAt (f : Nat → Bool) (m j : Nat) : Bool := (List.range j).any fun q => f (m + q)
theorem anyAt_succ (f : Nat → Bool) (m j : Nat) : anyAt f m (j + 1) = (anyAt f m j || f (m + j)) := by unfold anyAt; rw [List.range_succ, List.any_append]; simp
theorem fine_of (z : Nat → Bool) (o : Nat → Nat) (m : Nat) (hm : m ≤ 3) (h : ∀ j, j < m → z (o j) = false) (hz : m < 3 → z (o m) = true) : fineO z o = !anyAt (fun q => !z (o q)) m (3 - m) := by
  unfold fineO anyAt
  rcases m with _ | _ | _ | _ | m
  · have := hz (by omega)
    simp [List.range_succ, this]; cases z (o 1) <;> cases z (o 2) <;> simp
  · have h0 := h 0 (by omega)
    have := hz (by omega)
    simp [List.range_succ, this, h0]
  · have h0 := h 0 (by omega)
    have h1 := h 1 (by omega)
    have := hz (by omega)
    simp [List.range_succ, this, h0, h1]
  · have h0 := h 0 (by omega)
    have h1 := h 1 (by omega)
    have h2 := h 2 (by omega)
    simp [List.range_succ, h0, h1, h2]
  · omega

set_option maxRecDepth 100000 in
set_option maxHeartbeats 2000000 in
theorem front_any (w : World) (a b c : Int) (k : Nat) :
    Calls Try.prog 43 #[i3 a b c, i3 (oo k 0) (oo k 1) (oo k 2)] w fun e w' => (∃ n : Nat, e = .returned (.tuple #[.int .i64 n, .bool (fineO (fun j => tri a b c j == 0) (oo k))])) ∧ Below w.heap.size w w' := by
  unfold i3
  go_enter Try.func43, Try.ntmps43
  go_wp2_with fail
  have HB : Hid (Below w.heap.size w ((w.alloc (Obj.cells #[Value.int IntKind.i64 a, Value.int IntKind.i64 b, Value.int IntKind.i64 c] 22)).alloc (Obj.cells #[Value.int IntKind.i64 ↑(oo k 0), Value.int IntKind.i64 ↑(oo k 1), Value.int IntKind.i64 ↑(oo k 2)] 22))) := hid (((Below.refl _ _).alloc (Nat.le_refl _) _).alloc (by simp) _)
  have HT : Hid (Blk ((w.alloc (Obj.cells #[Value.int IntKind.i64 a, Value.int IntKind.i64 b, Value.int IntKind.i64 c] 22)).alloc (Obj.cells #[Value.int IntKind.i64 ↑(oo k 0), Value.int IntKind.i64 ↑(oo k 1), Value.int IntKind.i64 ↑(oo k 2)] 22)) w.heap.size [.int .i64 a, .int .i64 b, .int .i64 c] 22) := hid (by
    exact (heap_alloc_old (w.alloc _) _ (by simp)).trans (heap_alloc_new w _))
  have HO : Hid (Blk ((w.alloc (Obj.cells #[Value.int IntKind.i64 a, Value.int IntKind.i64 b, Value.int IntKind.i64 c] 22)).alloc (Obj.cells #[Value.int IntKind.i64 ↑(oo k 0), Value.int IntKind.i64 ↑(oo k 1), Value.int IntKind.i64 ↑(oo k 2)] 22)) (w.heap.size + 1) [.int .i64 (oo k 0), .int .i64 (oo k 1), .int .i64 (oo k 2)] 22) := hid (by
    have := heap_alloc_new (w.alloc (Obj.cells #[Value.int IntKind.i64 a, Value.int IntKind.i64 b, Value.int IntKind.i64 c] 22)) (Obj.cells #[Value.int IntKind.i64 ↑(oo k 0), Value.int IntKind.i64 ↑(oo k 1), Value.int IntKind.i64 ↑(oo k 2)] 22)
    rw [show (w.alloc (Obj.cells #[Value.int IntKind.i64 a, Value.int IntKind.i64 b, Value.int IntKind.i64 c] 22)).heap.size = w.heap.size + 1 by simp] at this
    exact this)
  generalize (w.alloc (Obj.cells #[Value.int IntKind.i64 a, Value.int IntKind.i64 b, Value.int IntKind.i64 c] 22)).alloc (Obj.cells #[Value.int IntKind.i64 ↑(oo k 0), Value.int IntKind.i64 ↑(oo k 1), Value.int IntKind.i64 ↑(oo k 2)] 22) = w2 at *
  go_loopw [6] (fun i wr => ∃ m : Nat, m ≤ 3 ∧ i = .int .i64 m ∧ (∀ j, j < m → (tri a b c (oo k j) == 0) = false) ∧ w2 = wr) (fun i _ => 4 - (intOf i).toNat)
  case atStart => exact ⟨0, by omega, rfl, fun j h => absurd h (Nat.not_lt_zero _), rfl⟩
  case round =>
    obtain ⟨m, hm, rfl, hall, rfl⟩ := hrel
    have ALL := hid hall
    clear hall
    by_cases hlt : m < 3
    · have hc1 := oo_cells HO.out hlt
      have hol := oo_lt k m
      have hc2 := tri_cells HT.out hol
      by_cases hz : (tri a b c (oo k m) == 0) = true
      · have HZ := hid hz
        have hz' : (tri a b c (oo k m) != 0) = false := by simpa using hz
        clear hz
        have HF := hid (fine_of (fun j => tri a b c j == 0) (oo k) m hm ALL.out (fun _ => HZ.out))
        obtain rfl | rfl | rfl : m = 0 ∨ m = 1 ∨ m = 2 := by omega
        all_goals (go_wp2_with fail)
        · skip
          go_loopw [7, 9, 25] (fun gp v i wr => ∃ j : Nat, j ≤ 3 ∧ i = .int .i64 j ∧ gp = .bool (anyAt (fun q => !(tri a b c (oo k q) == 0)) 0 j) ∧ w2 = wr) (fun _ _ i _ => 4 - (intOf i).toNat)
          case atStart => exact ⟨0, by omega, rfl, rfl, rfl⟩
          case round =>
            obtain ⟨j, hj, rfl, rfl, rfl⟩ := hrel
            by_cases hlj : j < 3
            · have hc3 := oo_cells HO.out (j := j) (by omega)
              have hol3 := oo_lt k j
              have hc4 := tri_cells HT.out hol3
              have AS := hid (anyAt_succ (fun q => !(tri a b c (oo k q) == 0)) 0 j)
              generalize hga : anyAt (fun q => !(tri a b c (oo k q) == 0)) 0 j = ga at *
              have HGA := hid hga
              clear hga
              have hzz : (tri a b c (oo k (0 + j)) != 0) = !(tri a b c (oo k (0 + j)) == 0) := rfl
              cases ga
              · go_wp2_with fail
                go_roundw
                case rel => exact ⟨j + 1, by omega, by go_num, by rw [AS.out]; simp [bne], trivial⟩
                case measure => simp [intOf]; omega
              · go_wp2_with fail
                go_roundw
                case rel => exact ⟨j + 1, by omega, by go_num, by rw [AS.out]; simp [bne], trivial⟩
                case measure => simp [intOf]; omega
            · obtain rfl : j = 3 := by omega
              go_wp2_with fail
              go_ret2
              exact ⟨⟨0, by rw [HF.out]; rfl⟩, HB.out⟩
        · skip
          go_loopw [7, 9, 25] (fun gp v i wr => ∃ j : Nat, j ≤ 2 ∧ i = .int .i64 j ∧ gp = .bool (anyAt (fun q => !(tri a b c (oo k q) == 0)) 1 j) ∧ w2 = wr) (fun _ _ i _ => 4 - (intOf i).toNat)
          case atStart => exact ⟨0, by omega, rfl, rfl, rfl⟩
          case round =>
            obtain ⟨j, hj, rfl, rfl, rfl⟩ := hrel
            by_cases hlj : j < 2
            · have hc3 := oo_cells HO.out (j := 1 + j) (by omega)
              have hol3 := oo_lt k (1 + j)
              have hc4 := tri_cells HT.out hol3
              have AS := hid (anyAt_succ (fun q => !(tri a b c (oo k q) == 0)) 1 j)
              generalize hga : anyAt (fun q => !(tri a b c (oo k q) == 0)) 1 j = ga at *
              have HGA := hid hga
              clear hga
              have hzz : (tri a b c (oo k (1 + j)) != 0) = !(tri a b c (oo k (1 + j)) == 0) := rfl
              cases ga
              · go_wp2_with fail
                go_roundw
                case rel => exact ⟨j + 1, by omega, by go_num, by rw [AS.out]; simp [bne], trivial⟩
                case measure => simp [intOf]; omega
              · go_wp2_with fail
                go_roundw
                case rel => exact ⟨j + 1, by omega, by go_num, by rw [AS.out]; simp [bne], trivial⟩
                case measure => simp [intOf]; omega
            · obtain rfl : j = 2 := by omega
              go_wp2_with fail
              go_ret2
              exact ⟨⟨1, by rw [HF.out]; rfl⟩, HB.out⟩
        · skip
          go_loopw [7, 9, 25] (fun gp v i wr => ∃ j : Nat, j ≤ 1 ∧ i = .int .i64 j ∧ gp = .bool (anyAt (fun q => !(tri a b c (oo k q) == 0)) 2 j) ∧ w2 = wr) (fun _ _ i _ => 4 - (intOf i).toNat)
          case atStart => exact ⟨0, by omega, rfl, rfl, rfl⟩
          case round =>
            obtain ⟨j, hj, rfl, rfl, rfl⟩ := hrel
            by_cases hlj : j < 1
            · have hc3 := oo_cells HO.out (j := 2 + j) (by omega)
              have hol3 := oo_lt k (2 + j)
              have hc4 := tri_cells HT.out hol3
              have AS := hid (anyAt_succ (fun q => !(tri a b c (oo k q) == 0)) 2 j)
              generalize hga : anyAt (fun q => !(tri a b c (oo k q) == 0)) 2 j = ga at *
              have HGA := hid hga
              clear hga
              have hzz : (tri a b c (oo k (2 + j)) != 0) = !(tri a b c (oo k (2 + j)) == 0) := rfl
              cases ga
              · go_wp2_with fail
                go_roundw
                case rel => exact ⟨j + 1, by omega, by go_num, by rw [AS.out]; simp [bne], trivial⟩
                case measure => simp [intOf]; omega
              · go_wp2_with fail
                go_roundw
                case rel => exact ⟨j + 1, by omega, by go_num, by rw [AS.out]; simp [bne], trivial⟩
                case measure => simp [intOf]; omega
            · obtain rfl : j = 1 := by omega
              go_wp2_with fail
              go_ret2
              exact ⟨⟨2, by rw [HF.out]; rfl⟩, HB.out⟩
      · have HZ := hid (Bool.eq_false_iff.2 hz)
        have hz' : (tri a b c (oo k m) != 0) = true := by simpa using hz
        clear hz
        go_wp2_with fail
        go_roundw
        case rel => exact ⟨m + 1, by omega, by go_num, fun j hj => if e : j = m then e ▸ HZ.out else ALL.out j (by omega), trivial⟩
        case measure => simp [intOf]; omega
    · obtain rfl : m = 3 := by omega
      have HF := hid (fine_of (fun j => tri a b c j == 0) (oo k) 3 hm ALL.out (fun h => absurd h (by omega)))
      go_wp2_with fail
      go_loopw [7, 9, 25] (fun gp v i wr => ∃ j : Nat, j ≤ 0 ∧ i = .int .i64 j ∧ gp = .bool (anyAt (fun q => !(tri a b c (oo k q) == 0)) 3 j) ∧ w2 = wr) (fun _ _ i _ => 4 - (intOf i).toNat)
      case atStart => exact ⟨0, by omega, rfl, rfl, rfl⟩
      case round =>
        obtain ⟨j, hj, rfl, rfl, rfl⟩ := hrel
        obtain rfl : j = 0 := by omega
        go_wp2_with fail
        go_ret2
        exact ⟨⟨3, by rw [HF.out]; rfl⟩, HB.out⟩

/-- the six orders, as cells -/
def ordCells : List Value := [.int .i64 0, .int .i64 1, .int .i64 2, .int .i64 0, .int .i64 2, .int .i64 1, .int .i64 1, .int .i64 0, .int .i64 2, .int .i64 1, .int .i64 2, .int .i64 0, .int .i64 2, .int .i64 0, .int .i64 1, .int .i64 2, .int .i64 1, .int .i64 0]
theorem ord_cell {k j : Nat} (hk : k < 6) (hj : j < 3) : ordCells[k * 3 + j]? = some (.int .i64 (oo k j)) := by
  rcases k with _ | _ | _ | _ | _ | _ | k <;> first | omega | (rcases j with _ | _ | _ | j <;> first | omega | rfl)

theorem three_cells {w : World} {g : Nat} {x0 x1 x2 : Value} {T : TypeId} (h : Blk w g [x0, x1, x2] T) : w.cell? ⟨g, 0, none⟩ = some x0 ∧ w.cell? ⟨g, 1, none⟩ = some x1 ∧ w.cell? ⟨g, 2, none⟩ = some x2 := by
  refine ⟨?_, ?_, ?_⟩ <;> rw [h.cell] <;> rfl

set_option maxRecDepth 100000 in
theorem is_any (w : World) (g : Nat) (a b c : Int) (k : Nat) (h : Blk w g [.int .i64 a, .int .i64 b, .int .i64 c] 22) :
    Calls Try.prog 42 #[i3 (oo k 0) (oo k 1) (oo k 2), .pointer (some ⟨g, 0, none⟩)] w fun e w' => e = .returned (.bool (fineO (fun j => tri a b c j == 0) (oo k))) ∧ Below w.heap.size w w' := by
  obtain ⟨h0, h1, h2⟩ := three_cells h
  have hlt := h.lt
  have HF := hid (fun w' => front_any w' a b c k)
  clear h
  unfold i3 at HF ⊢
  go_enter Try.func42, Try.ntmps42
  go_wp2_with fail
  refine (HF.out _).mono ?_
  rintro e1 w1 ⟨⟨n, rfl⟩, hb⟩
  have HB := hid hb
  clear hb h0 h1 h2 hlt
  go_wp2_with fail
  go_ret
  exact ⟨rfl, ((Below.refl _ _).alloc (Nat.le_refl _) _).trans (HB.out.mono (by simp))⟩

set_option maxRecDepth 100000 in
theorem orders_any (w : World) : Calls Try.prog 40 #[] w fun e w' => e = .returned (.agg ordCells.toArray) ∧ Below w.heap.size w w' := by
  go_enter Try.func40, Try.ntmps40
  go_wp2_with fail
  refine bodyPost_ret (results_cell_row rfl _ _ w.heap.size 25 ordCells.toArray _ _ rfl (heap_alloc_new w _) Try.underlying25 rfl (by kernel_rfl)) rfl ?_
  exact ⟨rfl, (Below.refl _ _).alloc (Nat.le_refl _) _⟩

set_option maxRecDepth 100000 in
theorem refOrders_any (w : World) : Calls Try.prog 14 #[] w fun e w' => e = .returned (.agg ordCells.toArray) ∧ Below w.heap.size w w' := by
  go_enter Try.func14, Try.ntmps14
  go_wp2_with fail
  refine bodyPost_ret (results_cell_row rfl _ _ w.heap.size 25 ordCells.toArray _ _ rfl (heap_alloc_new w _) Try.underlying25 rfl (by kernel_rfl)) rfl ?_
  exact ⟨rfl, (Below.refl _ _).alloc (Nat.le_refl _) _⟩

/-- the first order that has it so, from k on -/
def firstO (z : Nat → Bool) : Nat → Nat → Option Nat
  | 0, _ => none
  | n + 1, k => if fineO z (oo k) = true then some k else firstO z n (k + 1)
def whichO (z : Nat → Bool) : Nat := (firstO z 6 0).getD 0

def optI (o : Option Nat) : Int := match o with | some k => (k : Int) | none => -1
theorem firstO_step (z : Nat → Bool) (n k : Nat) : firstO z (n + 1) k = if fineO z (oo k) = true then some k else firstO z n (k + 1) := rfl
theorem ordInfo0 : (Try.prog.info? 25).map (·.zero) = some (some (.agg (List.replicate 18 (.int .i64 0)).toArray)) := by kernel_rfl
theorem ordInfo1 : (Try.prog.info? 25).map (·.size) = some 18 := by kernel_rfl
theorem triInfo1 : (Try.prog.info? 22).map (·.size) = some 3 := by kernel_rfl
theorem ordCells_one : ∀ u ∈ ordCells, u.oneCell' = true := by
  have h : ordCells.all (·.oneCell') = true := by decide
  exact List.all_eq_true.1 h
theorem ord_row {k : Nat} (hk : k < 6) : (ordCells.drop (k * 3)).take 3 = [.int .i64 (oo k 0), .int .i64 (oo k 1), .int .i64 (oo k 2)] := by
  rcases k with _ | _ | _ | _ | _ | _ | k <;> first | omega | rfl

set_option maxRecDepth 100000 in
set_option maxHeartbeats 2000000 in
theorem index_any (w : World) (g h : Nat) (a b c : Int) (H : Blk w g [.int .i64 a, .int .i64 b, .int .i64 c] 22) (HO : Blk w h ordCells 25) :
    Calls Try.prog 41 #[.slice (some ⟨h, 0, none⟩) 6 6, .func (.func 42) #[] #[.pointer (some ⟨g, 0, none⟩)]] w fun e w' => e = .returned (.int .i64 (optI (firstO (fun j => tri a b c j == 0) 6 0))) ∧ Below w.heap.size w w' := by
  have H1 := hid H
  have H2 := hid HO
  clear H HO
  generalize hz : (fun j => tri a b c j == 0) = z
  have HZ := hid hz
  clear hz
  go_enter Try.func41, Try.ntmps41
  go_wp2_with fail
  go_loopw [5, 8] (fun v i wr => ∃ k : Nat, k ≤ 6 ∧ i = .int .i64 k ∧ firstO z 6 0 = firstO z (6 - k) k ∧ Below w.heap.size w wr) (fun _ i _ => 7 - (intOf i).toNat)
  case atStart => exact ⟨0, by omega, rfl, rfl, Below.refl _ _⟩
  case round =>
    obtain ⟨k, hk, rfl, hf, hb⟩ := hrel
    have HB := hid hb
    have HF := hid hf
    clear hf hb
    by_cases hlt : k < 6
    · have K1 := hid (H1.out.chg (Chg.new HB.out (fun _ => False)) (fun h => h))
      have K2 := hid (H2.out.chg (Chg.new HB.out (fun _ => False)) (fun h => h))
      have HI := hid (HZ.out ▸ is_any wr g a b c k K1.out)
      go_wp2_with (refine wpList_load_arr rfl 22 _ rfl _ Try.underlying22 rfl 3 triInfo1 h (k * 3) 25 ordCells rfl K2.out (by show _ ≤ 18; omega) _ (ord_row hlt) ?_)
      refine HI.out.mono ?_
      rintro e1 w2 ⟨rfl, hb2⟩
      have B2 := hid (HB.out.trans (hb2.mono HB.out.size))
      have FS := hid (firstO_step z (6 - (k + 1)) k)
      rw [show 6 - (k + 1) + 1 = 6 - k by omega] at FS
      clear hb2
      generalize hfi : fineO z (oo k) = fi at *
      cases fi
      · go_wp2_with fail
        go_roundw
        case rel => exact ⟨k + 1, by omega, by go_num, by rw [HF.out, FS.out]; rfl, B2.out⟩
        case measure => simp [intOf]; omega
      · go_wp2_with fail
        go_ret
        exact ⟨by rw [HF.out, FS.out]; rfl, B2.out⟩
    · obtain rfl : k = 6 := by omega
      go_wp2_with fail
      go_ret
      exact ⟨by rw [HF.out]; rfl, HB.out⟩

set_option maxRecDepth 100000 in
set_option maxHeartbeats 2000000 in
theorem hWhich_any (w : World) (a b c : Int) :
    Calls Try.prog 12 #[i3 a b c] w fun e w' => e = .returned (.int .i64 (whichO (fun j => tri a b c j == 0))) ∧ Below w.heap.size w w' := by
  unfold i3
  go_enter Try.func12, Try.ntmps12
  go_wp2_with fail
  have HB0 : Hid (Below w.heap.size w (w.alloc (Obj.cells #[Value.int IntKind.i64 a, Value.int IntKind.i64 b, Value.int IntKind.i64 c] 22))) := hid ((Below.refl _ _).alloc (Nat.le_refl _) _)
  have HT0 : Hid (Blk (w.alloc (Obj.cells #[Value.int IntKind.i64 a, Value.int IntKind.i64 b, Value.int IntKind.i64 c] 22)) w.heap.size [.int .i64 a, .int .i64 b, .int .i64 c] 22) := hid (heap_alloc_new w _)
  generalize w.alloc (Obj.cells #[Value.int IntKind.i64 a, Value.int IntKind.i64 b, Value.int IntKind.i64 c] 22) = w0 at *
  refine (orders_any _).mono ?_
  rintro e1 w1 ⟨rfl, hb⟩
  have HB := hid (HB0.out.trans (hb.mono HB0.out.size))
  have HT := hid (HT0.out.chg (Chg.new hb (fun _ => False)) (fun h => h))
  clear hb
  go_wp2_with (first
    | (refine wpList_alloc_z rfl 25 rfl _ ordInfo0 ?_; intro w2 hw2 hb2 hl2; have W2 := hid hw2; have B2 := hid hb2; clear hw2 hb2)
    | (refine wpList_store_arr rfl 25 _ _ rfl 18 ordInfo1 _ 0 25 _ ordCells rfl rfl W2.out rfl (Nat.le_refl _) ordCells_one ?_; intro w3 hw3 hc3 hs3; have W3 := hid hw3; have C3 := hid hc3; clear hw3 hc3))
  have B3 : Hid (Below w.heap.size w w3) := hid ((HB.out.trans (B2.out.mono HB.out.size)).trans (C3.out.below (fun k hk => by rw [hk]; exact HB.out.size) (Nat.le_trans HB.out.size B2.out.size)))
  have T3 := hid ((HT.out.chg (Chg.new B2.out (fun _ => False)) (fun h => h)).chg C3.out (fun h => by have := HT.out.lt; omega))
  have O3 : Hid (Blk w3 w1.heap.size ordCells 25) := hid W3.out
  refine (index_any w3 _ _ a b c T3.out O3.out).mono ?_
  rintro e1 w4 ⟨rfl, hb4⟩
  have B4 := hid (B3.out.trans (hb4.mono B3.out.size))
  clear hb4
  have HWO := hid (show whichO (fun j => tri a b c j == 0) = (firstO (fun j => tri a b c j == 0) 6 0).getD 0 from rfl)
  generalize firstO (fun j => tri a b c j == 0) 6 0 = o at *
  rcases o with _ | k
  · simp only [optI]
    go_wp2_with fail
    go_ret
    exact ⟨by rw [HWO.out]; rfl, B4.out⟩
  · simp only [optI]
    have hk : ¬ (k : Int) < 0 := by omega
    rcases Nat.eq_zero_or_pos k with rfl | hk2
    · go_wp2_with fail
      go_ret
      exact ⟨by rw [HWO.out]; rfl, B4.out⟩
    · have hk3 : ¬ (k : Int) ≤ 0 := by omega
      have hk4 : (0 : Int) < (k : Int) := by omega
      have hk5 : max (k : Int) 0 = (k : Int) := by omega
      go_wp2_with fail
      go_ret
      exact ⟨by rw [HWO.out]; rfl, B4.out⟩

/-- what the document's loop knows behind j numbers: was an open one; is all well -/
def goO (z : Nat → Bool) (o : Nat → Nat) : Nat → Bool × Bool
  | 0 => (false, true)
  | j + 1 => if z (o j) then (true, (goO z o j).2) else ((goO z o j).1, !(goO z o j).1 && (goO z o j).2)
theorem goO_succ (z : Nat → Bool) (o : Nat → Nat) (j : Nat) : goO z o (j + 1) = if z (o j) then (true, (goO z o j).2) else ((goO z o j).1, !(goO z o j).1 && (goO z o j).2) := rfl
theorem goO_fine (z : Nat → Bool) (o : Nat → Nat) : (goO z o 3).2 = fineO z o := by
  unfold fineO
  simp only [goO]
  cases z (o 0) <;> cases z (o 1) <;> cases z (o 2) <;> rfl

set_option maxRecDepth 100000 in
set_option maxHeartbeats 4000000 in
theorem rWhich_any (w : World) (a b c : Int) :
    Calls Try.prog 13 #[i3 a b c] w fun e w' => e = .returned (.int .i64 (whichO (fun j => tri a b c j == 0))) ∧ Below w.heap.size w w' := by
  unfold i3
  go_enter Try.func13, Try.ntmps13
  go_wp2_with fail
  have HB0 : Hid (Below w.heap.size w (w.alloc (Obj.cells #[Value.int IntKind.i64 a, Value.int IntKind.i64 b, Value.int IntKind.i64 c] 22))) := hid ((Below.refl _ _).alloc (Nat.le_refl _) _)
  have HT0 : Hid (Blk (w.alloc (Obj.cells #[Value.int IntKind.i64 a, Value.int IntKind.i64 b, Value.int IntKind.i64 c] 22)) w.heap.size [.int .i64 a, .int .i64 b, .int .i64 c] 22) := hid (heap_alloc_new w _)
  generalize w.alloc (Obj.cells #[Value.int IntKind.i64 a, Value.int IntKind.i64 b, Value.int IntKind.i64 c] 22) = w0 at *
  refine (refOrders_any _).mono ?_
  rintro e1 w1 ⟨rfl, hb⟩
  have HB := hid (HB0.out.trans (hb.mono HB0.out.size))
  have HT := hid (HT0.out.chg (Chg.new hb (fun _ => False)) (fun h => h))
  clear hb
  go_wp2_with (first
    | (refine wpList_alloc_z rfl 25 rfl _ ordInfo0 ?_; intro w2 hw2 hb2 hl2; have W2 := hid hw2; have B2 := hid hb2; clear hw2 hb2)
    | (refine wpList_store_arr rfl 25 _ _ rfl 18 ordInfo1 _ 0 25 _ ordCells rfl rfl W2.out rfl (Nat.le_refl _) ordCells_one ?_; intro w3 hw3 hc3 hs3; have W3 := hid hw3; have C3 := hid hc3; clear hw3 hc3))
  have B3 : Hid (Below w.heap.size w w3) := hid ((HB.out.trans (B2.out.mono HB.out.size)).trans (C3.out.below (fun k hk => by rw [hk]; exact HB.out.size) (Nat.le_trans HB.out.size B2.out.size)))
  have T3 := hid ((HT.out.chg (Chg.new B2.out (fun _ => False)) (fun h => h)).chg C3.out (fun h => by have := HT.out.lt; omega))
  have O3 : Hid (Blk w3 w1.heap.size ordCells 25) := hid W3.out
  clear W2 W3 C3 B2 HT HB HT0 HB0 hs3 hl2
  have HWO := hid (show whichO (fun j => tri a b c j == 0) = (firstO (fun j => tri a b c j == 0) 6 0).getD 0 from rfl)
  generalize hz : (fun j => tri a b c j == 0) = z at *
  have HZ := hid hz
  clear hz
  go_loopw [2, 4, 5, 6, 7] (fun r i g o j wr => ∃ k : Nat, k ≤ 6 ∧ i = .int .i64 k ∧ firstO z 6 0 = firstO z (6 - k) k ∧ w3 = wr) (fun _ i _ _ _ _ => 7 - (intOf i).toNat)
  case atStart => exact ⟨0, by omega, rfl, rfl, rfl⟩
  case round =>
    obtain ⟨k, hk, rfl, hf, rfl⟩ := hrel
    have HF := hid hf
    clear hf
    by_cases hlt : k < 6
    · go_wp2_with fail
      go_loopw [5, 6, 7] (fun g o j wr => ∃ m : Nat, m ≤ 3 ∧ j = .int .i64 m ∧ g = .bool (goO z (oo k) m).1 ∧ o = .bool (goO z (oo k) m).2 ∧ w3 = wr) (fun _ _ j _ => 4 - (intOf j).toNat)
      case atStart => exact ⟨0, by omega, rfl, rfl, rfl, rfl⟩
      case round =>
        obtain ⟨m, hm, rfl, rfl, rfl, rfl⟩ := hrel
        by_cases hlm : m < 3
        · have hc1 : w3.cell? ⟨w1.heap.size, k * 3 + m, none⟩ = some (.int .i64 (oo k m)) := (O3.out.cell _).trans (ord_cell hlt hlm)
          have hol := oo_lt k m
          have hc2 := tri_cells T3.out hol
          have GS := hid (goO_succ z (oo k) m)
          have hzz : (tri a b c (oo k m) == 0) = z (oo k m) := by rw [← HZ.out]
          generalize goO z (oo k) m = q at *
          obtain ⟨q1, q2⟩ := q
          cases hzo : z (oo k m)
          all_goals
            rw [hzo] at hzz
            have HZO := hid hzo
            clear hzo
          · cases q1
            · go_wp2_with fail

              go_roundw
              case rel => exact ⟨m + 1, by omega, by go_num, by rw [GS.out, HZO.out]; rfl, by rw [GS.out, HZO.out]; rfl, trivial⟩
              case measure => simp [intOf]; omega
            · go_wp2_with fail
              go_roundw
              case rel => exact ⟨m + 1, by omega, by go_num, by rw [GS.out, HZO.out]; rfl, by rw [GS.out, HZO.out]; rfl, trivial⟩
              case measure => simp [intOf]; omega
          · go_wp2_with fail
            go_roundw
            case rel => exact ⟨m + 1, by omega, by go_num, by rw [GS.out, HZO.out]; rfl, by rw [GS.out, HZO.out]; rfl, trivial⟩
            case measure => simp [intOf]; omega
        · obtain rfl : m = 3 := by omega
          have FS := hid (firstO_step z (6 - (k + 1)) k)
          rw [show 6 - (k + 1) + 1 = 6 - k by omega, ← goO_fine] at FS
          generalize goO z (oo k) 3 = q at *
          obtain ⟨q1, q2⟩ := q
          cases q2
          · go_wp2_with fail
            go_roundw
            case rel => exact ⟨k + 1, by omega, by go_num, by rw [HF.out, FS.out]; rfl, trivial⟩
            case measure => simp [intOf]; omega
          · go_wp2_with fail
            go_ret
            exact ⟨by rw [HZ.out, HWO.out, HF.out, FS.out]; rfl, B3.out⟩
    · obtain rfl : k = 6 := by omega
      go_wp2_with fail
      go_ret
      exact ⟨by rw [HZ.out, HWO.out, HF.out]; rfl, B3.out⟩
end Go.Proofs.Ytiphekepglihlaa
