/- triadlaw4: Do: an act at both. -/
import Derived.Test.YtiphekepglihlaaDuo
namespace Go.Proofs.Ytiphekepglihlaa
open Go.RowKit Go.Maps
set_option linter.unusedVariables false

set_option maxRecDepth 100000 in
set_option maxHeartbeats 4000000 in
theorem do_begin {w : World} {p d x n : Nat} {F G : Nat → Prop} {s : DS} {S T : AS} {op : Bool} {N : Nat} {S2 T2 : AS} {op2 : Bool} {M : Nat} (h : Duo w p d x n F G s S T op N S2 T2 op2 M) (hn : 403 ≤ n ∧ n ≤ 3000) (hN : N ≤ 398) (hM : M ≤ 900000)
    (kind num : Int) (pb : Option Addr) (cb : Nat) (l : List UInt8) (hb : Bs w (.slice pb l.length cb) l) (hl : l.length ≤ 600) (hbo : 0 < l.length → ∀ g, Value.ownBlock (.slice pb l.length cb) = some g → ¬ (F g ∨ G g)) (hw : (Lit.int .i64 num).wf = true) (at_ : Int) (hat : at_ = num % ((n : Int) - 401 + 2) - 1) (hm : kind % 14 = 0) :
    Calls Try.prog 31 #[.agg #[.int .i64 kind, .int .i64 num, .slice pb l.length cb], .pointer (some ⟨p, 0, none⟩), .pointer (some ⟨x, 0, none⟩)] w fun e w' => ∃ r , e = .returned (.bool r) ∧ (T2 = T → op2 = op → r = true) ∧
      DuoTo w p d x n F G s S T true (N + 1) S2 T2 true (M + 6000) w' := by
  have H := hid h
  have HB := hid hb
  have HBO := hid hbo
  have i0 := i64_of_wf hw
  have hq0 : 0 ≤ num % ((n : Int) - 401 + 2) := Int.emod_nonneg _ (by omega)
  have hq1 : num % ((n : Int) - 401 + 2) < (n : Int) - 401 + 2 := Int.emod_lt_of_pos _ (by omega)
  have WA := hid (fun w => within_any w num ((n : Int) - 401 + 2) (by omega) (by omega))
  have WK := hid (fun w => within_any w kind 14 (by omega) (by omega))
  have hwa : IntKind.i64.wrap ((n : Int) - 401 + 2) = (n : Int) - 401 + 2 := i64_small (by omega) (by omega)
  have hwb : IntKind.i64.wrap (num % ((n : Int) - 401 + 2) - 1) = num % ((n : Int) - 401 + 2) - 1 := i64_small (by omega) (by omega)
  have hx := h.rf.pages
  have hxl : x < w.heap.size := World.block_lt_of_cell? w ⟨x, 0, none⟩ hx
  have HF := hid h.lt
  have HAT := hid hat
  clear h hb hbo hat
  go_enter Try.func31, Try.ntmps31
  go_wp2_with fail
  have hbx := heap_alloc_new w (Obj.cells [Value.int .i64 kind, .int .i64 num, .slice pb l.length cb].toArray 53)
  have hba : Below w.heap.size w (w.alloc (Obj.cells [Value.int .i64 kind, .int .i64 num, .slice pb l.length cb].toArray 53)) := (Below.refl _ _).alloc (Nat.le_refl _) _
  change Code.wp _ _ _ _ (w.alloc (Obj.cells [Value.int .i64 kind, .int .i64 num, .slice pb l.length cb].toArray 53))
  generalize w.alloc (Obj.cells [Value.int .i64 kind, .int .i64 num, .slice pb l.length cb].toArray 53) = w0 at *
  have BX := hid (show Blk w0 w.heap.size [Value.int .i64 kind, .int .i64 num, .slice pb l.length cb] 53 from hbx)
  have B0 := hid hba
  have hx0 : w0.cell? ⟨x, 0, none⟩ = some (.int .i64 ((n : Int) - 401)) := (hba.cell (p := ⟨x, 0, none⟩) hxl).trans hx
  clear hbx hba hx
  have k1 : w0.drew.cell? ⟨w.heap.size, 1, none⟩ = some (.int .i64 num) := BX.out.cell 1
  have k2 : w0.drew.cell? ⟨x, 0, none⟩ = some (.int .i64 ((n : Int) - 401)) := hx0
  refine wp_region_plan (fun w' => w'.cell? ⟨w.heap.size, 1, none⟩ = some (.int .i64 num) ∧ w'.cell? ⟨x, 0, none⟩ = some (.int .i64 ((n : Int) - 401))) (fun j => !([7, 8, 9].contains j)) (fun j => [7, 8, 9].contains j)
    (.of [0, 1, 2, 3, 4, 5, 6, 7, 8, 9]) (by kernel_rfl) (by kernel_rfl) rfl (by kernel_rfl) (by kernel_rfl) ⟨k1, k2⟩ ?_
  iterate 7 (apply wpPlan_val; (case ho => rfl); (case hst => rfl); (case hw => rfl); (case hv => intro w' hS; obtain ⟨hS1, hS2⟩ := hS; go_simp; first | done | rfl); intro K hK; go_simp; refine hK _ ?_; clear hK K)
  refine wpPlan_list rfl rfl rfl (fun K hK => ?_)
  refine wpList_step (fun K2 hK2 => ?_)
  go_simp
  refine (WA.out _).mono ?_
  rintro e1 wx ⟨rfl, hwx⟩
  subst hwx
  go_simp
  refine hK2 _ _ ?_
  clear hK2 K2
  simp only [wpList]
  refine hK _ _ (fun h => by cases h) ?_
  clear hK K
  iterate 2 (refine wpPlan_list rfl rfl rfl (fun K hK => ?_); refine wpList_step (fun K2 hK2 => ?_); go_simp; refine hK2 _ _ ?_; clear hK2 K2; simp only [wpList]; refine hK _ _ (fun h => by cases h) ?_; clear hK K)
  refine wpPlan_nil ?_
  simp only [Qn]
  have hat0 : -1 ≤ at_ := by have := HAT.out; omega
  have hat1 : at_ ≤ (n : Int) := by have := HAT.out; omega
  rw [← HAT.out]
  have BX1 := hid (show Blk w0.drew w.heap.size [Value.int .i64 kind, .int .i64 num, .slice pb l.length cb] 53 from BX.out.chg (Chg.drewN (fun _ => False) w0 1) (fun h => h))
  have D1 := hid (H.out.new' (show Below w.heap.size w w0.drew from below_drewN B0.out 1))
  have B1 := hid (show Below w.heap.size w w0.drew from below_drewN B0.out 1)
  have BS1 := hid (HB.out.new B1.out)
  clear hq0 hq1 WA hwa hwb k1 k2 hx0 BX B0
  have kk : w0.drew.cell? ⟨w.heap.size, 0, none⟩ = some (.int .i64 kind) := BX1.out.cell 0
  have hw1l : w.heap.size < w0.drew.heap.size := BX1.out.lt
  generalize w0.drew = w1 at *
  go_wp2_with fail
  refine (WK.out _).mono ?_
  rintro e2 wx ⟨rfl, hwx⟩
  subst hwx
  clear WK kk
  all_goals
    rw [hm]
    clear hm
    go_wp2_with fail
    refine (D1.out.pg.begin).mono ?_
    rintro e5 w5 ⟨rfl, hto5⟩
    obtain ⟨F5, G5, N5, d5, n5, c5, f5⟩ := D1.out.left hto5
    have D5 := hid d5
    have C5 := hid c5
    have FF5 := hid f5
    have N5' := hid n5
    clear hto5 d5 c5 f5 n5
    generalize hv1 : (if op = true then (12 : Int) else 0) = v1
    have V1 := hid hv1
    clear hv1
    go_wp2_with fail
    refine (D5.out.rf.begin (by omega)).mono ?_
    rintro e6 w6 ⟨rfl, hto6⟩
    obtain ⟨F6, G6, N6, d6, n6, c6, f6⟩ := D5.out.right hto6
    have DR := hid (show DuoTo _ _ _ _ _ _ _ _ _ _ _ _ _ _ _ (M + 6000) _ from ⟨F6, G6, N6, ⟨d6.pg, d6.rf.more (by omega), d6.dis⟩, n6, c6, f6⟩)
    clear hto6 d6 n6 c6 f6
    generalize hv2 : (if op2 = true then (12 : Int) else 0) = v2
    have V2 := hid hv2
    clear hv2
    go_wp2_with fail
    go_ret
    exact ⟨v1 == v2, rfl, fun e1 e2 => by rw [← V1.out, ← V2.out]; simp [e2], DuoTo.new B1.out (DuoTo.trans C5.out FF5.out N5'.out DR.out)⟩

set_option maxRecDepth 100000 in
set_option maxHeartbeats 4000000 in
theorem do_new {w : World} {p d x n : Nat} {F G : Nat → Prop} {s : DS} {S T : AS} {op : Bool} {N : Nat} {S2 T2 : AS} {op2 : Bool} {M : Nat} (h : Duo w p d x n F G s S T op N S2 T2 op2 M) (hn : 403 ≤ n ∧ n ≤ 3000) (hN : N ≤ 398) (hM : M ≤ 900000)
    (kind num : Int) (pb : Option Addr) (cb : Nat) (l : List UInt8) (hb : Bs w (.slice pb l.length cb) l) (hl : l.length ≤ 600) (hbo : 0 < l.length → ∀ g, Value.ownBlock (.slice pb l.length cb) = some g → ¬ (F g ∨ G g)) (hw : (Lit.int .i64 num).wf = true) (at_ : Int) (hat : at_ = num % ((n : Int) - 401 + 2) - 1) (hm : kind % 14 = 1 ∨ kind % 14 = 2 ∨ kind % 14 = 3) :
    Calls Try.prog 31 #[.agg #[.int .i64 kind, .int .i64 num, .slice pb l.length cb], .pointer (some ⟨p, 0, none⟩), .pointer (some ⟨x, 0, none⟩)] w fun e w' => ∃ r , e = .returned (.bool r) ∧ (T2 = T → op2 = op → r = true) ∧
      DuoTo w p d x n F G s S (newO n op T).2.2 op (N + 1) S2 (newO n op2 T2).2.2 op2 (M + 6000) w' := by
  have H := hid h
  have HB := hid hb
  have HBO := hid hbo
  have i0 := i64_of_wf hw
  have hq0 : 0 ≤ num % ((n : Int) - 401 + 2) := Int.emod_nonneg _ (by omega)
  have hq1 : num % ((n : Int) - 401 + 2) < (n : Int) - 401 + 2 := Int.emod_lt_of_pos _ (by omega)
  have WA := hid (fun w => within_any w num ((n : Int) - 401 + 2) (by omega) (by omega))
  have WK := hid (fun w => within_any w kind 14 (by omega) (by omega))
  have hwa : IntKind.i64.wrap ((n : Int) - 401 + 2) = (n : Int) - 401 + 2 := i64_small (by omega) (by omega)
  have hwb : IntKind.i64.wrap (num % ((n : Int) - 401 + 2) - 1) = num % ((n : Int) - 401 + 2) - 1 := i64_small (by omega) (by omega)
  have hx := h.rf.pages
  have hxl : x < w.heap.size := World.block_lt_of_cell? w ⟨x, 0, none⟩ hx
  have HF := hid h.lt
  have HAT := hid hat
  clear h hb hbo hat
  go_enter Try.func31, Try.ntmps31
  go_wp2_with fail
  have hbx := heap_alloc_new w (Obj.cells [Value.int .i64 kind, .int .i64 num, .slice pb l.length cb].toArray 53)
  have hba : Below w.heap.size w (w.alloc (Obj.cells [Value.int .i64 kind, .int .i64 num, .slice pb l.length cb].toArray 53)) := (Below.refl _ _).alloc (Nat.le_refl _) _
  change Code.wp _ _ _ _ (w.alloc (Obj.cells [Value.int .i64 kind, .int .i64 num, .slice pb l.length cb].toArray 53))
  generalize w.alloc (Obj.cells [Value.int .i64 kind, .int .i64 num, .slice pb l.length cb].toArray 53) = w0 at *
  have BX := hid (show Blk w0 w.heap.size [Value.int .i64 kind, .int .i64 num, .slice pb l.length cb] 53 from hbx)
  have B0 := hid hba
  have hx0 : w0.cell? ⟨x, 0, none⟩ = some (.int .i64 ((n : Int) - 401)) := (hba.cell (p := ⟨x, 0, none⟩) hxl).trans hx
  clear hbx hba hx
  have k1 : w0.drew.cell? ⟨w.heap.size, 1, none⟩ = some (.int .i64 num) := BX.out.cell 1
  have k2 : w0.drew.cell? ⟨x, 0, none⟩ = some (.int .i64 ((n : Int) - 401)) := hx0
  refine wp_region_plan (fun w' => w'.cell? ⟨w.heap.size, 1, none⟩ = some (.int .i64 num) ∧ w'.cell? ⟨x, 0, none⟩ = some (.int .i64 ((n : Int) - 401))) (fun j => !([7, 8, 9].contains j)) (fun j => [7, 8, 9].contains j)
    (.of [0, 1, 2, 3, 4, 5, 6, 7, 8, 9]) (by kernel_rfl) (by kernel_rfl) rfl (by kernel_rfl) (by kernel_rfl) ⟨k1, k2⟩ ?_
  iterate 7 (apply wpPlan_val; (case ho => rfl); (case hst => rfl); (case hw => rfl); (case hv => intro w' hS; obtain ⟨hS1, hS2⟩ := hS; go_simp; first | done | rfl); intro K hK; go_simp; refine hK _ ?_; clear hK K)
  refine wpPlan_list rfl rfl rfl (fun K hK => ?_)
  refine wpList_step (fun K2 hK2 => ?_)
  go_simp
  refine (WA.out _).mono ?_
  rintro e1 wx ⟨rfl, hwx⟩
  subst hwx
  go_simp
  refine hK2 _ _ ?_
  clear hK2 K2
  simp only [wpList]
  refine hK _ _ (fun h => by cases h) ?_
  clear hK K
  iterate 2 (refine wpPlan_list rfl rfl rfl (fun K hK => ?_); refine wpList_step (fun K2 hK2 => ?_); go_simp; refine hK2 _ _ ?_; clear hK2 K2; simp only [wpList]; refine hK _ _ (fun h => by cases h) ?_; clear hK K)
  refine wpPlan_nil ?_
  simp only [Qn]
  have hat0 : -1 ≤ at_ := by have := HAT.out; omega
  have hat1 : at_ ≤ (n : Int) := by have := HAT.out; omega
  rw [← HAT.out]
  have BX1 := hid (show Blk w0.drew w.heap.size [Value.int .i64 kind, .int .i64 num, .slice pb l.length cb] 53 from BX.out.chg (Chg.drewN (fun _ => False) w0 1) (fun h => h))
  have D1 := hid (H.out.new' (show Below w.heap.size w w0.drew from below_drewN B0.out 1))
  have B1 := hid (show Below w.heap.size w w0.drew from below_drewN B0.out 1)
  have BS1 := hid (HB.out.new B1.out)
  clear hq0 hq1 WA hwa hwb k1 k2 hx0 BX B0
  have kk : w0.drew.cell? ⟨w.heap.size, 0, none⟩ = some (.int .i64 kind) := BX1.out.cell 0
  have hw1l : w.heap.size < w0.drew.heap.size := BX1.out.lt
  generalize w0.drew = w1 at *
  go_wp2_with fail
  refine (WK.out _).mono ?_
  rintro e2 wx ⟨rfl, hwx⟩
  subst hwx
  clear WK kk
  rcases hm with hm | hm | hm
  all_goals
    rw [hm]
    clear hm
    go_wp2_with fail
    refine (D1.out.pg.new (by omega)).mono ?_
    rintro e5 w5 ⟨rfl, hto5⟩
    obtain ⟨F5, G5, N5, d5, n5, c5, f5⟩ := D1.out.left hto5
    have D5 := hid d5
    have C5 := hid c5
    have FF5 := hid f5
    have N5' := hid n5
    clear hto5 d5 c5 f5 n5
    generalize hv1 : (newO n op T).1 = v1
    have V1 := hid hv1
    clear hv1
    generalize hu1 : (newO n op T).2.1 = u1
    have U1 := hid hu1
    clear hu1
    go_wp2_with fail
    refine (D5.out.rf.new (by omega)).mono ?_
    rintro e6 w6 ⟨rfl, hto6⟩
    obtain ⟨F6, G6, N6, d6, n6, c6, f6⟩ := D5.out.right hto6
    have DR := hid (show DuoTo _ _ _ _ _ _ _ _ _ _ _ _ _ _ _ (M + 6000) _ from ⟨F6, G6, N6, ⟨d6.pg, d6.rf.more (by omega), d6.dis⟩, n6, c6, f6⟩)
    clear hto6 d6 n6 c6 f6
    generalize hv2 : (newO n op2 T2).1 = v2
    have V2 := hid hv2
    clear hv2
    generalize hu2 : (newO n op2 T2).2.1 = u2
    have U2 := hid hu2
    clear hu2
    rcases Bool.eq_false_or_eq_true (v1 == v2) with hvv | hvv
    · go_wp2_with fail
      go_ret
      exact ⟨u1 == u2, rfl, fun e1 e2 => by rw [← U1.out, ← U2.out]; simp [e1, e2], DuoTo.new B1.out (DuoTo.trans C5.out FF5.out N5'.out DR.out)⟩
    · have HVV := hid hvv
      go_wp2_with fail
      go_ret
      exact ⟨false, rfl, fun e1 e2 => by have h9 := HVV.out; rw [← V1.out, ← V2.out] at h9; simp [e1, e2] at h9, DuoTo.new B1.out (DuoTo.trans C5.out FF5.out N5'.out DR.out)⟩

set_option maxRecDepth 100000 in
set_option maxHeartbeats 4000000 in
theorem do_drop {w : World} {p d x n : Nat} {F G : Nat → Prop} {s : DS} {S T : AS} {op : Bool} {N : Nat} {S2 T2 : AS} {op2 : Bool} {M : Nat} (h : Duo w p d x n F G s S T op N S2 T2 op2 M) (hn : 403 ≤ n ∧ n ≤ 3000) (hN : N ≤ 398) (hM : M ≤ 900000)
    (kind num : Int) (pb : Option Addr) (cb : Nat) (l : List UInt8) (hb : Bs w (.slice pb l.length cb) l) (hl : l.length ≤ 600) (hbo : 0 < l.length → ∀ g, Value.ownBlock (.slice pb l.length cb) = some g → ¬ (F g ∨ G g)) (hw : (Lit.int .i64 num).wf = true) (at_ : Int) (hat : at_ = num % ((n : Int) - 401 + 2) - 1) (hm : kind % 14 = 7 ∨ kind % 14 = 8) :
    Calls Try.prog 31 #[.agg #[.int .i64 kind, .int .i64 num, .slice pb l.length cb], .pointer (some ⟨p, 0, none⟩), .pointer (some ⟨x, 0, none⟩)] w fun e w' => ∃ r , e = .returned (.bool r) ∧ (T2 = T → op2 = op → r = true) ∧
      DuoTo w p d x n F G s S (dropO op T at_).2 op (N + 1) S2 (dropO op2 T2 at_).2 op2 (M + 6000) w' := by
  have H := hid h
  have HB := hid hb
  have HBO := hid hbo
  have i0 := i64_of_wf hw
  have hq0 : 0 ≤ num % ((n : Int) - 401 + 2) := Int.emod_nonneg _ (by omega)
  have hq1 : num % ((n : Int) - 401 + 2) < (n : Int) - 401 + 2 := Int.emod_lt_of_pos _ (by omega)
  have WA := hid (fun w => within_any w num ((n : Int) - 401 + 2) (by omega) (by omega))
  have WK := hid (fun w => within_any w kind 14 (by omega) (by omega))
  have hwa : IntKind.i64.wrap ((n : Int) - 401 + 2) = (n : Int) - 401 + 2 := i64_small (by omega) (by omega)
  have hwb : IntKind.i64.wrap (num % ((n : Int) - 401 + 2) - 1) = num % ((n : Int) - 401 + 2) - 1 := i64_small (by omega) (by omega)
  have hx := h.rf.pages
  have hxl : x < w.heap.size := World.block_lt_of_cell? w ⟨x, 0, none⟩ hx
  have HF := hid h.lt
  have HAT := hid hat
  clear h hb hbo hat
  go_enter Try.func31, Try.ntmps31
  go_wp2_with fail
  have hbx := heap_alloc_new w (Obj.cells [Value.int .i64 kind, .int .i64 num, .slice pb l.length cb].toArray 53)
  have hba : Below w.heap.size w (w.alloc (Obj.cells [Value.int .i64 kind, .int .i64 num, .slice pb l.length cb].toArray 53)) := (Below.refl _ _).alloc (Nat.le_refl _) _
  change Code.wp _ _ _ _ (w.alloc (Obj.cells [Value.int .i64 kind, .int .i64 num, .slice pb l.length cb].toArray 53))
  generalize w.alloc (Obj.cells [Value.int .i64 kind, .int .i64 num, .slice pb l.length cb].toArray 53) = w0 at *
  have BX := hid (show Blk w0 w.heap.size [Value.int .i64 kind, .int .i64 num, .slice pb l.length cb] 53 from hbx)
  have B0 := hid hba
  have hx0 : w0.cell? ⟨x, 0, none⟩ = some (.int .i64 ((n : Int) - 401)) := (hba.cell (p := ⟨x, 0, none⟩) hxl).trans hx
  clear hbx hba hx
  have k1 : w0.drew.cell? ⟨w.heap.size, 1, none⟩ = some (.int .i64 num) := BX.out.cell 1
  have k2 : w0.drew.cell? ⟨x, 0, none⟩ = some (.int .i64 ((n : Int) - 401)) := hx0
  refine wp_region_plan (fun w' => w'.cell? ⟨w.heap.size, 1, none⟩ = some (.int .i64 num) ∧ w'.cell? ⟨x, 0, none⟩ = some (.int .i64 ((n : Int) - 401))) (fun j => !([7, 8, 9].contains j)) (fun j => [7, 8, 9].contains j)
    (.of [0, 1, 2, 3, 4, 5, 6, 7, 8, 9]) (by kernel_rfl) (by kernel_rfl) rfl (by kernel_rfl) (by kernel_rfl) ⟨k1, k2⟩ ?_
  iterate 7 (apply wpPlan_val; (case ho => rfl); (case hst => rfl); (case hw => rfl); (case hv => intro w' hS; obtain ⟨hS1, hS2⟩ := hS; go_simp; first | done | rfl); intro K hK; go_simp; refine hK _ ?_; clear hK K)
  refine wpPlan_list rfl rfl rfl (fun K hK => ?_)
  refine wpList_step (fun K2 hK2 => ?_)
  go_simp
  refine (WA.out _).mono ?_
  rintro e1 wx ⟨rfl, hwx⟩
  subst hwx
  go_simp
  refine hK2 _ _ ?_
  clear hK2 K2
  simp only [wpList]
  refine hK _ _ (fun h => by cases h) ?_
  clear hK K
  iterate 2 (refine wpPlan_list rfl rfl rfl (fun K hK => ?_); refine wpList_step (fun K2 hK2 => ?_); go_simp; refine hK2 _ _ ?_; clear hK2 K2; simp only [wpList]; refine hK _ _ (fun h => by cases h) ?_; clear hK K)
  refine wpPlan_nil ?_
  simp only [Qn]
  have hat0 : -1 ≤ at_ := by have := HAT.out; omega
  have hat1 : at_ ≤ (n : Int) := by have := HAT.out; omega
  rw [← HAT.out]
  have BX1 := hid (show Blk w0.drew w.heap.size [Value.int .i64 kind, .int .i64 num, .slice pb l.length cb] 53 from BX.out.chg (Chg.drewN (fun _ => False) w0 1) (fun h => h))
  have D1 := hid (H.out.new' (show Below w.heap.size w w0.drew from below_drewN B0.out 1))
  have B1 := hid (show Below w.heap.size w w0.drew from below_drewN B0.out 1)
  have BS1 := hid (HB.out.new B1.out)
  clear hq0 hq1 WA hwa hwb k1 k2 hx0 BX B0
  have kk : w0.drew.cell? ⟨w.heap.size, 0, none⟩ = some (.int .i64 kind) := BX1.out.cell 0
  have hw1l : w.heap.size < w0.drew.heap.size := BX1.out.lt
  generalize w0.drew = w1 at *
  go_wp2_with fail
  refine (WK.out _).mono ?_
  rintro e2 wx ⟨rfl, hwx⟩
  subst hwx
  clear WK kk
  rcases hm with hm | hm
  all_goals
    rw [hm]
    clear hm
    have hkw : (Lit.int .i64 at_).wf = true := by simp only [Lit.wf, IntKind.min, IntKind.max, IntKind.signed, IntKind.bits]; simp; omega
    go_wp2_with fail
    refine (D1.out.pg.drop at_ (by omega)).mono ?_
    rintro e5 w5 ⟨rfl, hto5⟩
    obtain ⟨F5, G5, N5, d5, n5, c5, f5⟩ := D1.out.left hto5
    have D5 := hid d5
    have C5 := hid c5
    have FF5 := hid f5
    have N5' := hid n5
    clear hto5 d5 c5 f5 n5
    generalize hv1 : (dropO op T at_).1 = v1
    have V1 := hid hv1
    clear hv1
    go_wp2_with fail
    refine (D5.out.rf.drop (by omega) at_ hkw).mono ?_
    rintro e6 w6 ⟨rfl, hto6⟩
    obtain ⟨F6, G6, N6, d6, n6, c6, f6⟩ := D5.out.right hto6
    have DR := hid (show DuoTo _ _ _ _ _ _ _ _ _ _ _ _ _ _ _ (M + 6000) _ from ⟨F6, G6, N6, ⟨d6.pg, d6.rf.more (by omega), d6.dis⟩, n6, c6, f6⟩)
    clear hto6 d6 n6 c6 f6
    generalize hv2 : (dropO op2 T2 at_).1 = v2
    have V2 := hid hv2
    clear hv2
    go_wp2_with fail
    go_ret
    exact ⟨v1 == v2, rfl, fun e1 e2 => by rw [← V1.out, ← V2.out]; simp [e1, e2], DuoTo.new B1.out (DuoTo.trans C5.out FF5.out N5'.out DR.out)⟩

set_option maxRecDepth 100000 in
set_option maxHeartbeats 4000000 in
theorem do_root {w : World} {p d x n : Nat} {F G : Nat → Prop} {s : DS} {S T : AS} {op : Bool} {N : Nat} {S2 T2 : AS} {op2 : Bool} {M : Nat} (h : Duo w p d x n F G s S T op N S2 T2 op2 M) (hn : 403 ≤ n ∧ n ≤ 3000) (hN : N ≤ 398) (hM : M ≤ 900000)
    (kind num : Int) (pb : Option Addr) (cb : Nat) (l : List UInt8) (hb : Bs w (.slice pb l.length cb) l) (hl : l.length ≤ 600) (hbo : 0 < l.length → ∀ g, Value.ownBlock (.slice pb l.length cb) = some g → ¬ (F g ∨ G g)) (hw : (Lit.int .i64 num).wf = true) (at_ : Int) (hat : at_ = num % ((n : Int) - 401 + 2) - 1) (hm : kind % 14 = 9) :
    Calls Try.prog 31 #[.agg #[.int .i64 kind, .int .i64 num, .slice pb l.length cb], .pointer (some ⟨p, 0, none⟩), .pointer (some ⟨x, 0, none⟩)] w fun e w' => ∃ r , e = .returned (.bool r) ∧ (T2 = T → op2 = op → r = true) ∧
      DuoTo w p d x n F G s S (rootO op T num).2 op (N + 1) S2 (rootO op2 T2 num).2 op2 (M + 6000) w' := by
  have H := hid h
  have HB := hid hb
  have HBO := hid hbo
  have i0 := i64_of_wf hw
  have hq0 : 0 ≤ num % ((n : Int) - 401 + 2) := Int.emod_nonneg _ (by omega)
  have hq1 : num % ((n : Int) - 401 + 2) < (n : Int) - 401 + 2 := Int.emod_lt_of_pos _ (by omega)
  have WA := hid (fun w => within_any w num ((n : Int) - 401 + 2) (by omega) (by omega))
  have WK := hid (fun w => within_any w kind 14 (by omega) (by omega))
  have hwa : IntKind.i64.wrap ((n : Int) - 401 + 2) = (n : Int) - 401 + 2 := i64_small (by omega) (by omega)
  have hwb : IntKind.i64.wrap (num % ((n : Int) - 401 + 2) - 1) = num % ((n : Int) - 401 + 2) - 1 := i64_small (by omega) (by omega)
  have hx := h.rf.pages
  have hxl : x < w.heap.size := World.block_lt_of_cell? w ⟨x, 0, none⟩ hx
  have HF := hid h.lt
  have HAT := hid hat
  clear h hb hbo hat
  go_enter Try.func31, Try.ntmps31
  go_wp2_with fail
  have hbx := heap_alloc_new w (Obj.cells [Value.int .i64 kind, .int .i64 num, .slice pb l.length cb].toArray 53)
  have hba : Below w.heap.size w (w.alloc (Obj.cells [Value.int .i64 kind, .int .i64 num, .slice pb l.length cb].toArray 53)) := (Below.refl _ _).alloc (Nat.le_refl _) _
  change Code.wp _ _ _ _ (w.alloc (Obj.cells [Value.int .i64 kind, .int .i64 num, .slice pb l.length cb].toArray 53))
  generalize w.alloc (Obj.cells [Value.int .i64 kind, .int .i64 num, .slice pb l.length cb].toArray 53) = w0 at *
  have BX := hid (show Blk w0 w.heap.size [Value.int .i64 kind, .int .i64 num, .slice pb l.length cb] 53 from hbx)
  have B0 := hid hba
  have hx0 : w0.cell? ⟨x, 0, none⟩ = some (.int .i64 ((n : Int) - 401)) := (hba.cell (p := ⟨x, 0, none⟩) hxl).trans hx
  clear hbx hba hx
  have k1 : w0.drew.cell? ⟨w.heap.size, 1, none⟩ = some (.int .i64 num) := BX.out.cell 1
  have k2 : w0.drew.cell? ⟨x, 0, none⟩ = some (.int .i64 ((n : Int) - 401)) := hx0
  refine wp_region_plan (fun w' => w'.cell? ⟨w.heap.size, 1, none⟩ = some (.int .i64 num) ∧ w'.cell? ⟨x, 0, none⟩ = some (.int .i64 ((n : Int) - 401))) (fun j => !([7, 8, 9].contains j)) (fun j => [7, 8, 9].contains j)
    (.of [0, 1, 2, 3, 4, 5, 6, 7, 8, 9]) (by kernel_rfl) (by kernel_rfl) rfl (by kernel_rfl) (by kernel_rfl) ⟨k1, k2⟩ ?_
  iterate 7 (apply wpPlan_val; (case ho => rfl); (case hst => rfl); (case hw => rfl); (case hv => intro w' hS; obtain ⟨hS1, hS2⟩ := hS; go_simp; first | done | rfl); intro K hK; go_simp; refine hK _ ?_; clear hK K)
  refine wpPlan_list rfl rfl rfl (fun K hK => ?_)
  refine wpList_step (fun K2 hK2 => ?_)
  go_simp
  refine (WA.out _).mono ?_
  rintro e1 wx ⟨rfl, hwx⟩
  subst hwx
  go_simp
  refine hK2 _ _ ?_
  clear hK2 K2
  simp only [wpList]
  refine hK _ _ (fun h => by cases h) ?_
  clear hK K
  iterate 2 (refine wpPlan_list rfl rfl rfl (fun K hK => ?_); refine wpList_step (fun K2 hK2 => ?_); go_simp; refine hK2 _ _ ?_; clear hK2 K2; simp only [wpList]; refine hK _ _ (fun h => by cases h) ?_; clear hK K)
  refine wpPlan_nil ?_
  simp only [Qn]
  have hat0 : -1 ≤ at_ := by have := HAT.out; omega
  have hat1 : at_ ≤ (n : Int) := by have := HAT.out; omega
  rw [← HAT.out]
  have BX1 := hid (show Blk w0.drew w.heap.size [Value.int .i64 kind, .int .i64 num, .slice pb l.length cb] 53 from BX.out.chg (Chg.drewN (fun _ => False) w0 1) (fun h => h))
  have D1 := hid (H.out.new' (show Below w.heap.size w w0.drew from below_drewN B0.out 1))
  have B1 := hid (show Below w.heap.size w w0.drew from below_drewN B0.out 1)
  have BS1 := hid (HB.out.new B1.out)
  clear hq0 hq1 WA hwa hwb k1 k2 hx0 BX B0
  have kk : w0.drew.cell? ⟨w.heap.size, 0, none⟩ = some (.int .i64 kind) := BX1.out.cell 0
  have hw1l : w.heap.size < w0.drew.heap.size := BX1.out.lt
  generalize w0.drew = w1 at *
  go_wp2_with fail
  refine (WK.out _).mono ?_
  rintro e2 wx ⟨rfl, hwx⟩
  subst hwx
  clear WK kk
  all_goals
    rw [hm]
    clear hm
    go_wp2_with fail
    have k1 : wx.drew.cell? ⟨w.heap.size, 1, none⟩ = some (.int .i64 num) := BX1.out.cell 1
    have D1d := hid (D1.out.new' (show Below wx.heap.size wx wx.drew from below_drewN (Below.refl _ _) 1))
    have B1d := hid (show Below w.heap.size w wx.drew from below_drewN B1.out 1)
    have hbl : w.heap.size < wx.drew.heap.size := hw1l
    clear D1 B1 BX1 BS1
    refine wp_region_plan (fun w' => w'.cell? ⟨w.heap.size, 1, none⟩ = some (.int .i64 num)) (fun j => !([3, 7, 8, 9].contains j)) (fun j => [7, 8, 9].contains j)
      (.of [0, 1, 2, 4, 5, 6, 3, 7, 8, 9]) (by kernel_rfl) (by kernel_rfl) rfl (by kernel_rfl) (by kernel_rfl) k1 ?_
    iterate 6 (apply wpPlan_val; (case ho => rfl); (case hst => rfl); (case hw => rfl); (case hv => intro w' hS; go_simp; first | done | rfl); intro K hK; go_simp; refine hK _ ?_; clear hK K)
    refine wpPlan_list rfl rfl rfl (fun K hK => ?_)
    refine wpList_step (fun K2 hK2 => ?_)
    go_simp
    refine (D1d.out.pg.setRoot num i0.2).mono ?_
    rintro e5 w5 ⟨rfl, hto5⟩
    obtain ⟨F5, G5, N5, d5, n5, c5, f5⟩ := D1d.out.left hto5
    have D5 := hid d5
    have C5 := hid c5
    have FF5 := hid f5
    have N5' := hid n5
    clear hto5 d5 c5 f5 n5
    have k5 : w5.cell? ⟨w.heap.size, 1, none⟩ = some (.int .i64 num) := by
      have h1 := C5.out.block w.heap.size hbl (fun hk => by have := HF.out _ hk; omega)
      unfold World.cell? at k1 ⊢
      rw [h1]
      exact k1
    generalize hv1 : (rootO op T num).1 = v1
    have V1 := hid hv1
    clear hv1 k1
    go_simp
    refine hK2 _ _ ?_
    clear hK2 K2
    simp only [wpList]
    refine hK _ _ (fun _ => k5) ?_
    clear hK K
    refine wpPlan_list rfl rfl rfl (fun K hK => ?_)
    refine wpList_step (fun K2 hK2 => ?_)
    go_simp
    refine (D5.out.rf.setRoot num).mono ?_
    rintro e6 w6 ⟨rfl, hto6⟩
    obtain ⟨F6, G6, N6, d6, n6, c6, f6⟩ := D5.out.right hto6
    have DR := hid (show DuoTo _ _ _ _ _ _ _ _ _ _ _ _ _ _ _ (M + 6000) _ from ⟨F6, G6, N6, ⟨d6.pg, d6.rf.more (by omega), d6.dis⟩, n6, c6, f6⟩)
    clear hto6 d6 n6 c6 f6
    generalize hv2 : (rootO op2 T2 num).1 = v2
    have V2 := hid hv2
    clear hv2
    go_simp
    refine hK2 _ _ ?_
    clear hK2 K2
    simp only [wpList]
    refine hK _ _ (fun h => by cases h) ?_
    clear hK K
    refine wpPlan_list rfl rfl rfl (fun K hK => ?_); refine wpList_step (fun K2 hK2 => ?_); go_simp; refine hK2 _ _ ?_; clear hK2 K2; simp only [wpList]; refine hK _ _ (fun h => by cases h) ?_; clear hK K
    refine wpPlan_list rfl rfl rfl (fun K hK => ?_); refine wpList_step (fun K2 hK2 => ?_); go_simp; refine hK2 _ _ ?_; clear hK2 K2; simp only [wpList]; refine hK _ _ (fun h => by cases h) ?_; clear hK K
    refine wpPlan_nil ?_
    simp only [Qn]
    go_wp2_with fail
    go_ret
    exact ⟨v1 == v2, rfl, fun e1 e2 => by rw [← V1.out, ← V2.out]; simp [e1, e2], DuoTo.new B1d.out (DuoTo.trans C5.out FF5.out N5'.out DR.out)⟩

set_option maxRecDepth 100000 in
set_option maxHeartbeats 4000000 in
theorem do_commit {w : World} {p d x n : Nat} {F G : Nat → Prop} {s : DS} {S T : AS} {op : Bool} {N : Nat} {S2 T2 : AS} {op2 : Bool} {M : Nat} (h : Duo w p d x n F G s S T op N S2 T2 op2 M) (hn : 403 ≤ n ∧ n ≤ 3000) (hN : N ≤ 398) (hM : M ≤ 900000)
    (kind num : Int) (pb : Option Addr) (cb : Nat) (l : List UInt8) (hb : Bs w (.slice pb l.length cb) l) (hl : l.length ≤ 600) (hbo : 0 < l.length → ∀ g, Value.ownBlock (.slice pb l.length cb) = some g → ¬ (F g ∨ G g)) (hw : (Lit.int .i64 num).wf = true) (at_ : Int) (hat : at_ = num % ((n : Int) - 401 + 2) - 1) (hTS : op = false → T = S) (ho : s.ops + 3000 ≤ 1000000) (hst : s.stop < 1) (hm : kind % 14 = 10 ∨ kind % 14 = 11 ∨ kind % 14 = 12) :
    Calls Try.prog 31 #[.agg #[.int .i64 kind, .int .i64 num, .slice pb l.length cb], .pointer (some ⟨p, 0, none⟩), .pointer (some ⟨x, 0, none⟩)] w fun e w' => ∃ r s', e = .returned (.bool r) ∧ (T2 = T → op2 = op → r = true) ∧
      DuoTo w p d x n F G s' T T false (N + 1) T2 T2 false (M + 6000) w' ∧ s'.stop = s.stop ∧ s'.ops ≤ s.ops + 2010 := by
  have H := hid h
  have HB := hid hb
  have HBO := hid hbo
  have i0 := i64_of_wf hw
  have hq0 : 0 ≤ num % ((n : Int) - 401 + 2) := Int.emod_nonneg _ (by omega)
  have hq1 : num % ((n : Int) - 401 + 2) < (n : Int) - 401 + 2 := Int.emod_lt_of_pos _ (by omega)
  have WA := hid (fun w => within_any w num ((n : Int) - 401 + 2) (by omega) (by omega))
  have WK := hid (fun w => within_any w kind 14 (by omega) (by omega))
  have hwa : IntKind.i64.wrap ((n : Int) - 401 + 2) = (n : Int) - 401 + 2 := i64_small (by omega) (by omega)
  have hwb : IntKind.i64.wrap (num % ((n : Int) - 401 + 2) - 1) = num % ((n : Int) - 401 + 2) - 1 := i64_small (by omega) (by omega)
  have hx := h.rf.pages
  have hxl : x < w.heap.size := World.block_lt_of_cell? w ⟨x, 0, none⟩ hx
  have HF := hid h.lt
  have HAT := hid hat
  clear h hb hbo hat
  go_enter Try.func31, Try.ntmps31
  go_wp2_with fail
  have hbx := heap_alloc_new w (Obj.cells [Value.int .i64 kind, .int .i64 num, .slice pb l.length cb].toArray 53)
  have hba : Below w.heap.size w (w.alloc (Obj.cells [Value.int .i64 kind, .int .i64 num, .slice pb l.length cb].toArray 53)) := (Below.refl _ _).alloc (Nat.le_refl _) _
  change Code.wp _ _ _ _ (w.alloc (Obj.cells [Value.int .i64 kind, .int .i64 num, .slice pb l.length cb].toArray 53))
  generalize w.alloc (Obj.cells [Value.int .i64 kind, .int .i64 num, .slice pb l.length cb].toArray 53) = w0 at *
  have BX := hid (show Blk w0 w.heap.size [Value.int .i64 kind, .int .i64 num, .slice pb l.length cb] 53 from hbx)
  have B0 := hid hba
  have hx0 : w0.cell? ⟨x, 0, none⟩ = some (.int .i64 ((n : Int) - 401)) := (hba.cell (p := ⟨x, 0, none⟩) hxl).trans hx
  clear hbx hba hx
  have k1 : w0.drew.cell? ⟨w.heap.size, 1, none⟩ = some (.int .i64 num) := BX.out.cell 1
  have k2 : w0.drew.cell? ⟨x, 0, none⟩ = some (.int .i64 ((n : Int) - 401)) := hx0
  refine wp_region_plan (fun w' => w'.cell? ⟨w.heap.size, 1, none⟩ = some (.int .i64 num) ∧ w'.cell? ⟨x, 0, none⟩ = some (.int .i64 ((n : Int) - 401))) (fun j => !([7, 8, 9].contains j)) (fun j => [7, 8, 9].contains j)
    (.of [0, 1, 2, 3, 4, 5, 6, 7, 8, 9]) (by kernel_rfl) (by kernel_rfl) rfl (by kernel_rfl) (by kernel_rfl) ⟨k1, k2⟩ ?_
  iterate 7 (apply wpPlan_val; (case ho => rfl); (case hst => rfl); (case hw => rfl); (case hv => intro w' hS; obtain ⟨hS1, hS2⟩ := hS; go_simp; first | done | rfl); intro K hK; go_simp; refine hK _ ?_; clear hK K)
  refine wpPlan_list rfl rfl rfl (fun K hK => ?_)
  refine wpList_step (fun K2 hK2 => ?_)
  go_simp
  refine (WA.out _).mono ?_
  rintro e1 wx ⟨rfl, hwx⟩
  subst hwx
  go_simp
  refine hK2 _ _ ?_
  clear hK2 K2
  simp only [wpList]
  refine hK _ _ (fun h => by cases h) ?_
  clear hK K
  iterate 2 (refine wpPlan_list rfl rfl rfl (fun K hK => ?_); refine wpList_step (fun K2 hK2 => ?_); go_simp; refine hK2 _ _ ?_; clear hK2 K2; simp only [wpList]; refine hK _ _ (fun h => by cases h) ?_; clear hK K)
  refine wpPlan_nil ?_
  simp only [Qn]
  have hat0 : -1 ≤ at_ := by have := HAT.out; omega
  have hat1 : at_ ≤ (n : Int) := by have := HAT.out; omega
  rw [← HAT.out]
  have BX1 := hid (show Blk w0.drew w.heap.size [Value.int .i64 kind, .int .i64 num, .slice pb l.length cb] 53 from BX.out.chg (Chg.drewN (fun _ => False) w0 1) (fun h => h))
  have D1 := hid (H.out.new' (show Below w.heap.size w w0.drew from below_drewN B0.out 1))
  have B1 := hid (show Below w.heap.size w w0.drew from below_drewN B0.out 1)
  have BS1 := hid (HB.out.new B1.out)
  clear hq0 hq1 WA hwa hwb k1 k2 hx0 BX B0
  have kk : w0.drew.cell? ⟨w.heap.size, 0, none⟩ = some (.int .i64 kind) := BX1.out.cell 0
  have hw1l : w.heap.size < w0.drew.heap.size := BX1.out.lt
  generalize w0.drew = w1 at *
  go_wp2_with fail
  refine (WK.out _).mono ?_
  rintro e2 wx ⟨rfl, hwx⟩
  subst hwx
  clear WK kk
  rcases hm with hm | hm | hm
  all_goals
    rw [hm]
    clear hm
    go_wp2_with fail
    refine (D1.out.pg.commitO hTS (by omega) ho hst).mono ?_
    rintro e5 w5 ⟨s', rfl, hto5, hst5, hops5⟩
    obtain ⟨F5, G5, N5, d5, n5, c5, f5⟩ := D1.out.left hto5
    have D5 := hid d5
    have C5 := hid c5
    have FF5 := hid f5
    have N5' := hid n5
    clear hto5 d5 c5 f5 n5
    generalize hv1 : (if op = true then (0 : Int) else 12) = v1
    have V1 := hid hv1
    clear hv1
    go_wp2_with fail
    refine D5.out.rf.commit.mono ?_
    rintro e6 w6 ⟨rfl, hto6⟩
    obtain ⟨F6, G6, N6, d6, n6, c6, f6⟩ := D5.out.right hto6
    have DR := hid (show DuoTo _ _ _ _ _ _ _ _ _ _ _ _ _ _ _ (M + 6000) _ from ⟨F6, G6, N6, ⟨d6.pg, d6.rf.more (by omega), d6.dis⟩, n6, c6, f6⟩)
    clear hto6 d6 n6 c6 f6
    generalize hv2 : (if op2 = true then (0 : Int) else 12) = v2
    have V2 := hid hv2
    clear hv2
    go_wp2_with fail
    go_ret
    exact ⟨v1 == v2, s', rfl, fun e1 e2 => by rw [← V1.out, ← V2.out]; simp [e2], DuoTo.new B1.out (DuoTo.trans C5.out FF5.out N5'.out DR.out), hst5, hops5⟩

set_option maxRecDepth 100000 in
set_option maxHeartbeats 4000000 in
theorem do_abort {w : World} {p d x n : Nat} {F G : Nat → Prop} {s : DS} {S T : AS} {op : Bool} {N : Nat} {S2 T2 : AS} {op2 : Bool} {M : Nat} (h : Duo w p d x n F G s S T op N S2 T2 op2 M) (hn : 403 ≤ n ∧ n ≤ 3000) (hN : N ≤ 398) (hM : M ≤ 900000)
    (kind num : Int) (pb : Option Addr) (cb : Nat) (l : List UInt8) (hb : Bs w (.slice pb l.length cb) l) (hl : l.length ≤ 600) (hbo : 0 < l.length → ∀ g, Value.ownBlock (.slice pb l.length cb) = some g → ¬ (F g ∨ G g)) (hw : (Lit.int .i64 num).wf = true) (at_ : Int) (hat : at_ = num % ((n : Int) - 401 + 2) - 1) (hm : kind % 14 = 13) :
    Calls Try.prog 31 #[.agg #[.int .i64 kind, .int .i64 num, .slice pb l.length cb], .pointer (some ⟨p, 0, none⟩), .pointer (some ⟨x, 0, none⟩)] w fun e w' => ∃ r , e = .returned (.bool r) ∧ (T2 = T → op2 = op → r = true) ∧
      DuoTo w p d x n F G s S S false (N + 1) S2 S2 false (M + 6000) w' := by
  have H := hid h
  have HB := hid hb
  have HBO := hid hbo
  have i0 := i64_of_wf hw
  have hq0 : 0 ≤ num % ((n : Int) - 401 + 2) := Int.emod_nonneg _ (by omega)
  have hq1 : num % ((n : Int) - 401 + 2) < (n : Int) - 401 + 2 := Int.emod_lt_of_pos _ (by omega)
  have WA := hid (fun w => within_any w num ((n : Int) - 401 + 2) (by omega) (by omega))
  have WK := hid (fun w => within_any w kind 14 (by omega) (by omega))
  have hwa : IntKind.i64.wrap ((n : Int) - 401 + 2) = (n : Int) - 401 + 2 := i64_small (by omega) (by omega)
  have hwb : IntKind.i64.wrap (num % ((n : Int) - 401 + 2) - 1) = num % ((n : Int) - 401 + 2) - 1 := i64_small (by omega) (by omega)
  have hx := h.rf.pages
  have hxl : x < w.heap.size := World.block_lt_of_cell? w ⟨x, 0, none⟩ hx
  have HF := hid h.lt
  have HAT := hid hat
  clear h hb hbo hat
  go_enter Try.func31, Try.ntmps31
  go_wp2_with fail
  have hbx := heap_alloc_new w (Obj.cells [Value.int .i64 kind, .int .i64 num, .slice pb l.length cb].toArray 53)
  have hba : Below w.heap.size w (w.alloc (Obj.cells [Value.int .i64 kind, .int .i64 num, .slice pb l.length cb].toArray 53)) := (Below.refl _ _).alloc (Nat.le_refl _) _
  change Code.wp _ _ _ _ (w.alloc (Obj.cells [Value.int .i64 kind, .int .i64 num, .slice pb l.length cb].toArray 53))
  generalize w.alloc (Obj.cells [Value.int .i64 kind, .int .i64 num, .slice pb l.length cb].toArray 53) = w0 at *
  have BX := hid (show Blk w0 w.heap.size [Value.int .i64 kind, .int .i64 num, .slice pb l.length cb] 53 from hbx)
  have B0 := hid hba
  have hx0 : w0.cell? ⟨x, 0, none⟩ = some (.int .i64 ((n : Int) - 401)) := (hba.cell (p := ⟨x, 0, none⟩) hxl).trans hx
  clear hbx hba hx
  have k1 : w0.drew.cell? ⟨w.heap.size, 1, none⟩ = some (.int .i64 num) := BX.out.cell 1
  have k2 : w0.drew.cell? ⟨x, 0, none⟩ = some (.int .i64 ((n : Int) - 401)) := hx0
  refine wp_region_plan (fun w' => w'.cell? ⟨w.heap.size, 1, none⟩ = some (.int .i64 num) ∧ w'.cell? ⟨x, 0, none⟩ = some (.int .i64 ((n : Int) - 401))) (fun j => !([7, 8, 9].contains j)) (fun j => [7, 8, 9].contains j)
    (.of [0, 1, 2, 3, 4, 5, 6, 7, 8, 9]) (by kernel_rfl) (by kernel_rfl) rfl (by kernel_rfl) (by kernel_rfl) ⟨k1, k2⟩ ?_
  iterate 7 (apply wpPlan_val; (case ho => rfl); (case hst => rfl); (case hw => rfl); (case hv => intro w' hS; obtain ⟨hS1, hS2⟩ := hS; go_simp; first | done | rfl); intro K hK; go_simp; refine hK _ ?_; clear hK K)
  refine wpPlan_list rfl rfl rfl (fun K hK => ?_)
  refine wpList_step (fun K2 hK2 => ?_)
  go_simp
  refine (WA.out _).mono ?_
  rintro e1 wx ⟨rfl, hwx⟩
  subst hwx
  go_simp
  refine hK2 _ _ ?_
  clear hK2 K2
  simp only [wpList]
  refine hK _ _ (fun h => by cases h) ?_
  clear hK K
  iterate 2 (refine wpPlan_list rfl rfl rfl (fun K hK => ?_); refine wpList_step (fun K2 hK2 => ?_); go_simp; refine hK2 _ _ ?_; clear hK2 K2; simp only [wpList]; refine hK _ _ (fun h => by cases h) ?_; clear hK K)
  refine wpPlan_nil ?_
  simp only [Qn]
  have hat0 : -1 ≤ at_ := by have := HAT.out; omega
  have hat1 : at_ ≤ (n : Int) := by have := HAT.out; omega
  rw [← HAT.out]
  have BX1 := hid (show Blk w0.drew w.heap.size [Value.int .i64 kind, .int .i64 num, .slice pb l.length cb] 53 from BX.out.chg (Chg.drewN (fun _ => False) w0 1) (fun h => h))
  have D1 := hid (H.out.new' (show Below w.heap.size w w0.drew from below_drewN B0.out 1))
  have B1 := hid (show Below w.heap.size w w0.drew from below_drewN B0.out 1)
  have BS1 := hid (HB.out.new B1.out)
  clear hq0 hq1 WA hwa hwb k1 k2 hx0 BX B0
  have kk : w0.drew.cell? ⟨w.heap.size, 0, none⟩ = some (.int .i64 kind) := BX1.out.cell 0
  have hw1l : w.heap.size < w0.drew.heap.size := BX1.out.lt
  generalize w0.drew = w1 at *
  go_wp2_with fail
  refine (WK.out _).mono ?_
  rintro e2 wx ⟨rfl, hwx⟩
  subst hwx
  clear WK kk
  all_goals
    rw [hm]
    clear hm
    go_wp2_with fail
    refine D1.out.pg.abort.mono ?_
    rintro e5 w5 ⟨rfl, hto5⟩
    obtain ⟨F5, G5, N5, d5, n5, c5, f5⟩ := D1.out.left hto5
    have D5 := hid d5
    have C5 := hid c5
    have FF5 := hid f5
    have N5' := hid n5
    clear hto5 d5 c5 f5 n5
    go_wp2_with fail
    refine D5.out.rf.abort.mono ?_
    rintro e6 w6 ⟨rfl, hto6⟩
    obtain ⟨F6, G6, N6, d6, n6, c6, f6⟩ := D5.out.right hto6
    have DR := hid (show DuoTo _ _ _ _ _ _ _ _ _ _ _ _ _ _ _ (M + 6000) _ from ⟨F6, G6, N6, ⟨d6.pg, d6.rf.more (by omega), d6.dis⟩, n6, c6, f6⟩)
    clear hto6 d6 n6 c6 f6
    go_wp2_with fail
    go_ret
    exact ⟨true, rfl, fun _ _ => rfl, DuoTo.new B1.out (DuoTo.trans C5.out FF5.out N5'.out DR.out)⟩

set_option maxRecDepth 100000 in
set_option maxHeartbeats 4000000 in
theorem do_put {w : World} {p d x n : Nat} {F G : Nat → Prop} {s : DS} {S T : AS} {op : Bool} {N : Nat} {S2 T2 : AS} {op2 : Bool} {M : Nat} (h : Duo w p d x n F G s S T op N S2 T2 op2 M) (hn : 403 ≤ n ∧ n ≤ 3000) (hN : N ≤ 398) (hM : M ≤ 900000)
    (kind num : Int) (pb : Option Addr) (cb : Nat) (l : List UInt8) (hb : Bs w (.slice pb l.length cb) l) (hl : l.length ≤ 600) (hbo : 0 < l.length → ∀ g, Value.ownBlock (.slice pb l.length cb) = some g → ¬ (F g ∨ G g)) (hw : (Lit.int .i64 num).wf = true) (at_ : Int) (hat : at_ = num % ((n : Int) - 401 + 2) - 1) (hm : kind % 14 = 4 ∨ kind % 14 = 5 ∨ kind % 14 = 6) :
    Calls Try.prog 31 #[.agg #[.int .i64 kind, .int .i64 num, .slice pb l.length cb], .pointer (some ⟨p, 0, none⟩), .pointer (some ⟨x, 0, none⟩)] w fun e w' => ∃ r , e = .returned (.bool r) ∧ (T2 = T → op2 = op → r = true) ∧
      DuoTo w p d x n F G s S (putO op T at_ l).2 op (N + 1) S2 (putO op2 T2 at_ l).2 op2 (M + 6000) w' := by
  have H := hid h
  have HB := hid hb
  have HBO := hid hbo
  have i0 := i64_of_wf hw
  have hq0 : 0 ≤ num % ((n : Int) - 401 + 2) := Int.emod_nonneg _ (by omega)
  have hq1 : num % ((n : Int) - 401 + 2) < (n : Int) - 401 + 2 := Int.emod_lt_of_pos _ (by omega)
  have WA := hid (fun w => within_any w num ((n : Int) - 401 + 2) (by omega) (by omega))
  have WK := hid (fun w => within_any w kind 14 (by omega) (by omega))
  have hwa : IntKind.i64.wrap ((n : Int) - 401 + 2) = (n : Int) - 401 + 2 := i64_small (by omega) (by omega)
  have hwb : IntKind.i64.wrap (num % ((n : Int) - 401 + 2) - 1) = num % ((n : Int) - 401 + 2) - 1 := i64_small (by omega) (by omega)
  have hx := h.rf.pages
  have hxl : x < w.heap.size := World.block_lt_of_cell? w ⟨x, 0, none⟩ hx
  have HF := hid h.lt
  have HAT := hid hat
  clear h hb hbo hat
  go_enter Try.func31, Try.ntmps31
  go_wp2_with fail
  have hbx := heap_alloc_new w (Obj.cells [Value.int .i64 kind, .int .i64 num, .slice pb l.length cb].toArray 53)
  have hba : Below w.heap.size w (w.alloc (Obj.cells [Value.int .i64 kind, .int .i64 num, .slice pb l.length cb].toArray 53)) := (Below.refl _ _).alloc (Nat.le_refl _) _
  change Code.wp _ _ _ _ (w.alloc (Obj.cells [Value.int .i64 kind, .int .i64 num, .slice pb l.length cb].toArray 53))
  generalize w.alloc (Obj.cells [Value.int .i64 kind, .int .i64 num, .slice pb l.length cb].toArray 53) = w0 at *
  have BX := hid (show Blk w0 w.heap.size [Value.int .i64 kind, .int .i64 num, .slice pb l.length cb] 53 from hbx)
  have B0 := hid hba
  have hx0 : w0.cell? ⟨x, 0, none⟩ = some (.int .i64 ((n : Int) - 401)) := (hba.cell (p := ⟨x, 0, none⟩) hxl).trans hx
  clear hbx hba hx
  have k1 : w0.drew.cell? ⟨w.heap.size, 1, none⟩ = some (.int .i64 num) := BX.out.cell 1
  have k2 : w0.drew.cell? ⟨x, 0, none⟩ = some (.int .i64 ((n : Int) - 401)) := hx0
  refine wp_region_plan (fun w' => w'.cell? ⟨w.heap.size, 1, none⟩ = some (.int .i64 num) ∧ w'.cell? ⟨x, 0, none⟩ = some (.int .i64 ((n : Int) - 401))) (fun j => !([7, 8, 9].contains j)) (fun j => [7, 8, 9].contains j)
    (.of [0, 1, 2, 3, 4, 5, 6, 7, 8, 9]) (by kernel_rfl) (by kernel_rfl) rfl (by kernel_rfl) (by kernel_rfl) ⟨k1, k2⟩ ?_
  iterate 7 (apply wpPlan_val; (case ho => rfl); (case hst => rfl); (case hw => rfl); (case hv => intro w' hS; obtain ⟨hS1, hS2⟩ := hS; go_simp; first | done | rfl); intro K hK; go_simp; refine hK _ ?_; clear hK K)
  refine wpPlan_list rfl rfl rfl (fun K hK => ?_)
  refine wpList_step (fun K2 hK2 => ?_)
  go_simp
  refine (WA.out _).mono ?_
  rintro e1 wx ⟨rfl, hwx⟩
  subst hwx
  go_simp
  refine hK2 _ _ ?_
  clear hK2 K2
  simp only [wpList]
  refine hK _ _ (fun h => by cases h) ?_
  clear hK K
  iterate 2 (refine wpPlan_list rfl rfl rfl (fun K hK => ?_); refine wpList_step (fun K2 hK2 => ?_); go_simp; refine hK2 _ _ ?_; clear hK2 K2; simp only [wpList]; refine hK _ _ (fun h => by cases h) ?_; clear hK K)
  refine wpPlan_nil ?_
  simp only [Qn]
  have hat0 : -1 ≤ at_ := by have := HAT.out; omega
  have hat1 : at_ ≤ (n : Int) := by have := HAT.out; omega
  rw [← HAT.out]
  have BX1 := hid (show Blk w0.drew w.heap.size [Value.int .i64 kind, .int .i64 num, .slice pb l.length cb] 53 from BX.out.chg (Chg.drewN (fun _ => False) w0 1) (fun h => h))
  have D1 := hid (H.out.new' (show Below w.heap.size w w0.drew from below_drewN B0.out 1))
  have B1 := hid (show Below w.heap.size w w0.drew from below_drewN B0.out 1)
  have BS1 := hid (HB.out.new B1.out)
  clear hq0 hq1 WA hwa hwb k1 k2 hx0 BX B0
  have kk : w0.drew.cell? ⟨w.heap.size, 0, none⟩ = some (.int .i64 kind) := BX1.out.cell 0
  have hw1l : w.heap.size < w0.drew.heap.size := BX1.out.lt
  generalize w0.drew = w1 at *
  go_wp2_with fail
  refine (WK.out _).mono ?_
  rintro e2 wx ⟨rfl, hwx⟩
  subst hwx
  clear WK kk
  rcases hm with hm | hm | hm
  all_goals
    rw [hm]
    clear hm
    go_wp2_with fail
    have hkw : (Lit.int .i64 at_).wf = true := by simp only [Lit.wf, IntKind.min, IntKind.max, IntKind.signed, IntKind.bits]; simp; omega
    have k2 : wx.drew.cell? ⟨w.heap.size, 2, none⟩ = some (.slice pb l.length cb) := BX1.out.cell 2
    refine wp_region_plan (fun w' => w'.cell? ⟨w.heap.size, 2, none⟩ = some (.slice pb l.length cb)) (fun j => !([2, 5, 6, 11, 12, 13].contains j)) (fun j => [11, 12, 13].contains j)
      (.of [0, 1, 3, 4, 7, 8, 9, 10, 2, 5, 6, 11, 12, 13]) (by kernel_rfl) (by kernel_rfl) rfl (by kernel_rfl) (by kernel_rfl) k2 ?_
    iterate 8 (apply wpPlan_val; (case ho => rfl); (case hst => rfl); (case hw => rfl); (case hv => intro w' hS; go_simp; first | done | rfl); intro K hK; go_simp; refine hK _ ?_; clear hK K)
    refine wpPlan_list rfl rfl rfl (fun K hK => ?_)
    refine wpList_step (fun K2 hK2 => ?_)
    go_simp
    have hB4 : Below wx.heap.size wx (wx.alloc (Obj.cells #[] 5)).drew := below_drewN ((Below.refl _ _).alloc (Nat.le_refl _) _) 1
    have hO4 : ((wx.alloc (Obj.cells #[] 5)).drew).ownsRow wx.heap.size 5 1 (.slice (some ⟨wx.heap.size, 0, none⟩) 0 0) 0 [] := own_fresh wx [] 5 0 rfl (Nat.zero_le _) wx.heap.size (Nat.le_refl _)
    generalize (wx.alloc (Obj.cells #[] 5)).drew = w4 at *
    have BX4 := BX1.out.chg (Chg.new hB4 (fun _ => False)) (fun h => h)
    have k24 : w4.cell? ⟨w.heap.size, 2, none⟩ = some (.slice pb l.length cb) := BX4.cell 2
    have BS4 := hid (BS1.out.new hB4)
    have O4 := hid hO4
    refine hK2 _ _ ?_
    clear hK2 K2 k2
    simp only [wpList]
    refine hK _ _ (fun _ => k24) ?_
    clear hK K
    refine wpPlan_list rfl rfl rfl (fun K hK => ?_)
    refine wpList_append_rd rfl _ _ 41 rfl wx.heap.size 5 (.int .u8 0) 1 1 Try.underlying41 infoU8 rfl (by decide) (.slice (some ⟨wx.heap.size, 0, none⟩) 0 0) 0 _ rfl O4.out _ l.length _ rfl BS4.out (bv_one _) (by simp only [maxLen]; omega) (by omega) hB4.size ?_
    intro p5 c5 w5 hown5 hg5 hb5
    rw [Nat.zero_add, List.nil_append] at hown5
    rw [Nat.zero_add]
    have C45 : Chg (fun k => k = wx.heap.size) w4 w5 := (Chg.grown hg5).mono (fun k _ h => by simpa [Value.ownBlock] using h.symm)
    have hB5 : Below wx.heap.size wx w5 := hB4.trans (C45.below (fun k hk => by rw [hk]; exact Nat.le_refl _) hB4.size)
    have D45 := hid (D1.out.new' hB5)
    have B45 := hid (B1.out.trans (hB5.mono B1.out.size))
    have BX5 := BX1.out.chg (Chg.new hB5 (fun _ => False)) (fun h => h)
    have k25 : w5.cell? ⟨w.heap.size, 2, none⟩ = some (.slice pb l.length cb) := BX5.cell 2
    have BS5 := hid (BS1.out.new hB5)
    have NEW5 := hid (show Bs w5 (.slice p5 l.length c5) l from Rd.of_own hown5)
    have hbl : w.heap.size < w5.heap.size := BX5.lt
    clear hown5 hg5 hb5 hB4 hO4 C45 hB5 BX4 k24 BS4 O4 BX5 D1 B1 BX1 BS1
    simp only [wpList]
    refine hK _ _ (fun _ => k25) ?_
    clear hK K
    refine wpPlan_list rfl rfl rfl (fun K hK => ?_)
    refine wpList_step (fun K2 hK2 => ?_)
    go_simp
    refine (D45.out.pg.put at_ _ l NEW5.out (by omega) (by omega)).mono ?_
    rintro e5 w6 ⟨rfl, hto5⟩
    have hcF : Chg F w5 w6 := by obtain ⟨_, _, _, _, h, _⟩ := hto5; exact h
    have BS6 := hid (BS5.out.chg hcF (fun hz g hg _ hf => HBO.out hz g hg (.inl hf)))
    have k26 : w6.cell? ⟨w.heap.size, 2, none⟩ = some (.slice pb l.length cb) := by
      have h1 := hcF.block w.heap.size hbl (fun hk => by have := HF.out _ (.inl hk); omega)
      unfold World.cell? at k25 ⊢
      rw [h1]
      exact k25
    obtain ⟨F5, G5, N5, d5, n5, c5, f5⟩ := D45.out.left hto5
    have D5 := hid d5
    have C5 := hid c5
    have FF5 := hid f5
    have N5' := hid n5
    clear hto5 d5 c5 f5 n5
    generalize hv1 : (putO op T at_ l).1 = v1
    have V1 := hid hv1
    clear hv1 k25 hcF
    go_simp
    refine hK2 _ _ ?_
    clear hK2 K2
    simp only [wpList]
    refine hK _ _ (fun _ => k26) ?_
    clear hK K
    refine wpPlan_list rfl rfl rfl (fun K hK => ?_)
    refine wpList_step (fun K2 hK2 => ?_)
    go_simp
    refine (D5.out.rf.put (by omega) at_ hkw _ l BS6.out (by omega)).mono ?_
    rintro e6 w7 ⟨rfl, hto6⟩
    obtain ⟨F6, G6, N6, d6, n6, c6, f6⟩ := D5.out.right hto6
    have DR := hid (show DuoTo _ _ _ _ _ _ _ _ _ _ _ _ _ _ _ (M + 6000) _ from ⟨F6, G6, N6, ⟨d6.pg, d6.rf.more (by omega), d6.dis⟩, n6, c6, f6⟩)
    clear hto6 d6 n6 c6 f6
    generalize hv2 : (putO op2 T2 at_ l).1 = v2
    have V2 := hid hv2
    clear hv2
    go_simp
    refine hK2 _ _ ?_
    clear hK2 K2
    simp only [wpList]
    refine hK _ _ (fun h => by cases h) ?_
    clear hK K
    refine wpPlan_list rfl rfl rfl (fun K hK => ?_); refine wpList_step (fun K2 hK2 => ?_); go_simp; refine hK2 _ _ ?_; clear hK2 K2; simp only [wpList]; refine hK _ _ (fun h => by cases h) ?_; clear hK K
    refine wpPlan_list rfl rfl rfl (fun K hK => ?_); refine wpList_step (fun K2 hK2 => ?_); go_simp; refine hK2 _ _ ?_; clear hK2 K2; simp only [wpList]; refine hK _ _ (fun h => by cases h) ?_; clear hK K
    refine wpPlan_nil ?_
    simp only [Qn]
    go_wp2_with fail
    go_ret
    exact ⟨v1 == v2, rfl, fun e1 e2 => by rw [← V1.out, ← V2.out]; simp [e1, e2], DuoTo.new B45.out (DuoTo.trans C5.out FF5.out N5'.out DR.out)⟩
end Go.Proofs.Ytiphekepglihlaa
