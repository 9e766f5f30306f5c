/- package disk: New. -/
import Derived.Test.YtdilkgcoecipjaaDisk3
namespace Go.Proofs.Ytdilkgcoecipjaa
open Go.RowKit
set_option linter.unusedVariables false

theorem made_rep (m k : Nat) (v : Value) (hm : 0 < m) : madeCells (List.replicate m v).toArray k = (List.replicate k v).toArray := by
  apply Array.ext
  · simp [size_madeCells]
  · intro i h1 h2
    have hm : i % m < m := Nat.mod_lt _ hm
    simp only [madeCells, Array.getElem_map, Array.getElem_range, List.size_toArray, List.length_replicate]
    rw [getElem!_pos _ _ (by simp; exact hm)]
    simp
theorem bv_rep (m : Nat) : bv (List.replicate m 0) = List.replicate m (Value.int .u8 0) := by simp [bv]
theorem made_rows (n : Nat) : madeCells (Value.agg (bv z512).toArray).cells (n * 512) = (bv (List.replicate (n * 512) 0)).toArray := by
  show madeCells (bv z512).toArray (n * 512) = _
  rw [show bv z512 = List.replicate 512 (Value.int .u8 0) from bv_rep 512, bv_rep, made_rep _ _ _ (by omega)]
theorem rInfo : (Try.prog.info? 111).map (fun i => (i.zero, i.size, i.bytes)) = some (some (.agg (bv z512).toArray), 512, 512) := by kernel_rfl

def dNew (n : Nat) : DS := { now := List.replicate (n * 512) 0, kept := List.replicate (n * 512) 0, since := [], stop := 0, ops := 0, dead := false }
theorem dNew_ok {n : Nat} (h1 : 1 ≤ n) (h2 : n ≤ 3000) : DOk n (dNew n) := by
  refine ⟨h1, h2, ?_, ?_, (fun p hp => by cases hp), ?_, Int.le_refl _, ?_, ?_⟩ <;> simp [dNew]

def clampN (x : Int) : Nat := (min (max x 1) 3000).toNat

theorem new_dsk {w w1 w2 : World} {n bn bk : Nat} (h1 : 1 ≤ n) (h2 : n ≤ 3000) (m1 : Blk w1 w.heap.size (bv (List.replicate (n * 512) 0)) 111) (m2 : Blk w2 w1.heap.size (bv (List.replicate (n * 512) 0)) 111)
    (k1 : Below w.heap.size w w1) (k2 : Below w1.heap.size w1 w2) (l1 : w.heap.size < w1.heap.size) (l2 : w1.heap.size < w2.heap.size) (hb : (bn = w.heap.size ∧ bk = w1.heap.size) ∨ (bn = w1.heap.size ∧ bk = w.heap.size)) :
    let w3 := w2.alloc (.cells #[.slice (some ⟨bn, 0, none⟩) n n, .slice (some ⟨bk, 0, none⟩) n n, .slice none 0 0, .int .i64 0, .int .i64 0, .bool false] 91)
    Dsk w3 w2.heap.size (fun k => w.heap.size ≤ k ∧ k < w3.heap.size) n (dNew n) ∧ Below w.heap.size w w3 := by
  intro w3
  have m1' : Blk w2 w.heap.size (bv (List.replicate (n * 512) 0)) 111 := (k2.block _ l1).trans m1
  have c3 : Chg NoFp w2 w3 := Chg.alloc _ _ _
  have s3 : w3.heap.size = w2.heap.size + 1 := by simp [w3]
  have both : ∀ b, b = w.heap.size ∨ b = w1.heap.size → Blk w3 b (bv (List.replicate (n * 512) 0)) 111 := fun b hb => by
    rcases hb with rfl | rfl
    · exact m1'.chg c3 (fun h => h)
    · exact m2.chg c3 (fun h => h)
  refine ⟨⟨bn, bk, .slice none 0 0, ?_, both bn (by omega), both bk (by omega), World.ownsRow_nil _ _ _ _, by omega, by omega, by omega, (fun g hg => by cases hg), ⟨by omega, by omega⟩, ⟨by omega, by omega⟩, ⟨by omega, by omega⟩, (fun k hk => hk.2), dNew_ok h1 h2⟩, ?_⟩
  · exact heap_alloc_new w2 _
  · exact k1.trans (Below.alloc ⟨k2.os, k2.tape, k2.output, k2.size, fun k hk => k2.block k (by omega)⟩ (by omega) _)

set_option maxRecDepth 100000 in
theorem dNew_any (w : World) (x : Int) :
    Calls Try.prog 22 #[.int .i64 x] w fun e w' => ∃ d, e = .returned (.pointer (some ⟨d, 0, none⟩)) ∧ Dsk w' d (fun k => w.heap.size ≤ k ∧ k < w'.heap.size) (clampN x) (dNew (clampN x)) ∧ Below w.heap.size w w' ∧ w.heap.size ≤ d := by
  obtain ⟨n, hn, hx, hn1, hn2⟩ : ∃ n, clampN x = n ∧ min (max x 1) 3000 = (n : Int) ∧ 1 ≤ n ∧ n ≤ 3000 := ⟨_, rfl, by unfold clampN; omega, by unfold clampN; omega, by unfold clampN; omega⟩
  rw [hn]
  clear hn
  go_enter Try.func22, Try.ntmps22
  go_wp2_with fail
  refine wp_region_plan (fun _ => True) (fun j => [0, 2].contains j) (fun _ => false) (.cons 0 (.cons 2 (.fork 1 3 (.of [3, 4, 5, 6]) (.of [1, 4, 5, 6])))) (by kernel_rfl) (by kernel_rfl) rfl (by kernel_rfl) (by kernel_rfl) trivial ?_
  refine wpPlan_val (.int .i64 n) rfl rfl rfl (fun w' hS => by go_simp) (fun K hK => ?_)
  go_simp
  refine hK _ ?_
  clear hK K
  refine wpPlan_val (.int .i64 n) rfl rfl rfl (fun w' hS => by go_simp) (fun K hK => ?_)
  go_simp
  refine hK _ ?_
  clear hK K
  refine ⟨?_, ?_⟩
  · refine effect_list rfl rfl (fun K hK => ?_)
    refine wpList_make_blk rfl _ _ 88 rfl 111 _ 512 512 Try.underlying88 rInfo _ _ _ _ n rfl rfl rfl rfl (by omega) (by simp only [maxLen]; omega) ?_
    intro w1 hh hb hl
    rw [made_rows] at hh
    have PM := hid hh
    have PB : Hid (Below w.heap.size w w1) := hid ⟨hb.os, hb.tape, hb.output, hb.size, hb.block⟩
    have PL : Hid (w.heap.size < w1.heap.size) := hid hl
    clear hh hb hl
    simp only [wpList]
    refine hK _ _ (fun _ => trivial) ?_
    clear hK K
    refine wpPlan_list rfl rfl rfl (fun K hK => ?_)
    refine wpList_make_blk rfl _ _ 88 rfl 111 _ 512 512 Try.underlying88 rInfo _ _ _ _ n rfl rfl rfl rfl (by omega) (by simp only [maxLen]; omega) ?_
    intro w2 hh hb hl
    rw [made_rows] at hh
    have RM := hid hh
    have RB : Hid (Below w1.heap.size w1 w2) := hid ⟨hb.os, hb.tape, hb.output, hb.size, hb.block⟩
    have RL : Hid (w1.heap.size < w2.heap.size) := hid hl
    clear hh hb hl
    simp only [wpList]
    refine hK _ _ (fun _ => trivial) ?_
    clear hK K
    refine wpPlan_list rfl rfl rfl (fun K hK => ?_)
    refine wpList_step (fun K2 hK2 => ?_)
    go_simp
    refine hK2 _ _ ?_
    clear hK2 K2
    simp only [wpList]
    refine hK _ _ (fun _ => trivial) ?_
    clear hK K
    refine wpPlan_list rfl rfl rfl (fun K hK => ?_)
    refine wpList_step (fun K2 hK2 => ?_)
    go_simp
    refine hK2 _ _ ?_
    clear hK2 K2
    simp only [wpList]
    refine hK _ _ (fun _ => trivial) ?_
    clear hK K
    refine wpPlan_list rfl rfl rfl (fun K hK => ?_)
    refine wpList_step (fun K2 hK2 => ?_)
    go_simp
    refine hK2 _ _ ?_
    clear hK2 K2
    simp only [wpList]
    refine hK _ _ (fun _ => trivial) ?_
    clear hK K
    refine wpPlan_nil ?_
    simp only [Qn]
    go_wp2_with fail
    go_ret
    have hd := new_dsk (bn := w.heap.size) (bk := w1.heap.size) hn1 hn2 (show Blk w1 w.heap.size _ _ from PM.out) (show Blk w2 w1.heap.size _ _ from RM.out) (show Below w.heap.size w w1 from ⟨PB.out.os, PB.out.tape, PB.out.output, PB.out.size, PB.out.block⟩) RB.out PL.out RL.out (by omega)
    exact ⟨_, rfl, hd.1, hd.2, by have h1 : w.heap.size < w1.heap.size := PL.out; have h2 : w1.heap.size < w2.heap.size := RL.out; omega⟩
  · refine effect_list rfl rfl (fun K hK => ?_)
    refine wpList_make_blk rfl _ _ 88 rfl 111 _ 512 512 Try.underlying88 rInfo _ _ _ _ n rfl rfl rfl rfl (by omega) (by simp only [maxLen]; omega) ?_
    intro w1 hh hb hl
    rw [made_rows] at hh
    have PM := hid hh
    have PB : Hid (Below w.heap.size w w1) := hid ⟨hb.os, hb.tape, hb.output, hb.size, hb.block⟩
    have PL : Hid (w.heap.size < w1.heap.size) := hid hl
    clear hh hb hl
    simp only [wpList]
    refine hK _ _ (fun _ => trivial) ?_
    clear hK K
    refine wpPlan_list rfl rfl rfl (fun K hK => ?_)
    refine wpList_make_blk rfl _ _ 88 rfl 111 _ 512 512 Try.underlying88 rInfo _ _ _ _ n rfl rfl rfl rfl (by omega) (by simp only [maxLen]; omega) ?_
    intro w2 hh hb hl
    rw [made_rows] at hh
    have RM := hid hh
    have RB : Hid (Below w1.heap.size w1 w2) := hid ⟨hb.os, hb.tape, hb.output, hb.size, hb.block⟩
    have RL : Hid (w1.heap.size < w2.heap.size) := hid hl
    clear hh hb hl
    simp only [wpList]
    refine hK _ _ (fun _ => trivial) ?_
    clear hK K
    refine wpPlan_list rfl rfl rfl (fun K hK => ?_)
    refine wpList_step (fun K2 hK2 => ?_)
    go_simp
    refine hK2 _ _ ?_
    clear hK2 K2
    simp only [wpList]
    refine hK _ _ (fun _ => trivial) ?_
    clear hK K
    refine wpPlan_list rfl rfl rfl (fun K hK => ?_)
    refine wpList_step (fun K2 hK2 => ?_)
    go_simp
    refine hK2 _ _ ?_
    clear hK2 K2
    simp only [wpList]
    refine hK _ _ (fun _ => trivial) ?_
    clear hK K
    refine wpPlan_list rfl rfl rfl (fun K hK => ?_)
    refine wpList_step (fun K2 hK2 => ?_)
    go_simp
    refine hK2 _ _ ?_
    clear hK2 K2
    simp only [wpList]
    refine hK _ _ (fun _ => trivial) ?_
    clear hK K
    refine wpPlan_nil ?_
    simp only [Qn]
    go_wp2_with fail
    go_ret
    have hd := new_dsk (bn := w1.heap.size) (bk := w.heap.size) hn1 hn2 (show Blk w1 w.heap.size _ _ from PM.out) (show Blk w2 w1.heap.size _ _ from RM.out) (show Below w.heap.size w w1 from ⟨PB.out.os, PB.out.tape, PB.out.output, PB.out.size, PB.out.block⟩) RB.out PL.out RL.out (by omega)
    exact ⟨_, rfl, hd.1, hd.2, by have h1 : w.heap.size < w1.heap.size := PL.out; have h2 : w1.heap.size < w2.heap.size := RL.out; omega⟩
end Go.Proofs.Ytdilkgcoecipjaa
