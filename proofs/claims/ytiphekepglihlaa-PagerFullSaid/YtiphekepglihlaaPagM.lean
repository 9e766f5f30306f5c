/- package pager: the marks of a head. -/
import Derived.Test.YtiphekepglihlaaPagO
namespace Go.Proofs.Ytiphekepglihlaa
open Go.RowKit
set_option linter.unusedVariables false

/-- is a page in use -/
def bitOf (u : List UInt8) (at_ : Int) : Bool := decide (0 < at_ ∧ at_ < 3000) && decide ((u.getD (at_.toNat / 8) 0).toNat / 2 ^ (at_.toNat % 8) % 2 = 1)

/-- a head among a block's cells -/
def HdAt (w : World) (p o : Nat) (h : HD) : Prop := h.used.length = 375 ∧ ∀ j x, (hdC h)[j]? = some x → w.cell? ⟨p, o + j, none⟩ = some x
theorem HdAt.of {w : World} {p o : Nat} {h : HD} {cur : List Value} {T : TypeId} (hb : Blk w p cur T) (hu : h.used.length = 375) (hc : (cur.drop o).take 378 = hdC h) : HdAt w p o h := ⟨hu, fun j x hx => by
  rw [hb.cell, ← hx, ← hc, List.getElem?_take, if_pos (by have := (List.getElem?_eq_some_iff.1 hx).1; rw [hdC_length hu] at this; exact this), List.getElem?_drop]⟩
theorem HdAt.mark {w : World} {p o : Nat} {h : HD} (hh : HdAt w p o h) {k : Nat} (hk : k < 375) : w.cell? ⟨p, o + 3 + k, none⟩ = some (.int .u8 (h.used.getD k 0).toNat) := by
  have h1 := hh.2 (3 + k) (.int .u8 (h.used.getD k 0).toNat) (by
    unfold hdC bv
    rw [Nat.add_comm 3]
    simp [hh.1, hk])
  rw [← Nat.add_assoc] at h1
  exact h1

set_option maxRecDepth 100000 in
theorem and_bitF : ∀ (b : Fin 256) (k : Fin 8), (bits .and .u8 ((b.val : Int) / 2 ^ k.val) 1 == 1) = decide (b.val / 2 ^ k.val % 2 = 1) := by decide +kernel
theorem and_bit (b : UInt8) (k : Nat) : (bits .and .u8 ((b.toNat : Int) / 2 ^ (k % 8)) 1 == 1) = decide (b.toNat / 2 ^ (k % 8) % 2 = 1) :=
  and_bitF ⟨b.toNat, b.toNat_lt⟩ ⟨k % 8, Nat.mod_lt _ (by omega)⟩
theorem bitOf_not {u : List UInt8} {at_ : Int} (h : ¬ (0 < at_ ∧ at_ < 3000)) : bitOf u at_ = false := by unfold bitOf; rw [decide_eq_false h]; rfl
theorem bitOf_nat {u : List UInt8} {k : Nat} (h0 : (0 : Int) < k) (h1 : (k : Int) < 3000) : bitOf u k = decide ((u.getD (k / 8) 0).toNat / 2 ^ (k % 8) % 2 = 1) := by
  unfold bitOf
  rw [decide_eq_true (show (0 : Int) < k ∧ (k : Int) < 3000 from ⟨h0, h1⟩)]
  simp

set_option maxRecDepth 100000 in
theorem in_any (w : World) (p o : Nat) (h : HD) (at_ : Int) (hh : HdAt w p o h) :
    Calls Try.prog 72 #[.pointer (some ⟨p, o, none⟩), .int .i64 at_] w fun e w' => e = .returned (.bool (bitOf h.used at_)) ∧ w' = w := by
  by_cases h0 : 0 < at_
  · by_cases h1 : at_ < 3000
    · obtain ⟨k, rfl⟩ : ∃ k : Nat, at_ = (k : Int) := ⟨at_.toNat, by omega⟩
      have hk : k / 8 < 375 := by omega
      have hm := hh.mark hk
      go_enter Try.func72, Try.ntmps72
      go_wp2_with fail
      go_ret
      refine ⟨?_, rfl⟩
      show Ending.returned (Value.bool (bits BinOp.and IntKind.u8 (↑(h.used[k / 8]?.getD 0).toNat / 2 ^ (k % 8)) 1 == 1)) = _
      rw [and_bit, bitOf_nat h0 h1, List.getD_eq_getElem?_getD]
    · go_enter Try.func72, Try.ntmps72
      go_wp2_with fail
      go_ret
      exact ⟨by rw [bitOf_not (by omega)]; rfl, rfl⟩
  · go_enter Try.func72, Try.ntmps72
    go_wp2_with fail
    go_ret
    exact ⟨by rw [bitOf_not (by omega)]; rfl, rfl⟩

set_option maxRecDepth 100000 in
theorem not_bitF : ∀ (b : Fin 256) (k : Fin 8), bits .andNot .u8 (b.val : Int) (IntKind.u8.wrap (2 ^ k.val)) = (((UInt8.ofNat b.val) &&& ~~~ ((1 : UInt8) <<< (UInt8.ofNat k.val))).toNat : Int) := by decide +kernel
set_option maxRecDepth 100000 in
theorem or_bitF : ∀ (b : Fin 256) (k : Fin 8), bits .or .u8 (b.val : Int) (IntKind.u8.wrap (2 ^ k.val)) = (((UInt8.ofNat b.val) ||| ((1 : UInt8) <<< (UInt8.ofNat k.val))).toNat : Int) := by decide +kernel
theorem not_bit (b : UInt8) (k : Nat) : bits .andNot .u8 (b.toNat : Int) (IntKind.u8.wrap (2 ^ (k % 8))) = ((b &&& ~~~ ((1 : UInt8) <<< (UInt8.ofNat (k % 8)))).toNat : Int) := by
  have h := not_bitF ⟨b.toNat, b.toNat_lt⟩ ⟨k % 8, Nat.mod_lt _ (by omega)⟩
  simpa using h
theorem or_bit (b : UInt8) (k : Nat) : bits .or .u8 (b.toNat : Int) (IntKind.u8.wrap (2 ^ (k % 8))) = ((b ||| ((1 : UInt8) <<< (UInt8.ofNat (k % 8)))).toNat : Int) := by
  have h := or_bitF ⟨b.toNat, b.toNat_lt⟩ ⟨k % 8, Nat.mod_lt _ (by omega)⟩
  simpa using h

/-- a byte of marks, with one bit turned -/
def turnB (b : UInt8) (k : Nat) (is : Bool) : UInt8 := if is then (b &&& ~~~ ((1 : UInt8) <<< (UInt8.ofNat (k % 8)))) ||| ((1 : UInt8) <<< (UInt8.ofNat (k % 8))) else b &&& ~~~ ((1 : UInt8) <<< (UInt8.ofNat (k % 8)))

set_option maxRecDepth 100000 in
set_option maxHeartbeats 2000000 in
theorem mark_any (w : World) (p o : Nat) (cur : List Value) (T : TypeId) (h : HD) (k : Nat) (is : Bool) (hb : Blk w p cur T) (hh : HdAt w p o h) (hk : k < 3000) :
    Calls Try.prog 50 #[.pointer (some ⟨p, o, none⟩), .int .i64 k, .bool is] w fun e w' => e = .returned (.tuple #[]) ∧ Chg (fun q => q = p) w w' ∧
      Blk w' p (cur.set (o + 3 + k / 8) (.int .u8 (turnB (h.used.getD (k / 8) 0) k is).toNat)) T := by
  have hk8 : k / 8 < 375 := by omega
  have hm := hh.mark hk8
  have hf := hb.frozen (o + 3 + k / 8)
  have HB := hid hb
  have HH := hid hh
  clear hb hh
  go_enter Try.func50, Try.ntmps50
  go_wp2_with fail
  generalize hgb : h.used.getD (k / 8) 0 = b at *
  have HGB := hid hgb
  clear hgb
  have q1 : IntKind.i64.wrap ((k : Int) / 8) = (k : Int) / 8 := by
    simp [IntKind.wrap, IntKind.bits, IntKind.signed]; omega
  have q2 : 0 ≤ (k : Int) / 8 := by omega
  have q3 : (k : Int) / 8 < 375 := by omega
  have q4 : ((k : Int) / 8).toNat = k / 8 := by omega
  have q5 : (k : Int).tmod 8 = (k : Int) % 8 := Int.tmod_eq_emod_of_nonneg (by omega)
  have q6 : ((k : Int) % 8).toNat = k % 8 := by omega
  have q7 : 0 ≤ (k : Int) % 8 := by omega
  have q8 : IntKind.i64.wrap ((k : Int) % 8) = (k : Int) % 8 := by
    simp [IntKind.wrap, IntKind.bits, IntKind.signed]; omega
  refine wp_region_plan (fun w' => w'.cell? ⟨p, o + 3 + k / 8, none⟩ = some (.int .u8 b.toNat)) (fun j => !([14].contains j)) (fun j => [14].contains j) (.of [0, 1, 2, 3, 4, 5, 6, 7, 8, 9, 10, 11, 12, 13, 14]) (by kernel_rfl) (by kernel_rfl) rfl (by kernel_rfl) (by kernel_rfl) hm ?_
  iterate 14 (apply wpPlan_val; (case ho => rfl); (case hst => rfl); (case hw => rfl); (case hv => intro w' hS; go_simp; first | done | rfl); intro K hK; go_simp; refine hK _ ?_; clear hK K)
  refine wpPlan_list rfl rfl rfl (fun K hK => ?_)
  refine wpList_step (fun K2 hK2 => ?_)
  go_simp
  refine hK2 _ _ ?_
  clear hK2 K2
  simp only [wpList]
  refine hK _ _ (fun h => by cases h) ?_
  clear hK K
  refine wpPlan_nil ?_
  simp only [Qn]
  rw [not_bit]
  have hx1 : turnB b k false = b &&& ~~~ ((1 : UInt8) <<< (UInt8.ofNat (k % 8))) := rfl
  have hx2 : turnB b k true = turnB b k false ||| ((1 : UInt8) <<< (UInt8.ofNat (k % 8))) := rfl
  rw [← hx1]
  clear hx1
  have HX2 := hid hx2
  clear hx2
  generalize hb1 : turnB b k false = b1 at *
  have HB1 := hid hb1
  clear hb1
  have B1 : Hid (Blk (w.setCell ⟨p, o + 3 + k / 8, none⟩ (.int .u8 b1.toNat)).drew p (cur.set (o + 3 + k / 8) (.int .u8 b1.toNat)) T) := hid ((HB.out.set (o + 3 + k / 8) (.int .u8 b1.toNat)).chg (Chg.drewN (fun _ => False) _ 1) (fun h => h))
  have C1 : Hid (Chg (fun q => q = p) w (w.setCell ⟨p, o + 3 + k / 8, none⟩ (.int .u8 b1.toNat)).drew) := hid ((Chg.setCell (fp := fun q => q = p) _ rfl _).trans (Chg.drewN _ _ 1) (fun _ _ h => h))
  have hlc : o + 3 + k / 8 < cur.length := by
    have h1 := hm
    rw [HB.out.cell] at h1
    exact (List.getElem?_eq_some_iff.1 h1).1
  have hm1 : (w.setCell ⟨p, o + 3 + k / 8, none⟩ (.int .u8 b1.toNat)).drew.cell? ⟨p, o + 3 + k / 8, none⟩ = some (.int .u8 b1.toNat) := by
    rw [B1.out.cell, List.getElem?_set_self hlc]
  have hf1 := B1.out.frozen (o + 3 + k / 8)
  generalize (w.setCell ⟨p, o + 3 + k / 8, none⟩ (.int .u8 b1.toNat)).drew = w1 at *
  clear hm hf
  cases is
  · go_wp2_with fail
    go_end0
    exact ⟨rfl, C1.out, by rw [HGB.out, HB1.out]; exact B1.out⟩
  · go_wp2_with fail
    refine wp_region_plan (fun w' => w'.cell? ⟨p, o + 3 + k / 8, none⟩ = some (.int .u8 b1.toNat)) (fun j => !([14].contains j)) (fun j => [14].contains j) (.of [0, 1, 2, 3, 4, 5, 6, 7, 8, 9, 10, 11, 12, 13, 14]) (by kernel_rfl) (by kernel_rfl) rfl (by kernel_rfl) (by kernel_rfl) hm1 ?_
    iterate 14 (apply wpPlan_val; (case ho => rfl); (case hst => rfl); (case hw => rfl); (case hv => intro w' hS; go_simp; first | done | rfl); intro K hK; go_simp; refine hK _ ?_; clear hK K)
    refine wpPlan_list rfl rfl rfl (fun K hK => ?_)
    refine wpList_step (fun K2 hK2 => ?_)
    go_simp
    refine hK2 _ _ ?_
    clear hK2 K2
    simp only [wpList]
    refine hK _ _ (fun h => by cases h) ?_
    clear hK K
    refine wpPlan_nil ?_
    simp only [Qn]
    rw [or_bit, ← HX2.out]
    have B2 : Hid (Blk (w1.setCell ⟨p, o + 3 + k / 8, none⟩ (.int .u8 (turnB b k true).toNat)).drew p (cur.set (o + 3 + k / 8) (.int .u8 (turnB b k true).toNat)) T) := hid (by
      have h2 := (B1.out.set (o + 3 + k / 8) (.int .u8 (turnB b k true).toNat)).chg (Chg.drewN (fun _ => False) _ 1) (fun h => h)
      rw [List.set_set] at h2
      exact h2)
    have C2 : Hid (Chg (fun q => q = p) w (w1.setCell ⟨p, o + 3 + k / 8, none⟩ (.int .u8 (turnB b k true).toNat)).drew) := hid (C1.out.trans ((Chg.setCell (fp := fun q => q = p) _ rfl _).trans (Chg.drewN _ _ 1) (fun _ _ h => h)) (fun _ _ h => h))
    generalize (w1.setCell ⟨p, o + 3 + k / 8, none⟩ (.int .u8 (turnB b k true).toNat)).drew = w2 at *
    go_wp2_with fail
    go_end0
    exact ⟨rfl, C2.out, by rw [HGB.out]; exact B2.out⟩
end Go.Proofs.Ytiphekepglihlaa
