/- package pager: pages, there, SetRoot. -/
import Derived.Test.YtiphekepglihlaaPagM
namespace Go.Proofs.Ytiphekepglihlaa
open Go.RowKit
set_option linter.unusedVariables false

/-- a pager's cells and its disk -/
structure PgB (w : World) (p d : Nat) (fp : Nat → Prop) (n : Nat) (s : DS) (was now : HD) (op : Bool) (m f : Value) : Prop where
  dsk : Dsk w d fp n s
  blk : Blk w p (pgC (.pointer (some ⟨d, 0, none⟩)) was now op m f) 82
  was : was.used.length = 375
  now : now.used.length = 375
  out : ¬ fp p

theorem PgB.head {w : World} {p d : Nat} {fp : Nat → Prop} {n : Nat} {s : DS} {was now : HD} {op : Bool} {m f : Value} (h : PgB w p d fp n s was now op m f) : HdAt w p 379 now :=
  HdAt.of h.blk h.now (pgC_now h.was h.now)

theorem pages_any (w : World) (p d : Nat) (fp : Nat → Prop) (n : Nat) (s : DS) (was now : HD) (op : Bool) (m f : Value) (h : PgB w p d fp n s was now op m f) :
    Calls Try.prog 58 #[.pointer (some ⟨p, 0, none⟩)] w fun e w' => e = .returned (.int .i64 ((n : Int) - 401)) ∧ w' = w := by
  obtain ⟨c0, c1, c2, c3, f0, f1, f2, f3⟩ := pg_cells h.blk h.was h.now
  have HS := hid (dSize_any w d fp n s h.dsk)
  have hn2 := h.dsk.ok.n2
  clear h
  go_enter Try.func58, Try.ntmps58
  go_wp2_with fail
  refine HS.out.mono ?_; rintro e1 wx ⟨rfl, hw⟩
  subst hw
  go_wp2_with fail
  go_ret
  exact ⟨rfl, rfl⟩

theorem there_any (w : World) (p d : Nat) (fp : Nat → Prop) (n : Nat) (s : DS) (was now : HD) (op : Bool) (m f : Value) (at_ : Int) (h : PgB w p d fp n s was now op m f) :
    Calls Try.prog 52 #[.pointer (some ⟨p, 0, none⟩), .int .i64 at_] w fun e w' => e = .returned (.bool (bitOf now.used at_ && decide (at_ < (n : Int) - 401))) ∧ w' = w := by
  have HI := hid (in_any w p 379 now at_ h.head)
  have HP := hid (pages_any w p d fp n s was now op m f h)
  clear h
  go_enter Try.func52, Try.ntmps52
  go_wp2_with fail
  refine HI.out.mono ?_; rintro e1 wx ⟨rfl, hw⟩
  subst hw
  cases hbit : bitOf now.used at_
  · have HB := hid hbit
    clear hbit
    go_wp2_with fail
    go_ret
    exact ⟨by rw [HB.out]; rfl, rfl⟩
  · have HB := hid hbit
    clear hbit
    go_wp2_with fail
    refine HP.out.mono ?_; rintro e1 wx ⟨rfl, hw⟩
    subst hw
    go_wp2_with fail
    go_ret
    exact ⟨by rw [HB.out]; rfl, rfl⟩

theorem pgC_setAt {d m f x : Value} {was now h : HD} {op : Bool} {j : Nat} (h1 : was.used.length = 375) (h2 : now.used.length = 375) (hj : j < 378) (he : (hdC now).set j x = hdC h) : (pgC d was now op m f).set (379 + j) x = pgC d was h op m f := by
  have e1 := hdC_length h1
  have e2 := hdC_length h2
  unfold pgC
  rw [show 379 + j = (378 + j) + 1 by omega, List.set_cons_succ, List.set_append_right _ _ (by omega), e1, Nat.add_sub_cancel_left, List.set_append_left _ _ (by omega), he]
theorem bv_set (l : List UInt8) (k : Nat) (b : UInt8) : (bv l).set k (.int .u8 b.toNat) = bv (l.set k b) := by simp [bv, List.map_set]
theorem hdC_setUsed (h : HD) (k : Nat) (b : UInt8) : (hdC h).set (3 + k) (.int .u8 b.toNat) = hdC { h with used := h.used.set k b } := by
  unfold hdC
  rw [Nat.add_comm 3, List.set_cons_succ, List.set_cons_succ, List.set_cons_succ, bv_set]

set_option maxRecDepth 100000 in
theorem setRoot_any (w : World) (p d : Nat) (fp : Nat → Prop) (n : Nat) (s : DS) (was now : HD) (op : Bool) (m f : Value) (at_ : Int) (h : PgB w p d fp n s was now op m f) :
    Calls Try.prog 23 #[.pointer (some ⟨p, 0, none⟩), .int .i64 at_] w fun e w' => e = .returned (.int .i64 (if op = false then 12 else if at_ < 0 then 1 else 0)) ∧ Chg (fun k => k = p) w w' ∧
      PgB w' p d fp n s was (if op = false then now else if at_ < 0 then now else { now with root := at_ }) op m f := by
  obtain ⟨c0, c1, c2, c3, f0, f1, f2, f3⟩ := pg_cells h.blk h.was h.now
  have H := hid h
  have hc := h.head.2 0 (.int .i64 now.root) rfl
  have hfz := h.blk.frozen 379
  clear h
  cases op
  · go_enter Try.func23, Try.ntmps23
    go_wp2_with fail
    go_ret
    exact ⟨rfl, Chg.refl _ _, H.out⟩
  · by_cases hn : at_ < 0
    · go_enter Try.func23, Try.ntmps23
      go_wp2_with fail
      go_ret
      simp only
      exact ⟨rfl, Chg.refl _ _, H.out⟩
    · go_enter Try.func23, Try.ntmps23
      go_wp2_with fail
      go_ret
      simp only
      have hch : Chg (fun k => k = p) w (w.setCell ⟨p, 379, none⟩ (.int .i64 at_)) := Chg.setCell (fp := fun k => k = p) _ rfl _
      refine ⟨rfl, hch, H.out.dsk.chg hch (fun k hk e => H.out.out (e ▸ hk)), ?_, H.out.was, H.out.now, H.out.out⟩
      have h3 := H.out.blk.set 379 (.int .i64 at_)
      rw [pgC_setAt (j := 0) (h := { now with root := at_ }) H.out.was H.out.now (by omega) rfl] at h3
      exact h3
end Go.Proofs.Ytiphekepglihlaa
