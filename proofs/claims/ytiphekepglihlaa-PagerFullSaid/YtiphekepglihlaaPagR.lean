/- package pager: read. -/
import Derived.Test.YtiphekepglihlaaPagW
namespace Go.Proofs.Ytiphekepglihlaa
open Go.RowKit Go.Maps
set_option linter.unusedVariables false

/-- what a page reads as -/
def pgRead (s : DS) (ch : Int → Option (List UInt8)) (at_ : Nat) : List UInt8 := (ch at_).getD ((row s.now (401 + at_)).take 504)

theorem pageZero (w : World) : (zeroValue 41).run Try.prog w = .ok (.slice none 0 0) w := by kernel_rfl

set_option maxRecDepth 100000 in
set_option maxHeartbeats 2000000 in
theorem read_any (w : World) (p d : Nat) (fp : Nat → Prop) (n : Nat) (s : DS) (was now : HD) (op : Bool) (b N : Nat) (D : DataW Unit) (f : Value) (ok : Nat → Prop) (ch : Int → Option (List UInt8)) (k : Nat)
    (h : PgB w p d fp n s was now op (.map (some b)) f) (hM : w.ownsMap Try.prog 3 pageElem b N D) (hC : Chd w D ok ch) (hk : 401 + k < n) (hdead : s.dead = false) (hat : (Lit.int .i64 (k : Int)).wf = true) :
    Calls Try.prog 57 #[.pointer (some ⟨p, 0, none⟩), .int .i64 k] w fun e w' => ∃ q m c, e = .returned (.tuple #[.slice q m c, .int .i64 0]) ∧ Bs w' (.slice q m c) (pgRead s ch k) ∧ m = (pgRead s ch k).length ∧ Below w.heap.size w w' ∧ ∀ g, Value.ownBlock (.slice q m c) = some g → w.heap.size ≤ g := by
  obtain ⟨c0, c1, c2, c3, f0, f1, f2, f3⟩ := pg_cells h.blk h.was h.now
  have H := hid h
  have HKEY := hid (show keyOf Try.prog 3 (.int .i64 k) = some (.int .i64 k) from keyOf_int_mk Try.underlying3 hat)
  have HM := hid hM
  have HC := hid (hC k)
  have hn2 := h.dsk.ok.n2
  clear h hM hC hat
  have hw1 : IntKind.i64.wrap (401 + (k : Int)) = 401 + (k : Int) := by
    simp [IntKind.wrap, IntKind.bits, IntKind.signed]; omega
  generalize hck : ch k = c at *
  cases c with
  | none =>
    have HH : Hid (Maps.has D (.int .i64 k) = false) := hid HC.out
    have HCK := hid hck
    clear hck
    go_enter Try.func57, Try.ntmps57
    go_wp2_with (at_lookup; refine wpList_lookup_own_ok _ rfl _ _ 80 rfl 3 41 mapKeyed Try.underlying80 pageElem (pageZero _) .nil [] pageElem_nil b N _ rfl HM.out _ _ rfl HKEY.out ?_; intro v ps hv; rw [HH.out]; have HV := hid hv; clear hv)
    rw [show (401 + (k : Int)) = ((401 + k : Nat) : Int) by push_cast; rfl]
    refine (dRead_ok w d fp n s (401 + k) H.out.dsk hdead hk).mono ?_
    rintro e2 w2 ⟨g, rfl, hg, hblk, hb2⟩
    have B2 := hid hb2
    have hrl := row_length H.out.dsk.ok.now hk
    have G2 := hid (bs_part (lo := 0) (hi := 504) (c := 512) hblk hrl (by omega) (by omega) (by omega))
    clear hb2 hblk
    go_wp2_with fail
    have CL := hid (clone_any _ _ w2 G2.out (by rw [List.length_take, List.length_drop]; omega))
    have hl5 : (((row s.now (401 + k)).drop 0).take 504).length = 504 := by rw [List.length_take, List.length_drop, hrl]; rfl
    rw [hl5] at CL
    refine CL.out.mono ?_
    rintro e3 w3 ⟨p3, c3', rfl, ho3, hb3⟩
    have O3 := hid ho3
    have B3 := hid (B2.out.trans (hb3.mono B2.out.size))
    clear ho3 hb3 CL
    go_wp2_with fail
    go_ret2
    have e : pgRead s ch k = ((row s.now (401 + k)).drop 0).take 504 := by unfold pgRead; rw [HCK.out]; rfl
    refine ⟨p3, 504, c3', rfl, ?_, by rw [e, hl5], B3.out, fun g hg => Nat.le_trans B2.out.size (O3.out.lt g hg).1⟩
    rw [e]
    have h9 := Rd.of_own O3.out
    unfold Bs
    rw [hl5]
    exact h9
  | some l =>
    have HCK := hid hck
    clear hck
    go_enter Try.func57, Try.ntmps57
    go_wp2_with (at_lookup; refine wpList_lookup_own_ok _ rfl _ _ 80 rfl 3 41 mapKeyed Try.underlying80 pageElem (pageZero _) .nil [] pageElem_nil b N _ rfl HM.out _ _ rfl HKEY.out ?_; intro v ps hv; obtain ⟨q1, g, q2, q3, q4, q5⟩ := HC.out; rw [q1]; rw [q2] at hv; have HV := hid hv; have Q3 := hid q3; have Q4 := hid q4; clear hv q1 q2 q3 q4 q5)
    obtain ⟨g, rfl, q7⟩ : ∃ g' : Nat, v = .slice (some ⟨g', 0, none⟩) 504 504 ∧ g' = g := by
      rcases pageElem_inv HV.out with ⟨g', h1, h2⟩ | ⟨_, h2⟩
      · exact ⟨g', h1, by injection h2 with h2; injection h2 with _ h2; omega⟩
      · cases h2
    have G2 : Hid (Bs w (.slice (some ⟨g, 0, none⟩) 504 504) l) := hid (Bs.blk (q7 ▸ Q3.out) Q4.out.symm (by simp [maxLen]))
    have CL := hid (clone_any _ _ w G2.out (by rw [Q4.out]; omega))
    rw [Q4.out] at CL
    refine CL.out.mono ?_
    rintro e3 w3 ⟨p3, c3', rfl, ho3, hb3⟩
    have O3 := hid ho3
    have B3 := hid hb3
    clear ho3 hb3 CL
    go_wp2_with fail
    go_ret2
    have e : pgRead s ch k = l := by unfold pgRead; rw [HCK.out]; rfl
    refine ⟨p3, 504, c3', rfl, ?_, by rw [e, Q4.out], B3.out, fun g hg => (O3.out.lt g hg).1⟩
    rw [e]
    have h9 := Rd.of_own O3.out
    unfold Bs
    rw [Q4.out]
    exact h9
end Go.Proofs.Ytiphekepglihlaa
