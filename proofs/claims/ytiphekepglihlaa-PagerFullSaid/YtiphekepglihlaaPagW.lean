/- package pager: what is changed: a map of pages. -/
import Derived.Test.YtiphekepglihlaaPagT
import Derived.Test.YtiphekepglihlaaChk
namespace Go.Proofs.Ytiphekepglihlaa
open Go.RowKit Go.Maps
set_option linter.unusedVariables false

/-- how a changed page reads: by the block that it lies in -/
def pageElem (v : Value) : Option (DataW Unit × List MemPlace) :=
  match v with
  | .slice (some ⟨g, 0, none⟩) 504 504 => some (.lit (.int .i64 g), [])
  | .slice none 0 0 => some (.nil, [])
  | _ => none
theorem pageElem_page (g : Nat) : pageElem (.slice (some ⟨g, 0, none⟩) 504 504) = some (.lit (.int .i64 g), []) := rfl
theorem pageElem_nil : pageElem (.slice none 0 0) = some (.nil, []) := rfl
theorem pageElem_inv {v : Value} {x : DataW Unit} {ps : List MemPlace} (h : pageElem v = some (x, ps)) : (∃ g : Nat, v = .slice (some ⟨g, 0, none⟩) 504 504 ∧ x = .lit (.int .i64 g)) ∨ (v = .slice none 0 0 ∧ x = .nil) := by
  unfold pageElem at h
  split at h
  · simp at h; exact .inl ⟨_, rfl, h.1.symm⟩
  · simp at h; exact .inr ⟨rfl, h.1.symm⟩
  · cases h

/-- the pages that are changed -/
def Chd (w : World) (D : DataW Unit) (ok : Nat → Prop) (ch : Int → Option (List UInt8)) : Prop :=
  ∀ k : Int, match ch k with
    | none => Maps.has D (.int .i64 k) = false
    | some l => Maps.has D (.int .i64 k) = true ∧ ∃ g : Nat, D.atKey (.int .i64 k) .nil = .lit (.int .i64 g) ∧ Blk w g (bv l) 5 ∧ l.length = 504 ∧ ok g
theorem Chd.nil (w : World) (ok : Nat → Prop) : Chd w (.map []) ok (fun _ => none) := fun k => rfl
theorem Chd.chg {w w' : World} {D : DataW Unit} {ok fq : Nat → Prop} {ch : Int → Option (List UInt8)} (h : Chd w D ok ch) (hc : Chg fq w w') (hn : ∀ g, ok g → ¬ fq g) : Chd w' D ok ch := fun k => by
  have h1 := h k
  split at h1
  · exact h1
  · rename_i l e
    obtain ⟨h2, g, h3, h4, h5, h6⟩ := h1
    exact ⟨h2, g, h3, h4.chg hc (hn g h6), h5, h6⟩
theorem Chd.put {w : World} {D : DataW Unit} {ok ok' : Nat → Prop} {ch : Int → Option (List UInt8)} (h : Chd w D ok ch) (hD : IsMap D) (hm : ∀ g, ok g → ok' g) {k : Int} {g : Nat} {l : List UInt8} (hb : Blk w g (bv l) 5) (hl : l.length = 504) (hg : ok' g) :
    Chd w (D.put (.int .i64 k) (.lit (.int .i64 g))) ok' (fun q => if q = k then some l else ch q) := fun q => by
  by_cases e : q = k
  · subst e
    simp only [if_true]
    exact ⟨Maps.has_put_same hD (by simp [WideAt.IsKeyLit]) _, g, Maps.atKey_put_same hD (by simp [WideAt.IsKeyLit]) _ _, hb, hl, hg⟩
  · have hne : (Lit.int .i64 q) ≠ Lit.int .i64 k := fun h => e (by cases h; rfl)
    simp only [if_neg e]
    have h1 := h q
    split at h1
    · exact (Maps.has_put_other hne _).trans h1
    · rename_i l2 e2
      obtain ⟨h2, g2, h3, h4, h5, h6⟩ := h1
      exact ⟨(Maps.has_put_other hne _).trans h2, g2, (Maps.atKey_put_other hne _ _).trans h3, h4, h5, hm _ h6⟩

/-- a page, cut or filled to its length -/
def pageOf (l : List UInt8) : List UInt8 := pad504 l

set_option maxRecDepth 100000 in
set_option maxHeartbeats 2000000 in
theorem write_any (w : World) (p d : Nat) (fp : Nat → Prop) (n : Nat) (s : DS) (was now : HD) (op : Bool) (b N : Nat) (D : DataW Unit) (f : Value) (ok : Nat → Prop) (ch : Int → Option (List UInt8)) (at_ : Int) (v : Value) (l : List UInt8)
    (h : PgB w p d fp n s was now op (.map (some b)) f) (hM : w.ownsMap Try.prog 3 pageElem b N D) (hC : Chd w D ok ch) (hb : ¬ fp b) (hbp : b ≠ p) (hok : ∀ g, ok g → g ≠ b ∧ g < w.heap.size) (hN : N ≤ 1000000) (hv : Bs w v l) (hl : l.length ≤ 504) (hat : (Lit.int .i64 at_).wf = true) :
    Calls Try.prog 51 #[.pointer (some ⟨p, 0, none⟩), .int .i64 at_, v] w fun e w' => e = .returned (.tuple #[]) ∧ Chg (fun k => k = b) w w' ∧ PgB w' p d fp n s was now op (.map (some b)) f ∧
      ∃ D', w'.ownsMap Try.prog 3 pageElem b (N + 1) D' ∧ Chd w' D' (fun g => ok g ∨ w.heap.size ≤ g) (fun q => if q = at_ then some (pad504 l) else ch q) := by
  obtain ⟨c0, c1, c2, c3, f0, f1, f2, f3⟩ := pg_cells h.blk h.was h.now
  have H := hid h
  have HV := hid hv
  obtain ⟨_, pv, pc, rfl, _⟩ := hv
  have HKEY := hid (show keyOf Try.prog 3 (.int .i64 at_) = some (.int .i64 at_) from keyOf_int_mk Try.underlying3 hat)
  have MW : Hid (∀ w', Below w.heap.size w w' → w'.ownsMap Try.prog 3 pageElem b N D) := hid (fun w' hb => by
    obtain ⟨es, cl, h1, h2⟩ := hM
    exact ⟨es, cl, by rw [hb.block b (Array.getElem?_eq_some_iff.1 h1).1]; exact h1, h2⟩)
  clear h
  go_enter Try.func51, Try.ntmps51
  go_wp2_with (first
    | (at_make; refine wpList_make_blk rfl _ _ 41 rfl 5 _ 1 1 Try.underlying41 infoU8 _ _ _ _ 504 rfl rfl rfl rfl (by omega) (by simp only [maxLen]; omega) ?_; intro w1 hh1 hb1 hl1; rw [made_bytes] at hh1; have HM := hid hh1; have B1 := hid hb1; clear hh1 hb1)
    | (refine wpList_copy_gen rfl _ _ 41 41 rfl 5 1 Try.underlying41 infoU8' _ _ _ _ rfl _ _ HM.out _ rfl l.length (bv l) ?hr1 ?hr2 (bv_one _) ?_; (case hr1 => exact HV.out.chg (Chg.new B1.out (fun _ => False)) (fun _ _ _ _ h => h)); (case hr2 => rw [bv_length, List.length_replicate]; omega); intro w2 hb2 hc2 hs2; have W2 := hid hb2; have C2 := hid hc2; have S2 := hid hs2; clear hb2 hc2 hs2; (clear c0 c1 c2 c3 f0 f1 f2 f3); have B2 := hid (B1.out.trans (C2.out.below (fun k hk => by rw [hk]; exact Nat.le_refl _) B1.out.size)); have BP2 := hid ((H.out.blk.chg (Chg.new B1.out (fun _ => False)) (fun h => h)).chg C2.out (fun e => Nat.ne_of_lt H.out.blk.lt e)); obtain ⟨c0, c1, c2, c3, f0, f1, f2, f3⟩ := pg_cells BP2.out H.out.was H.out.now)
    | (at_mapUpdate; refine wpList_mapUpdate_in _ rfl _ _ _ 80 rfl 3 41 mapKeyed Try.underlying80 pageElem b N _ rfl (MW.out w2 (B2.out)) (by unfold maxLen; omega) _ _ _ rfl rfl HKEY.out _ [] (pageElem_page _) ?_; intro w3 hown3 hturn3; have OW3 := hid hown3; have TU3 := hid hturn3; clear hown3 hturn3))
  go_end0
  have hblt : b < w.heap.size := by
    obtain ⟨es, cl, h1, _⟩ := hM
    exact (Array.getElem?_eq_some_iff.1 h1).1
  have C3 : Chg (fun k => k = b) w2 w3 := (Chg.grown TU3.out.grown).mono (fun k _ h => (Option.some.inj h).symm)
  have C03 : Chg (fun k => k = b) w w3 := (Chg.new B2.out (fun k => k = b)).trans C3 (fun _ _ h => h)
  have hpg : Blk w2 w.heap.size (bv (pad504 l)) 5 := by
    have h := W2.out
    have e : splice (bv (List.replicate 504 0)) 0 ((bv l).take (min l.length 504 * 1)) = bv (pad504 l) := by
      rw [show min l.length 504 * 1 = l.length by omega, List.take_of_length_le (by rw [bv_length]; omega), bv_splice]
      congr 1
      unfold splice pad504
      rw [List.take_zero, List.nil_append, Nat.zero_add, List.drop_replicate]
    rw [e] at h
    exact h
  refine ⟨rfl, C03, ⟨H.out.dsk.chg C03 (fun k hk e => hb (e ▸ hk)), BP2.out.chg C3 (fun e => hbp e.symm), H.out.was, H.out.now, H.out.out⟩, _, OW3.out, ?_⟩
  exact Chd.put (ok := ok) ((hC.chg (Chg.new B2.out (fun _ => False)) (fun _ _ h => h)).chg C3 (fun g hg => (hok g hg).1)) (hM.isMap) (fun g hg => .inl hg) (hpg.chg C3 (fun e => by have : w.heap.size = b := e; omega)) (by simp [pad504]; omega) (.inr (Nat.le_refl _))
end Go.Proofs.Ytiphekepglihlaa
