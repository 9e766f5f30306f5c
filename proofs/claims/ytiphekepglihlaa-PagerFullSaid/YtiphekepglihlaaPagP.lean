/- package pager: New, Drop, Put, Get, SetRoot, Root, Abort on the whole. -/
import Derived.Test.YtiphekepglihlaaPagN
namespace Go.Proofs.Ytiphekepglihlaa
open Go.RowKit Go.Maps
set_option linter.unusedVariables false

/-- the changed pages, with one more -/
def chP (ch : Int → Option (List UInt8)) (at_ : Int) (l : List UInt8) : Int → Option (List UInt8) := fun q => if q = at_ then some (pad504 l) else ch q
def newP (n : Nat) (s : DS) (op : Bool) (now : HD) (ch : Int → Option (List UInt8)) : Int × Int × HD × (Int → Option (List UInt8)) :=
  if op = false then (0, 12, now, ch)
  else if (freshP n s now ch).2.1 = 0 then ((freshP n s now ch).1, 0, turnH (freshP n s now ch).2.2 (freshP n s now ch).1.toNat true, chP ch (freshP n s now ch).1 [])
  else (0, (freshP n s now ch).2.1, (freshP n s now ch).2.2, ch)
def dropP (n : Nat) (op : Bool) (now : HD) (ch : Int → Option (List UInt8)) (at_ : Int) : Int × HD × (Int → Option (List UInt8)) :=
  if op = false then (12, now, ch)
  else if thereP n now at_ = false then (1, now, ch)
  else (0, { turnH now at_.toNat false with free := at_ }, chP ch at_ (le8 now.free))
def putP (n : Nat) (op : Bool) (now : HD) (ch : Int → Option (List UInt8)) (at_ : Int) (l : List UInt8) : Int × (Int → Option (List UInt8)) :=
  if op = false then (12, ch)
  else if thereP n now at_ = false then (1, ch)
  else if 504 < l.length then (5, ch)
  else (0, chP ch at_ l)
theorem thereP_bd {n : Nat} {now : HD} {at_ : Int} (h : thereP n now at_ = true) : 0 < at_ ∧ at_ < 3000 ∧ at_ < (n : Int) - 401 := by
  unfold thereP bitOf at h
  simp only [Bool.and_eq_true, decide_eq_true_eq] at h
  omega
theorem freshP_bd {n : Nat} {s : DS} {now : HD} {ch : Int → Option (List UInt8)} (h : (freshP n s now ch).2.1 = 0) : 0 < (freshP n s now ch).1 ∧ (freshP n s now ch).1 < (n : Int) - 401 := by
  revert h
  unfold freshP
  split
  · intro _; simp only; omega
  · split
    · intro h; simp at h
    · intro _; simp only; omega

set_option maxRecDepth 100000 in
set_option maxHeartbeats 2000000 in
theorem PgA.new {w : World} {p d : Nat} {F : Nat → Prop} {n : Nat} {s : DS} {was now : HD} {op : Bool} {ch : Int → Option (List UInt8)} {N : Nat} (h : PgA w p d F n s was now op ch N) (hn : 403 ≤ n) (hn3 : n ≤ 3000) (hdead : s.dead = false) (hl : ∀ k : Nat, 401 + k < n → (pgRead s ch k).length = 504) (hN : N ≤ 1000000) :
    Calls Try.prog 20 #[.pointer (some ⟨p, 0, none⟩)] w fun e w' => e = .returned (.tuple #[.int .i64 (newP n s op now ch).1, .int .i64 (newP n s op now ch).2.1]) ∧ Chg F w w' ∧
      ∃ F' N', PgA w' p d F' n s was (newP n s op now ch).2.2.1 op (newP n s op now ch).2.2.2 N' ∧ N' ≤ N + 1 ∧ ∀ k, F' k → F k ∨ w.heap.size ≤ k := by
  obtain ⟨c1, c379, c380, c381, g379, g380, g381⟩ := h.cells
  have H := hid h
  have HF := hid (h.fresh hn hn3 hdead hl)
  clear h hl c379 c380 c381 g379 g380 g381
  cases op with
  | false =>
    rw [show newP n s false now ch = (0, 12, now, ch) from if_pos rfl]
    go_enter Try.func20, Try.ntmps20
    go_wp2_with fail
    go_ret2
    exact ⟨rfl, Chg.refl _ _, F, N, H.out, Nat.le_succ _, fun _ h => .inl h⟩
  | true =>
    have hdef : newP n s true now ch = if (freshP n s now ch).2.1 = 0 then ((freshP n s now ch).1, 0, turnH (freshP n s now ch).2.2 (freshP n s now ch).1.toNat true, chP ch (freshP n s now ch).1 []) else (0, (freshP n s now ch).2.1, (freshP n s now ch).2.2, ch) := if_neg (by simp)
    have hbd := @freshP_bd n s now ch
    rw [hdef]
    clear hdef
    generalize freshP n s now ch = fr at *
    obtain ⟨at_, er, now'⟩ := fr
    simp only at *
    by_cases he : er = 0
    · subst he
      obtain ⟨b1, b2⟩ := hbd rfl
      obtain ⟨k, rfl⟩ : ∃ k : Nat, at_ = (k : Int) := ⟨at_.toNat, by omega⟩
      rw [if_pos rfl, Int.toNat_natCast]
      clear hbd
      go_enter Try.func20, Try.ntmps20
      go_wp2_with fail
      refine HF.out.mono ?_
      rintro e1 w1 ⟨rfl, hc1, h1⟩
      have C1 := hid hc1
      have H1 := hid h1
      clear hc1 h1 c1
      go_wp2_with fail
      refine (H1.out.mark k true (by omega)).mono ?_
      rintro e2 w2 ⟨rfl, hc2, h2⟩
      have C2 := hid (C1.out.trans hc2 (fun _ _ h => h))
      have H2 := hid h2
      clear hc2 h2
      go_wp2_with fail
      refine (H2.out.write (k : Int) (.slice none 0 0) [] hN (Rd.nil _ _) (by simp) (wf_small (by omega) (by omega))).mono ?_
      rintro e3 w3 ⟨rfl, hc3, F', h3, hF'⟩
      have C3 := hid (C2.out.trans hc3 (fun _ _ h => h))
      have H3 := hid h3
      have S := hid hF'
      clear hc3 h3 hF'
      go_wp2_with fail
      go_ret2
      exact ⟨rfl, C3.out, F', N + 1, H3.out, Nat.le_refl _, fun q hq => (S.out q hq).imp id (fun h => Nat.le_trans C2.out.size h)⟩
    · rw [if_neg he]
      have HE := hid he
      have hen : (er == 0) = false := by simpa using he
      clear he hbd
      go_enter Try.func20, Try.ntmps20
      go_wp2_with fail
      refine HF.out.mono ?_
      rintro e1 w1 ⟨rfl, hc1, h1⟩
      have C1 := hid hc1
      have H1 := hid h1
      clear hc1 h1 c1
      have hen2 : (er != 0) = true := by simp [bne, hen]
      go_wp2_with fail
      go_ret2
      exact ⟨rfl, C1.out, F, N, H1.out, Nat.le_succ _, fun _ h => .inl h⟩

set_option maxRecDepth 100000 in
set_option maxHeartbeats 2000000 in
theorem PgA.drop {w : World} {p d : Nat} {F : Nat → Prop} {n : Nat} {s : DS} {was now : HD} {op : Bool} {ch : Int → Option (List UInt8)} {N : Nat} (h : PgA w p d F n s was now op ch N) (at_ : Int) (hN : N ≤ 1000000) :
    Calls Try.prog 21 #[.pointer (some ⟨p, 0, none⟩), .int .i64 at_] w fun e w' => e = .returned (.int .i64 (dropP n op now ch at_).1) ∧ Chg F w w' ∧
      ∃ F' N', PgA w' p d F' n s was (dropP n op now ch at_).2.1 op (dropP n op now ch at_).2.2 N' ∧ N' ≤ N + 1 ∧ ∀ k, F' k → F k ∨ w.heap.size ≤ k := by
  obtain ⟨c1, c379, c380, c381, g379, g380, g381⟩ := h.cells
  have H := hid h
  have HT := hid (h.there at_)
  clear h c379 c380 c381 g379 g380 g381
  cases op with
  | false =>
    rw [show dropP n false now ch at_ = (12, now, ch) from if_pos rfl]
    go_enter Try.func21, Try.ntmps21
    go_wp2_with fail
    go_ret
    exact ⟨rfl, Chg.refl _ _, F, N, H.out, Nat.le_succ _, fun _ h => .inl h⟩
  | true =>
    cases ht : thereP n now at_
    · rw [show dropP n true now ch at_ = (1, now, ch) from (if_neg (by simp)).trans (if_pos ht)]
      have T := hid ht
      clear ht
      go_enter Try.func21, Try.ntmps21
      go_wp2_with fail
      refine HT.out.mono ?_; rintro e1 wx ⟨rfl, hw⟩
      subst hw
      rw [T.out]
      go_wp2_with fail
      go_ret
      exact ⟨rfl, Chg.refl _ _, F, N, H.out, Nat.le_succ _, fun _ h => .inl h⟩
    · rw [show dropP n true now ch at_ = (0, { turnH now at_.toNat false with free := at_ }, chP ch at_ (le8 now.free)) from (if_neg (by simp)).trans (if_neg (by rw [ht]; simp))]
      obtain ⟨b1, b2, b3⟩ := thereP_bd ht
      obtain ⟨k, rfl⟩ : ∃ k : Nat, at_ = (k : Int) := ⟨at_.toNat, by omega⟩
      rw [Int.toNat_natCast]
      have T := hid ht
      clear ht
      go_enter Try.func21, Try.ntmps21
      go_wp2_with fail
      refine HT.out.mono ?_; rintro e1 wx ⟨rfl, hw⟩
      subst hw
      rw [T.out]
      go_wp2_with fail
      refine (H.out.mark k false (by omega)).mono ?_
      rintro e2 w2 ⟨rfl, hc2, h2⟩
      have C2 := hid hc2
      have H2 := hid h2
      obtain ⟨d1, d379, d380, d381, g379, g380, g381⟩ := h2.cells
      have e381 : w2.cell? ⟨p, 381, none⟩ = some (.int .i64 now.free) := d381
      clear hc2 h2 c1 d381 d379 d380
      go_wp2_with fail
      refine (cInt_any (.slice none 0 0) [] now.free w2 (Rd.nil _ _) (by simp)).mono ?_
      rintro e3 w3 ⟨p3, n3, c3, rfl, hn3, hb3, ho3⟩
      rw [List.nil_append] at ho3 hn3
      have hn3' : n3 = 8 := hn3
      subst hn3'
      have O3 := hid (Rd.of_own ho3)
      have H3 := hid (H2.out.chg (Chg.new hb3 (fun _ => False)) (fun _ _ h => h))
      have C3 := hid (C2.out.trans (Chg.new hb3 F) (fun _ _ h => h))
      clear hb3 ho3 hn3 e381 d1 g379 g380 g381
      go_wp2_with fail
      refine (H3.out.write (k : Int) (.slice p3 8 c3) (le8 now.free) hN O3.out (by rw [le8_length]; omega) (wf_small (by omega) (by omega))).mono ?_
      rintro e4 w4 ⟨rfl, hc4, F', h4, hF'⟩
      have C4 := hid (C3.out.trans hc4 (fun _ _ h => h))
      have H4 := hid h4
      have S := hid hF'
      obtain ⟨d1, d379, d380, d381, g379, g380, g381⟩ := h4.cells
      clear hc4 h4 hF' d379 d380
      go_wp2_with fail
      go_ret
      exact ⟨rfl, C4.out.trans (Chg.setCell (fp := F) _ H.out.own.1 _) (fun _ _ h => h), F', N + 1, H4.out.setNow (j := 2) (by omega) H4.out.own.2.1 rfl, Nat.le_refl _, fun q hq => (S.out q hq).imp id (fun h => Nat.le_trans C3.out.size h)⟩

set_option maxRecDepth 100000 in
set_option maxHeartbeats 2000000 in
theorem PgA.put {w : World} {p d : Nat} {F : Nat → Prop} {n : Nat} {s : DS} {was now : HD} {op : Bool} {ch : Int → Option (List UInt8)} {N : Nat} (h : PgA w p d F n s was now op ch N) (at_ : Int) (v : Value) (l : List UInt8) (hv : Bs w v l) (hl : l.length ≤ 1000000) (hN : N ≤ 1000000) :
    Calls Try.prog 22 #[.pointer (some ⟨p, 0, none⟩), .int .i64 at_, v] w fun e w' => e = .returned (.int .i64 (putP n op now ch at_ l).1) ∧ Chg F w w' ∧
      ∃ F' N', PgA w' p d F' n s was now op (putP n op now ch at_ l).2 N' ∧ N' ≤ N + 1 ∧ ∀ k, F' k → F k ∨ w.heap.size ≤ k := by
  obtain ⟨c1, c379, c380, c381, g379, g380, g381⟩ := h.cells
  have H := hid h
  have HT := hid (h.there at_)
  have HV := hid hv
  obtain ⟨_, pv, pc, rfl, _⟩ := hv
  clear h c379 c380 c381 g379 g380 g381
  cases op with
  | false =>
    rw [show putP n false now ch at_ l = (12, ch) from if_pos rfl]
    go_enter Try.func22, Try.ntmps22
    go_wp2_with fail
    go_ret
    exact ⟨rfl, Chg.refl _ _, F, N, H.out, Nat.le_succ _, fun _ h => .inl h⟩
  | true =>
    cases ht : thereP n now at_
    · rw [show putP n true now ch at_ l = (1, ch) from (if_neg (by simp)).trans (if_pos ht)]
      have T := hid ht
      clear ht
      go_enter Try.func22, Try.ntmps22
      go_wp2_with fail
      refine HT.out.mono ?_; rintro e1 wx ⟨rfl, hw⟩
      subst hw
      rw [T.out]
      go_wp2_with fail
      go_ret
      exact ⟨rfl, Chg.refl _ _, F, N, H.out, Nat.le_succ _, fun _ h => .inl h⟩
    · obtain ⟨b1, b2, b3⟩ := thereP_bd ht
      by_cases h5 : 504 < l.length
      · rw [show putP n true now ch at_ l = (5, ch) from (if_neg (by simp)).trans ((if_neg (by rw [ht]; simp)).trans (if_pos h5))]
        have T := hid ht
        clear ht
        go_enter Try.func22, Try.ntmps22
        go_wp2_with fail
        refine HT.out.mono ?_; rintro e1 wx ⟨rfl, hw⟩
        subst hw
        rw [T.out]
        go_wp2_with fail
        go_ret
        exact ⟨rfl, Chg.refl _ _, F, N, H.out, Nat.le_succ _, fun _ h => .inl h⟩
      · rw [show putP n true now ch at_ l = (0, chP ch at_ l) from (if_neg (by simp)).trans ((if_neg (by rw [ht]; simp)).trans (if_neg h5))]
        have T := hid ht
        clear ht
        go_enter Try.func22, Try.ntmps22
        go_wp2_with fail
        refine HT.out.mono ?_; rintro e1 wx ⟨rfl, hw⟩
        subst hw
        rw [T.out]
        go_wp2_with fail
        refine (H.out.write at_ _ l hN HV.out (by omega) (wf_small (by omega) (by omega))).mono ?_
        rintro e4 w4 ⟨rfl, hc4, F', h4, hF'⟩
        have C4 := hid hc4
        have H4 := hid h4
        have S := hid hF'
        clear hc4 h4 hF' c1
        go_wp2_with fail
        go_ret
        exact ⟨rfl, C4.out, F', N + 1, H4.out, Nat.le_refl _, S.out⟩

set_option maxRecDepth 100000 in
theorem PgA.get {w : World} {p d : Nat} {F : Nat → Prop} {n : Nat} {s : DS} {was now : HD} {op : Bool} {ch : Int → Option (List UInt8)} {N : Nat} (h : PgA w p d F n s was now op ch N) (hdead : s.dead = false) (at_ : Int) :
    Calls Try.prog 26 #[.pointer (some ⟨p, 0, none⟩), .int .i64 at_] w fun e w' => ∃ q m c, e = .returned (.tuple #[.slice q m c, .int .i64 (if thereP n now at_ then 0 else 1)]) ∧ m = (if thereP n now at_ then pgRead s ch at_.toNat else []).length ∧
      Bs w' (.slice q m c) (if thereP n now at_ then pgRead s ch at_.toNat else []) ∧ Below w.heap.size w w' ∧ ∀ g, Value.ownBlock (.slice q m c) = some g → w.heap.size ≤ g := by
  have H := hid h
  have HT := hid (h.there at_)
  clear h
  cases ht : thereP n now at_
  · have T := hid ht
    clear ht
    go_enter Try.func26, Try.ntmps26
    go_wp2_with fail
    refine HT.out.mono ?_; rintro e1 wx ⟨rfl, hw⟩
    subst hw
    rw [T.out]
    go_wp2_with fail
    go_ret2
    exact ⟨none, 0, 0, rfl, rfl, Rd.nil _ _, Below.refl _ _, fun g hg => by cases hg⟩
  · obtain ⟨b1, b2, b3⟩ := thereP_bd ht
    obtain ⟨k, rfl⟩ : ∃ k : Nat, at_ = (k : Int) := ⟨at_.toNat, by omega⟩
    have T := hid ht
    clear ht
    simp only [Int.toNat_natCast, if_true]
    have HR := hid (H.out.read k (by omega) hdead (wf_small (by omega) (by omega)))
    go_enter Try.func26, Try.ntmps26
    go_wp2_with fail
    refine HT.out.mono ?_; rintro e1 wx ⟨rfl, hw⟩
    subst hw
    rw [T.out]
    go_wp2_with fail
    refine HR.out.mono ?_
    rintro e2 w2 ⟨q, m, c, rfl, hbs, hm, hb, hgg⟩
    have GG := hid hgg
    have BS := hid hbs
    have HM := hid hm
    have BB := hid hb
    clear hbs hm hb hgg
    go_wp2_with fail
    go_ret2
    exact ⟨q, m, c, rfl, HM.out, BS.out, BB.out, GG.out⟩

theorem PgA.root {w : World} {p d : Nat} {F : Nat → Prop} {n : Nat} {s : DS} {was now : HD} {op : Bool} {ch : Int → Option (List UInt8)} {N : Nat} (h : PgA w p d F n s was now op ch N) :
    Calls Try.prog 37 #[.pointer (some ⟨p, 0, none⟩)] w fun e w' => e = .returned (.int .i64 now.root) ∧ w' = w := by
  obtain ⟨c1, c379, c380, c381, g379, g380, g381⟩ := h.cells
  clear h c380 c381 g380 g381
  go_enter Try.func37, Try.ntmps37
  go_wp2_with fail
  go_ret
  exact ⟨rfl, rfl⟩

theorem PgA.setRoot {w : World} {p d : Nat} {F : Nat → Prop} {n : Nat} {s : DS} {was now : HD} {op : Bool} {ch : Int → Option (List UInt8)} {N : Nat} (h : PgA w p d F n s was now op ch N) (at_ : Int) :
    Calls Try.prog 23 #[.pointer (some ⟨p, 0, none⟩), .int .i64 at_] w fun e w' => e = .returned (.int .i64 (if op = false then 12 else if at_ < 0 then 1 else 0)) ∧ Chg F w w' ∧
      PgA w' p d F n s was (if op = false then now else if at_ < 0 then now else { now with root := at_ }) op ch N := by
  have hF := h.own.1
  obtain ⟨fp, ok, b, D, h1, h2, h3, h4, h5, h6, h7⟩ := h
  refine (setRoot_any w p d fp n s was now op _ _ at_ h1).mono ?_
  rintro e w' ⟨rfl, hc, hb⟩
  refine ⟨rfl, hc.mono (fun q _ e => e ▸ hF), fp, ok, b, D, hb, ?_, h3.chg hc (fun g hg => (h6 g hg).2.1), h4, h5, fun g hg => ⟨(h6 g hg).1, (h6 g hg).2.1, (h6 g hg).2.2.1, Nat.lt_of_lt_of_le (h6 g hg).2.2.2 hc.size⟩, h7⟩
  obtain ⟨es, cl, h8, h9⟩ := h2
  exact ⟨es, cl, hc.heap h8 h5, h9⟩

set_option maxRecDepth 100000 in
theorem PgA.abort {w : World} {p d : Nat} {F : Nat → Prop} {n : Nat} {s : DS} {was now : HD} {op : Bool} {ch : Int → Option (List UInt8)} {N : Nat} (h : PgA w p d F n s was now op ch N) :
    Calls Try.prog 25 #[.pointer (some ⟨p, 0, none⟩)] w fun e w' => e = .returned (.tuple #[]) ∧ Chg F w w' ∧
      ∃ F', PgA w' p d F' n s was was false (fun _ => none) 0 ∧ ∀ k, F' k → F k ∨ w.heap.size ≤ k := by
  have hF := h.own.1
  obtain ⟨fp, ok, b, D, h1, h2, h3, h4, h5, h6, h7⟩ := h
  obtain ⟨c0, c1, c2, c3, f0, f1, f2, f3⟩ := pg_cells h1.blk h1.was h1.now
  have FA := hid (forget_any w p _ _ _ was now op h1.blk h1.was h1.now)
  have H1 := hid h1
  have HF := hid hF
  have H7 := hid h7
  unfold fgt at c3
  clear h1 h2 h3 h6 h7 c0 c1 c2 f0 f1 f2 f3 hF
  go_enter Try.func25, Try.ntmps25
  go_wp2_with fail
  refine FA.out.mono ?_
  rintro e1 w1 ⟨rfl, hc, hb, hm⟩
  have C := hid hc
  have B := hid hb
  have M := hid hm
  clear hc hb hm
  go_wp2_with fail
  go_end0
  have hp := H1.out.blk.lt
  have hs := C.out.size
  have hd := H1.out.dsk.lt
  refine ⟨rfl, C.out.mono (fun q _ e => e ▸ HF.out), fun k => fp k ∨ k = p ∨ k = w.heap.size ∨ False, ⟨fp, fun _ => False, w.heap.size, .map [], ⟨H1.out.dsk.chg C.out (fun k hk e => H1.out.out (e ▸ hk)), B.out, H1.out.was, H1.out.was, H1.out.out⟩, ⟨#[], 0, M.out, ⟨by simp, Go.MapKept.stamped_empty 0, by simp⟩, Nat.le_refl _, rfl⟩, Chd.nil _ _, fun h => Nat.lt_irrefl _ (hd _ h), by omega, fun g hg => hg.elim, fun k => Iff.rfl⟩, ?_⟩
  rintro k (hk | rfl | rfl | hk)
  · exact .inl ((H7.out k).2 (.inl hk))
  · exact .inl ((H7.out _).2 (.inr (.inl rfl)))
  · exact .inr (Nat.le_refl _)
  · exact hk.elim
end Go.Proofs.Ytiphekepglihlaa
