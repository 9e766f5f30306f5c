/- package pager: fresh. -/
import Derived.Test.YtiphekepglihlaaPagB
import Derived.Test.YtiphekepglihlaaPuts2
namespace Go.Proofs.Ytiphekepglihlaa
open Go.RowKit Go.Maps
set_option linter.unusedVariables false

/-- is a page there -/
def thereP (n : Nat) (now : HD) (at_ : Int) : Bool := bitOf now.used at_ && decide (at_ < (n : Int) - 401)
/-- the page that comes next, what it is an error, and the head behind it -/
def freshP (n : Nat) (s : DS) (now : HD) (ch : Int → Option (List UInt8)) : Int × Int × HD :=
  if 0 < now.free ∧ now.free < (n : Int) - 401 ∧ thereP n now now.free = false then (now.free, 0, { now with free := wrap64 (num ((pgRead s ch now.free.toNat).take 8) : Nat) })
  else if wrap64 (now.ever + 1) < 1 ∨ (n : Int) - 401 ≤ wrap64 (now.ever + 1) ∨ thereP n now (wrap64 (now.ever + 1)) = true then (0, 14, now)
  else (wrap64 (now.ever + 1), 0, { now with ever := wrap64 (now.ever + 1) })

theorem PgA.cells {w : World} {p d : Nat} {F : Nat → Prop} {n : Nat} {s : DS} {was now : HD} {op : Bool} {ch : Int → Option (List UInt8)} {N : Nat} (h : PgA w p d F n s was now op ch N) :
    w.cell? ⟨p, 757, none⟩ = some (.bool op) ∧ w.cell? ⟨p, 379, none⟩ = some (.int .i64 now.root) ∧ w.cell? ⟨p, 380, none⟩ = some (.int .i64 now.ever) ∧ w.cell? ⟨p, 381, none⟩ = some (.int .i64 now.free) ∧
    w.frozen? ⟨p, 379, none⟩ = false ∧ w.frozen? ⟨p, 380, none⟩ = false ∧ w.frozen? ⟨p, 381, none⟩ = false := by
  obtain ⟨fp, ok, b, D, h1, h2, h3, h4, h5, h6, h7⟩ := h
  obtain ⟨c0, c1, c2, c3, f0, f1, f2, f3⟩ := pg_cells h1.blk h1.was h1.now
  exact ⟨c1, h1.head.2 0 _ rfl, h1.head.2 1 _ rfl, h1.head.2 2 _ rfl, h1.blk.frozen 379, h1.blk.frozen 380, h1.blk.frozen 381⟩
theorem PgA.there {w : World} {p d : Nat} {F : Nat → Prop} {n : Nat} {s : DS} {was now : HD} {op : Bool} {ch : Int → Option (List UInt8)} {N : Nat} (h : PgA w p d F n s was now op ch N) (at_ : Int) :
    Calls Try.prog 52 #[.pointer (some ⟨p, 0, none⟩), .int .i64 at_] w fun e w' => e = .returned (.bool (thereP n now at_)) ∧ w' = w := by
  obtain ⟨fp, ok, b, D, h1, h2, h3, h4, h5, h6, h7⟩ := h
  exact there_any w p d fp n s was now op _ _ at_ h1
theorem PgA.pages {w : World} {p d : Nat} {F : Nat → Prop} {n : Nat} {s : DS} {was now : HD} {op : Bool} {ch : Int → Option (List UInt8)} {N : Nat} (h : PgA w p d F n s was now op ch N) :
    Calls Try.prog 58 #[.pointer (some ⟨p, 0, none⟩)] w fun e w' => e = .returned (.int .i64 ((n : Int) - 401)) ∧ w' = w := by
  obtain ⟨fp, ok, b, D, h1, h2, h3, h4, h5, h6, h7⟩ := h
  exact pages_any w p d fp n s was now op _ _ h1
theorem PgA.read {w : World} {p d : Nat} {F : Nat → Prop} {n : Nat} {s : DS} {was now : HD} {op : Bool} {ch : Int → Option (List UInt8)} {N : Nat} (h : PgA w p d F n s was now op ch N) (k : Nat) (hk : 401 + k < n) (hdead : s.dead = false) (hat : (Lit.int .i64 (k : Int)).wf = true) :
    Calls Try.prog 57 #[.pointer (some ⟨p, 0, none⟩), .int .i64 k] w fun e w' => ∃ q m c, e = .returned (.tuple #[.slice q m c, .int .i64 0]) ∧ Bs w' (.slice q m c) (pgRead s ch k) ∧ m = (pgRead s ch k).length ∧ Below w.heap.size w w' ∧ ∀ g, Value.ownBlock (.slice q m c) = some g → w.heap.size ≤ g := by
  obtain ⟨fp, ok, b, D, h1, h2, h3, h4, h5, h6, h7⟩ := h
  exact read_any w p d fp n s was now op b N D _ ok ch k h1 h2 h3 hk hdead hat
theorem PgA.setNow {w : World} {p d : Nat} {F : Nat → Prop} {n : Nat} {s : DS} {was now h' : HD} {op : Bool} {ch : Int → Option (List UInt8)} {N : Nat} (h : PgA w p d F n s was now op ch N) {j : Nat} {x : Value} (hj : j < 378) (hu : h'.used.length = 375) (he : (hdC now).set j x = hdC h') :
    PgA (w.setCell ⟨p, 379 + j, none⟩ x) p d F n s was h' op ch N := by
  obtain ⟨fp, ok, b, D, h1, h2, h3, h4, h5, h6, h7⟩ := h
  have hc : Chg (fun k => k = p) w (w.setCell ⟨p, 379 + j, none⟩ x) := Chg.setCell (fp := fun k => k = p) _ rfl _
  have h3' := h1.blk.set (379 + j) x
  rw [pgC_setAt h1.was h1.now hj he] at h3'
  refine ⟨fp, ok, b, D, ⟨h1.dsk.chg hc (fun k hk e => h1.out (e ▸ hk)), h3', h1.was, hu, h1.out⟩, ?_, h3.chg hc (fun g hg => (h6 g hg).2.1), h4, h5, fun g hg => ⟨(h6 g hg).1, (h6 g hg).2.1, (h6 g hg).2.2.1, Nat.lt_of_lt_of_le (h6 g hg).2.2.2 hc.size⟩, h7⟩
  obtain ⟨es, cl, h8, h9⟩ := h2
  exact ⟨es, cl, hc.heap h8 h5, h9⟩

theorem PgA.own {w : World} {p d : Nat} {F : Nat → Prop} {n : Nat} {s : DS} {was now : HD} {op : Bool} {ch : Int → Option (List UInt8)} {N : Nat} (h : PgA w p d F n s was now op ch N) : F p ∧ now.used.length = 375 ∧ was.used.length = 375 := by
  obtain ⟨fp, ok, b, D, h1, h2, h3, h4, h5, h6, h7⟩ := h
  exact ⟨(h7 p).2 (.inr (.inl rfl)), h1.now, h1.was⟩

set_option maxRecDepth 100000 in
set_option maxHeartbeats 4000000 in
theorem PgA.fresh {w : World} {p d : Nat} {F : Nat → Prop} {n : Nat} {s : DS} {was now : HD} {op : Bool} {ch : Int → Option (List UInt8)} {N : Nat} (h : PgA w p d F n s was now op ch N) (hn : 403 ≤ n) (hn3 : n ≤ 3000) (hdead : s.dead = false) (hl : ∀ k : Nat, 401 + k < n → (pgRead s ch k).length = 504) :
    Calls Try.prog 49 #[.pointer (some ⟨p, 0, none⟩)] w fun e w' => e = .returned (.tuple #[.int .i64 (freshP n s now ch).1, .int .i64 (freshP n s now ch).2.1]) ∧ Chg F w w' ∧ PgA w' p d F n s was (freshP n s now ch).2.2 op ch N := by
  obtain ⟨c1, c379, c380, c381, g379, g380, g381⟩ := h.cells
  have H := hid h
  have HT := hid (fun a => h.there a)
  have HPG := hid h.pages
  have HL := hid hl
  clear h hl
  by_cases a1 : 0 < now.free
  · by_cases a2 : now.free < (n : Int) - 401
    · cases a3 : thereP n now now.free
      · have hf : freshP n s now ch = (now.free, 0, { now with free := wrap64 (num ((pgRead s ch now.free.toNat).take 8) : Nat) }) := if_pos ⟨a1, a2, a3⟩
        rw [hf]
        have A3 := hid a3
        clear hf a3
        go_enter Try.func49, Try.ntmps49
        go_wp2_with fail
        refine HPG.out.mono ?_; rintro e1 wx ⟨rfl, hw⟩
        subst hw
        go_wp2_with fail
        refine (HT.out _).mono ?_; rintro e1 wx ⟨rfl, hw⟩
        subst hw
        rw [A3.out]
        go_wp2_with fail
        have hkk : now.free = ((now.free.toNat : Nat) : Int) := by omega
        have hkn : 401 + now.free.toNat < n := by omega
        have RD := hid (H.out.read now.free.toNat hkn hdead (wf_small (by omega) (by omega)))
        rw [← hkk] at RD
        clear hkk
        refine RD.out.mono ?_
        rintro e2 w2 ⟨q, m, cq, rfl, hbs, hm, hb2, _⟩
        have LR := hid (HL.out now.free.toNat hkn)
        have hm9 : Hid (m = 504) := hid (hm.trans LR.out)
        clear hm
        have BS2 := hid hbs
        have B2 := hid hb2
        have H2 := hid (H.out.chg (Chg.new hb2 (fun _ => False)) (fun _ _ h => h))
        have C381 := hid (H2.out.cells)
        clear hbs hb2 RD c1 c379 c380 c381 g379 g380 g381
        go_wp2_with fail
        refine (New_any _ _ w2 BS2.out (by rw [LR.out]; omega)).mono ?_
        rintro e3 w3 ⟨r, rfl, hb3, hr, ob, hob, hrd⟩
        have B3 := hid (B2.out.trans (hb3.mono B2.out.size))
        have H3 := hid (H2.out.chg (Chg.new hb3 (fun _ => False)) (fun _ _ h => h))
        have R3 := hid hrd
        clear hb3 hrd
        go_wp2_with fail
        refine (rInt_any r ob _ 0 w3 R3.out (by rw [LR.out]; omega) (by omega) (by omega)).mono ?_
        rintro e4 w4 ⟨rfl, hc4, _⟩
        rw [show tkGot (pgRead s ch now.free.toNat) 0 8 = (pgRead s ch now.free.toNat).take 8 by unfold tkGot; rw [if_neg (by simp), if_neg (by rw [LR.out]; omega)]]
        have hrF : ∀ k, F k → ¬ (fun k => k = r) k := fun k hk e => by have := H2.out.lt k hk; have e' : k = r := e; omega
        have H4 := hid (H3.out.chg hc4 hrF)
        have C4 := hid ((Chg.new B3.out F).trans (hc4.mono (fun k hk e => Or.inr e) : Chg (fun k => F k ∨ k = r) w3 w4) (fun k hk h => h.elim id (fun e => by have := B2.out.size; omega)))
        obtain ⟨c1, c379, c380, c381, g379, g380, g381⟩ := H4.out.cells
        clear hc4
        go_wp2_with fail
        go_ret2
        exact ⟨rfl, C4.out.trans (Chg.setCell (fp := F) _ H4.out.own.1 _) (fun _ _ h => h), H4.out.setNow (j := 2) (by omega) H4.out.own.2.1 rfl⟩
      · have hf0 := hid (show freshP n s now ch = if wrap64 (now.ever + 1) < 1 ∨ (n : Int) - 401 ≤ wrap64 (now.ever + 1) ∨ thereP n now (wrap64 (now.ever + 1)) = true then (0, 14, now) else (wrap64 (now.ever + 1), 0, { now with ever := wrap64 (now.ever + 1) }) from if_neg (fun h => by rw [a3] at h; exact absurd h.2.2 (by decide)))
        have A3 := hid a3
        clear a3
        by_cases b1 : wrap64 (now.ever + 1) < 1
        · rw [show freshP n s now ch = (0, 14, now) from hf0.out.trans (if_pos (.inl b1))]
          clear hf0
          go_enter Try.func49, Try.ntmps49
          go_wp2_with fail
          refine HPG.out.mono ?_; rintro e1 wx ⟨rfl, hw⟩
          subst hw
          go_wp2_with fail
          refine (HT.out _).mono ?_; rintro e1 wx ⟨rfl, hw⟩
          subst hw
          rw [A3.out]
          go_wp2_with fail
          go_ret2
          exact ⟨rfl, Chg.refl _ _, H.out⟩
        · by_cases b2 : (n : Int) - 401 ≤ wrap64 (now.ever + 1)
          · rw [show freshP n s now ch = (0, 14, now) from hf0.out.trans (if_pos (.inr (.inl b2)))]
            clear hf0
            go_enter Try.func49, Try.ntmps49
            go_wp2_with fail
            refine HPG.out.mono ?_; rintro e1 wx ⟨rfl, hw⟩
            subst hw
            go_wp2_with fail
            refine (HT.out _).mono ?_; rintro e1 wx ⟨rfl, hw⟩
            subst hw
            rw [A3.out]
            go_wp2_with fail
            refine HPG.out.mono ?_; rintro e1 wx ⟨rfl, hw⟩
            subst hw
            go_wp2_with fail
            go_ret2
            exact ⟨rfl, Chg.refl _ _, H.out⟩
          · cases b3 : thereP n now (wrap64 (now.ever + 1))
            · rw [show freshP n s now ch = (wrap64 (now.ever + 1), 0, { now with ever := wrap64 (now.ever + 1) }) from hf0.out.trans (if_neg (by rw [b3]; rintro (h | h | h) <;> first | exact b1 h | exact b2 h | cases h))]
              have B3 := hid b3
              clear hf0 b3
              go_enter Try.func49, Try.ntmps49
              go_wp2_with fail
              refine HPG.out.mono ?_; rintro e1 wx ⟨rfl, hw⟩
              subst hw
              go_wp2_with fail
              refine (HT.out _).mono ?_; rintro e1 wx ⟨rfl, hw⟩
              subst hw
              rw [A3.out]
              go_wp2_with fail
              refine HPG.out.mono ?_; rintro e1 wx ⟨rfl, hw⟩
              subst hw
              go_wp2_with fail
              refine (HT.out _).mono ?_; rintro e1 wx ⟨rfl, hw⟩
              subst hw
              rw [B3.out]
              go_wp2_with fail
              go_ret2
              exact ⟨rfl, Chg.setCell (fp := F) _ H.out.own.1 _, H.out.setNow (j := 1) (by omega) H.out.own.2.1 rfl⟩
            · rw [show freshP n s now ch = (0, 14, now) from hf0.out.trans (if_pos (.inr (.inr b3)))]
              have B3 := hid b3
              clear hf0 b3
              go_enter Try.func49, Try.ntmps49
              go_wp2_with fail
              refine HPG.out.mono ?_; rintro e1 wx ⟨rfl, hw⟩
              subst hw
              go_wp2_with fail
              refine (HT.out _).mono ?_; rintro e1 wx ⟨rfl, hw⟩
              subst hw
              rw [A3.out]
              go_wp2_with fail
              refine HPG.out.mono ?_; rintro e1 wx ⟨rfl, hw⟩
              subst hw
              go_wp2_with fail
              refine (HT.out _).mono ?_; rintro e1 wx ⟨rfl, hw⟩
              subst hw
              rw [B3.out]
              go_wp2_with fail
              go_ret2
              exact ⟨rfl, Chg.refl _ _, H.out⟩
    · have hf0 := hid (show freshP n s now ch = if wrap64 (now.ever + 1) < 1 ∨ (n : Int) - 401 ≤ wrap64 (now.ever + 1) ∨ thereP n now (wrap64 (now.ever + 1)) = true then (0, 14, now) else (wrap64 (now.ever + 1), 0, { now with ever := wrap64 (now.ever + 1) }) from if_neg (fun h => a2 h.2.1))
      by_cases b1 : wrap64 (now.ever + 1) < 1
      · rw [show freshP n s now ch = (0, 14, now) from hf0.out.trans (if_pos (.inl b1))]
        clear hf0
        go_enter Try.func49, Try.ntmps49
        go_wp2_with fail
        refine HPG.out.mono ?_; rintro e1 wx ⟨rfl, hw⟩
        subst hw
        go_wp2_with fail
        go_ret2
        exact ⟨rfl, Chg.refl _ _, H.out⟩
      · by_cases b2 : (n : Int) - 401 ≤ wrap64 (now.ever + 1)
        · rw [show freshP n s now ch = (0, 14, now) from hf0.out.trans (if_pos (.inr (.inl b2)))]
          clear hf0
          go_enter Try.func49, Try.ntmps49
          go_wp2_with fail
          refine HPG.out.mono ?_; rintro e1 wx ⟨rfl, hw⟩
          subst hw
          go_wp2_with fail
          refine HPG.out.mono ?_; rintro e1 wx ⟨rfl, hw⟩
          subst hw
          go_wp2_with fail
          go_ret2
          exact ⟨rfl, Chg.refl _ _, H.out⟩
        · cases b3 : thereP n now (wrap64 (now.ever + 1))
          · rw [show freshP n s now ch = (wrap64 (now.ever + 1), 0, { now with ever := wrap64 (now.ever + 1) }) from hf0.out.trans (if_neg (by rw [b3]; rintro (h | h | h) <;> first | exact b1 h | exact b2 h | cases h))]
            have B3 := hid b3
            clear hf0 b3
            go_enter Try.func49, Try.ntmps49
            go_wp2_with fail
            refine HPG.out.mono ?_; rintro e1 wx ⟨rfl, hw⟩
            subst hw
            go_wp2_with fail
            refine HPG.out.mono ?_; rintro e1 wx ⟨rfl, hw⟩
            subst hw
            go_wp2_with fail
            refine (HT.out _).mono ?_; rintro e1 wx ⟨rfl, hw⟩
            subst hw
            rw [B3.out]
            go_wp2_with fail
            go_ret2
            exact ⟨rfl, Chg.setCell (fp := F) _ H.out.own.1 _, H.out.setNow (j := 1) (by omega) H.out.own.2.1 rfl⟩
          · rw [show freshP n s now ch = (0, 14, now) from hf0.out.trans (if_pos (.inr (.inr b3)))]
            have B3 := hid b3
            clear hf0 b3
            go_enter Try.func49, Try.ntmps49
            go_wp2_with fail
            refine HPG.out.mono ?_; rintro e1 wx ⟨rfl, hw⟩
            subst hw
            go_wp2_with fail
            refine HPG.out.mono ?_; rintro e1 wx ⟨rfl, hw⟩
            subst hw
            go_wp2_with fail
            refine (HT.out _).mono ?_; rintro e1 wx ⟨rfl, hw⟩
            subst hw
            rw [B3.out]
            go_wp2_with fail
            go_ret2
            exact ⟨rfl, Chg.refl _ _, H.out⟩
  · have hf0 := hid (show freshP n s now ch = if wrap64 (now.ever + 1) < 1 ∨ (n : Int) - 401 ≤ wrap64 (now.ever + 1) ∨ thereP n now (wrap64 (now.ever + 1)) = true then (0, 14, now) else (wrap64 (now.ever + 1), 0, { now with ever := wrap64 (now.ever + 1) }) from if_neg (fun h => a1 h.1))
    by_cases b1 : wrap64 (now.ever + 1) < 1
    · rw [show freshP n s now ch = (0, 14, now) from hf0.out.trans (if_pos (.inl b1))]
      clear hf0
      go_enter Try.func49, Try.ntmps49
      go_wp2_with fail
      go_ret2
      exact ⟨rfl, Chg.refl _ _, H.out⟩
    · by_cases b2 : (n : Int) - 401 ≤ wrap64 (now.ever + 1)
      · rw [show freshP n s now ch = (0, 14, now) from hf0.out.trans (if_pos (.inr (.inl b2)))]
        clear hf0
        go_enter Try.func49, Try.ntmps49
        go_wp2_with fail
        refine HPG.out.mono ?_; rintro e1 wx ⟨rfl, hw⟩
        subst hw
        go_wp2_with fail
        go_ret2
        exact ⟨rfl, Chg.refl _ _, H.out⟩
      · cases b3 : thereP n now (wrap64 (now.ever + 1))
        · rw [show freshP n s now ch = (wrap64 (now.ever + 1), 0, { now with ever := wrap64 (now.ever + 1) }) from hf0.out.trans (if_neg (by rw [b3]; rintro (h | h | h) <;> first | exact b1 h | exact b2 h | cases h))]
          have B3 := hid b3
          clear hf0 b3
          go_enter Try.func49, Try.ntmps49
          go_wp2_with fail
          refine HPG.out.mono ?_; rintro e1 wx ⟨rfl, hw⟩
          subst hw
          go_wp2_with fail
          refine (HT.out _).mono ?_; rintro e1 wx ⟨rfl, hw⟩
          subst hw
          rw [B3.out]
          go_wp2_with fail
          go_ret2
          exact ⟨rfl, Chg.setCell (fp := F) _ H.out.own.1 _, H.out.setNow (j := 1) (by omega) H.out.own.2.1 rfl⟩
        · rw [show freshP n s now ch = (0, 14, now) from hf0.out.trans (if_pos (.inr (.inr b3)))]
          have B3 := hid b3
          clear hf0 b3
          go_enter Try.func49, Try.ntmps49
          go_wp2_with fail
          refine HPG.out.mono ?_; rintro e1 wx ⟨rfl, hw⟩
          subst hw
          go_wp2_with fail
          refine (HT.out _).mono ?_; rintro e1 wx ⟨rfl, hw⟩
          subst hw
          rw [B3.out]
          go_wp2_with fail
          go_ret2
          exact ⟨rfl, Chg.refl _ _, H.out⟩
end Go.Proofs.Ytiphekepglihlaa
