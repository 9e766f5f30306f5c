/- triadref2: done, Sync, Crash, Stop. -/
import Derived.Test.YtplahohlmiphoaaRef2c
namespace Go.Proofs.Ytplahohlmiphoaa
open Go.RowKit
set_option linter.unusedVariables false

theorem own_setc {w : World} {b t n g c : Nat} {xs : List Value} (h : w.ownsRow b t 1 (.slice (some ⟨g, 0, none⟩) n c) n xs) {k : Nat} (hk : k < n) (v : Value) :
    (w.setCell ⟨g, k, none⟩ v).ownsRow b t 1 (.slice (some ⟨g, 0, none⟩) n c) n (xs.set k v) := by
  refine ⟨by rw [List.length_set]; exact h.1, ?_⟩
  rcases h.2 with ⟨q, _⟩ | ⟨g', cap, cur, q1, q2, q3, q4, q5, q6, q7⟩
  · cases q
  · cases q1
    have hb : Blk w g cur.toList t := by rw [Blk, Array.toArray_toList]; exact q3
    have hs := hb.set k v
    refine .inr ⟨g, c, (cur.toList.set k v).toArray, rfl, q2, hs, q4, q5, by simp; omega, ?_⟩
    rw [← q7]
    simp [List.take_set]

def dDone (all : Bool) (keep : List Bool) (ps : List (Nat × List UInt8)) (F : List UInt8) : List UInt8 := if all then dAll ps F else dKept keep ps F
theorem dDone_end {all : Bool} {keep : List Bool} {ps : List (Nat × List UInt8)} {F : List UInt8} {i : Nat} (h : ps.length ≤ i) : dDone all (keep.drop i) (ps.drop i) F = F := by
  unfold dDone
  rw [List.drop_eq_nil_of_le h, dKept_nil2]
  split <;> rfl
theorem dDone_step {all : Bool} {keep : List Bool} {ps : List (Nat × List UInt8)} {F : List UInt8} {i : Nat} {p : Nat × List UInt8} (h : ps[i]? = some p) :
    dDone all (keep.drop i) (ps.drop i) F = dDone all (keep.drop (i + 1)) (ps.drop (i + 1)) (if all = true ∨ keep.getD i false = true then setRowAt F p.1 p.2 else F) := by
  unfold dDone
  obtain ⟨l2, e2⟩ := List.getElem?_eq_some_iff.1 h
  cases all with
  | true =>
    rw [if_pos rfl, if_pos rfl, if_pos (.inl rfl), List.drop_eq_getElem_cons l2, e2]
    rfl
  | false =>
    rw [if_neg (by simp), if_neg (by simp)]
    by_cases hk : i < keep.length
    · have hb : keep[i]? = some (keep.getD i false) := by rw [List.getD, List.getElem?_eq_getElem hk]; rfl
      rw [dKept_step hb h]
      simp
    · have hg : keep.getD i false = false := by rw [List.getD, List.getElem?_eq_none (by omega)]; rfl
      rw [if_neg (by rw [hg]; simp), List.drop_eq_nil_of_le (show keep.length ≤ i by omega), List.drop_eq_nil_of_le (show keep.length ≤ i + 1 by omega)]
      rfl

/-- where the loop of done is -/
def DoneAt (w : World) (r : Nat) (fp : Nat → Prop) (n : Nat) (s : DS) (sg sc : Nat) (lv kv : Value) (hs : List Nat) (all : Bool) (keep : List Bool) (i : Nat) (F : List UInt8) (gs : List Nat) (wr : World) : Prop :=
  i ≤ s.since.length ∧ F.length = n * 512 ∧ dDone all (keep.drop i) (s.since.drop i) F = dDone all keep s.since s.kept ∧ Chg (fun q => q = sg) w wr ∧ wr.heap.size = w.heap.size ∧
  Blk wr r [.slice (some ⟨sg, 0, none⟩) n sc, lv, .int .i64 s.stop, .bool s.dead, .int .i64 s.ops] 77 ∧
  wr.ownsRow 0 26 1 (.slice (some ⟨sg, 0, none⟩) n sc) n (gs.map rowV) ∧ gs.length = n ∧
  (∀ i g : Nat, gs[i]? = some g → Blk wr g (bv (row F i)) 5 ∧ fp g ∧ g ≠ r ∧ g ≠ sg ∧ lv.ownBlock ≠ some g)

theorem row_setAt {F R : List UInt8} {n k j : Nat} (hF : F.length = n * 512) (hk : k < n) (hr : R.length = 512) : row (setRowAt F k R) j = if k = j then R else row F j := row_set hF hk hr

theorem done_step {w wr : World} {r : Nat} {fp : Nat → Prop} {n : Nat} {s : DS} {sg sc : Nat} {lv kv : Value} {hs gs : List Nat} {all : Bool} {keep : List Bool} {i : Nat} {F : List UInt8} {p : Nat × List UInt8} {h : Nat}
    (hd : DoneAt w r fp n s sg sc lv kv hs all keep i F gs wr) (hp : s.since[i]? = some p) (hh : hs[i]? = some h) (ok : DOk n s) (hb : Blk w h (bv p.2) 5 ∧ fp h ∧ h ≠ r ∧ h ≠ sg ∧ lv.ownBlock ≠ some h) (hsr : sg ≠ r)
    (hyes : all = true ∨ keep.getD i false = true) :
    DoneAt w r fp n s sg sc lv kv hs all keep (i + 1) (setRowAt F p.1 p.2) (gs.set p.1 h) (wr.setCell ⟨sg, p.1, none⟩ (rowV h)) := by
  obtain ⟨i1, i2, i3, i4, i5, h1, h2, h3, h4⟩ := hd
  have hps := ok.since p (List.mem_of_getElem? hp)
  have l2 := (List.getElem?_eq_some_iff.1 hp).1
  have cs := Chg.setCell (fp := fun q => q = sg) wr (a := ⟨sg, p.1, none⟩) rfl (rowV h)
  have h5 := own_setc h2 hps.1 (rowV h)
  rw [← List.map_set] at h5
  have hle : (p.1 + 1) * 512 ≤ n * 512 := Nat.mul_le_mul_right _ hps.1
  refine ⟨l2, ?_, ?_, i4.trans cs (fun _ _ h => h), by simp [World.setCell]; exact i5, h1.chg cs (fun h => hsr h.symm), h5, by rw [List.length_set]; exact h3, fun j g hg => ?_⟩
  · unfold setRowAt; rw [splice_length _ _ _ (by rw [hps.2, i2]; omega)]; exact i2
  · rw [← i3, dDone_step hp, if_pos hyes]
  · rw [row_set i2 hps.1 hps.2]
    by_cases hj : p.1 = j
    · rw [if_pos hj]
      rw [← hj, List.getElem?_set_self (by rw [h3]; exact hps.1)] at hg
      obtain rfl : h = g := by simpa using hg
      exact ⟨(hb.1.chg i4 hb.2.2.2.1).chg cs hb.2.2.2.1, hb.2⟩
    · rw [if_neg hj]
      rw [List.getElem?_set_ne hj] at hg
      obtain ⟨q1, q2⟩ := h4 j g hg
      exact ⟨q1.chg cs q2.2.2.1, q2⟩

theorem done_skip {w wr : World} {r : Nat} {fp : Nat → Prop} {n : Nat} {s : DS} {sg sc : Nat} {lv kv : Value} {hs gs : List Nat} {all : Bool} {keep : List Bool} {i : Nat} {F : List UInt8} {p : Nat × List UInt8}
    (hd : DoneAt w r fp n s sg sc lv kv hs all keep i F gs wr) (hp : s.since[i]? = some p) (hno : ¬ (all = true ∨ keep.getD i false = true)) : DoneAt w r fp n s sg sc lv kv hs all keep (i + 1) F gs wr := by
  obtain ⟨i1, i2, i3, i4⟩ := hd
  exact ⟨(List.getElem?_eq_some_iff.1 hp).1, i2, by rw [← i3, dDone_step hp, if_neg hno], i4⟩

theorem DoneAt.drew {w wr : World} {r : Nat} {fp : Nat → Prop} {n : Nat} {s : DS} {sg sc : Nat} {lv kv : Value} {hs gs : List Nat} {all : Bool} {keep : List Bool} {i : Nat} {F : List UInt8}
    (h : DoneAt w r fp n s sg sc lv kv hs all keep i F gs wr) (k : Nat) : DoneAt w r fp n s sg sc lv kv hs all keep i F gs (wr.drewN k) := by
  obtain ⟨i1, i2, i3, i4, i5, h1, h2, h3, h4⟩ := h
  have c := Chg.drewN NoFp wr k
  exact ⟨i1, i2, i3, i4.trans (Chg.drewN _ _ _) (fun _ _ h => h), i5, h1.chg c (fun h => h), own_chg h2 c (fun _ _ h => h), h3, fun j g hg => ⟨(h4 j g hg).1.chg c (fun h => h), (h4 j g hg).2⟩⟩

def dDid (s : DS) (F : List UInt8) : DS := { s with now := F, kept := F, since := [] }

set_option maxRecDepth 100000 in
set_option maxHeartbeats 1600000 in
theorem xDone_any (w : World) (r : Nat) (fp : Nat → Prop) (n : Nat) (s : DS) (kv : Value) (keep : List Bool) (all : Bool) (h : XDk w r fp n s) (hk : Rd w 1 kv keep.length (keep.map Value.bool)) (hkn : 0 < keep.length → ∀ g, kv.ownBlock = some g → ¬ fp g) :
    Calls Try.prog 41 #[.pointer (some ⟨r, 0, none⟩), kv, .bool all] w fun e w' => e = .returned (.tuple #[]) ∧ XDk w' r fp n (dDid s (dDone all keep s.since s.kept)) ∧ Chg fp w w' ∧ w'.heap.size = w.heap.size := by
  obtain ⟨sv, lv, gs, hs, h1, h2, h3, h4, h5, h6, h7, h8, h9, h10, h11, h12, h13⟩ := h
  have hn := h12.n2
  have hn1 := h12.n1
  have hsl : (s.since.length : Int) ≤ 2000000 := by have := h12.many; have := h12.ops1; omega
  obtain ⟨p, sc, rfl, hp⟩ := own_slice h2
  obtain ⟨sg, rfl⟩ := hp (by omega)
  obtain ⟨lp, lc, rfl, hlp⟩ := own_slice h3
  obtain ⟨hsr, hsf, hsl2⟩ := h8 sg rfl
  have HL : Hid (∀ i, i < s.since.length → ∃ lg p h, lp = some ⟨lg, 0, none⟩ ∧ s.since[i]? = some p ∧ hs[i]? = some h ∧ lg < w.heap.size ∧ lg ≠ sg ∧ p.1 < n ∧ w.cell? ⟨lg, i * 2, none⟩ = some (.int .i64 (p.1 : Int)) ∧ w.cell? ⟨lg, i * 2 + 1, none⟩ = some (.slice (some ⟨h, 0, none⟩) 512 512) ∧
      (Blk w h (bv p.2) 5 ∧ fp h ∧ h ≠ r ∧ h ≠ sg ∧ (Value.slice lp s.since.length lc).ownBlock ≠ some h)) := hid (fun i hi => by
    obtain ⟨lg, rfl⟩ := hlp (by omega)
    obtain ⟨b, off, he, hc⟩ := Rd.addr (Rd.of_own h3) (by omega)
    cases he
    obtain ⟨p, hp⟩ : ∃ p, s.since[i]? = some p := ⟨_, List.getElem?_eq_getElem hi⟩
    obtain ⟨h, hh⟩ : ∃ h, hs[i]? = some h := ⟨_, List.getElem?_eq_getElem (by omega)⟩
    obtain ⟨q1, q2⟩ := chCells_at _ _ _ _ _ hp hh
    have e1 := hc _ _ q1
    have e2 := hc _ _ q2
    rw [Nat.zero_add] at e1 e2
    obtain ⟨r1, r2, r3, r4, r5⟩ := h7 i h p hh hp
    exact ⟨lg, p, h, rfl, hp, hh, h11 lg (h9 lg rfl).2, fun e => hsl2 (by rw [e]; rfl), (h12.since p (List.mem_of_getElem? hp)).1, e1, e2, r1, r2, r3, fun e => r4 (by rw [e]; rfl), r5⟩)
  have hk0 := hk
  obtain ⟨_, kp, kc, rfl, _⟩ := hk0
  have HK : Hid (∀ k, k < keep.length → ∃ ab ao, kp = some ⟨ab, ao, none⟩ ∧ w.cell? ⟨ab, ao + k, none⟩ = some (.bool (keep.getD k false)) ∧ ab < w.heap.size ∧ ab ≠ sg) := hid (fun k hk2 => by
    obtain ⟨ab, ao, rfl, hc⟩ := hk.addr (by omega)
    have q1 := hc k (.bool (keep.getD k false)) (by rw [List.getElem?_map, List.getD, List.getElem?_eq_getElem hk2]; rfl)
    exact ⟨ab, ao, rfl, q1, World.block_lt_of_cell? w ⟨ab, ao + k, none⟩ q1, fun e => hkn (by omega) ab rfl (by rw [e]; exact hsf)⟩)
  have D0 : Hid (DoneAt w r fp n s sg sc (.slice lp s.since.length lc) (.slice kp keep.length kc) hs all keep 0 s.kept gs w) := hid ⟨Nat.zero_le _, h12.kept, rfl, Chg.refl _ _, rfl, h1, h2, h4, fun i g hg => ⟨(h6 i g hg).1, (h6 i g hg).2.1, (h6 i g hg).2.2.1, fun e => (h6 i g hg).2.2.2.1 (by rw [e]; rfl), (h6 i g hg).2.2.2.2⟩⟩
  have OK := hid h12
  have G8 := hid (And.intro hsr (And.intro hsf (And.intro hsl2 (And.intro h10 h11))))
  clear h1 h2 h3 h4 h5 h6 h7 h8 h9 h10 h11 h12 h13 hp hlp hkn hk hsr hsf hsl2
  go_enter Try.func41, Try.ntmps41
  go_wp2_with fail
  go_loopw [6] (fun i wr => ∃ (j : Nat) (F : List UInt8) (gs : List Nat), i = .int .i64 j ∧ DoneAt w r fp n s sg sc (.slice lp s.since.length lc) (.slice kp keep.length kc) hs all keep j F gs wr) (fun i _ => s.since.length + 1 - (intOf i).toNat)
  case atStart => exact ⟨0, _, _, rfl, D0.out⟩
  case round =>
    obtain ⟨j, F, gs, rfl, hat⟩ := hrel
    have hj := hat.1
    obtain ⟨c0, c1, c2, c3, c4, f0, f1, f2, f3, f4⟩ := five_cells hat.2.2.2.2.2.1
    have HA := hid hat
    clear hat D0
    by_cases hlt : j < s.since.length
    · obtain ⟨lg, p, h, rfl, hp, hh, hlg, hlgs, hp1, q1, q2, hblk⟩ := HL.out j hlt
      have q1' : wr.cell? ⟨lg, j * 2, none⟩ = some (.int .i64 (p.1 : Int)) := (CellTo (off := j * 2) HA.out.2.2.2.1 hlgs hlg).trans q1
      have q2' : wr.cell? ⟨lg, j * 2 + 1, none⟩ = some (.slice (some ⟨h, 0, none⟩) 512 512) := (CellTo (off := j * 2 + 1) HA.out.2.2.2.1 hlgs hlg).trans q2
      have HP := hid (And.intro hp (And.intro hh hblk))
      clear q1 q2 hp hh hblk
      have hold : ∃ old, wr.cell? ⟨sg, p.1, none⟩ = some old := by
        have hg : ∃ g, gs[p.1]? = some g := ⟨_, List.getElem?_eq_getElem (by rw [HA.out.2.2.2.2.2.2.2.1]; exact hp1)⟩
        obtain ⟨g, hg⟩ := hg
        obtain ⟨b, off, he, hc⟩ := Rd.addr (Rd.of_own HA.out.2.2.2.2.2.2.1) (by omega)
        cases he
        have e := hc p.1 (rowV g) (by rw [List.getElem?_map, hg]; rfl)
        rw [Nat.zero_add] at e
        exact ⟨_, e⟩
      obtain ⟨old, hold⟩ := hold
      have hfz : wr.frozen? ⟨sg, p.1, none⟩ = false := by
        rcases HA.out.2.2.2.2.2.2.1.2 with ⟨e, _⟩ | ⟨g', cap', cur', e, _, e3, _⟩
        · cases e
        · cases e
          exact frozen_of_row _ _ _ _ _ e3
      cases all with
      | true =>
        go_wp2_with fail
        refine wp_region_still_tail 21 (by kernel_rfl) (by kernel_rfl) ?_
        simp only [List.take_succ_cons, List.take_zero, List.drop_succ_cons, List.drop_zero]
        repeat still_step
        refine wpStill_nil ?_
        refine wpList_step (fun K2 hK2 => ?_)
        go_simp
        refine hK2 _ _ ?_
        clear hK2 K2
        simp only [wpList]
        go_wp2_with fail
        go_roundw
        case rel => exact ⟨j + 1, _, _, by go_num, DoneAt.drew (done_step HA.out HP.out.1 HP.out.2.1 OK.out HP.out.2.2 G8.out.1 (.inl rfl)) 1⟩
        case measure => simp [intOf]; omega
      | false =>
        by_cases hjk : j < keep.length
        · obtain ⟨ab, ao, rfl, hkc0, hab, habs⟩ := HK.out j hjk
          have hkc : wr.cell? ⟨ab, ao + j, none⟩ = some (.bool (keep.getD j false)) := (CellTo (off := ao + j) HA.out.2.2.2.1 habs hab).trans hkc0
          clear hkc0
          cases hbit : keep.getD j false with
          | true =>
            rw [hbit] at hkc
            have HBIT := hid hbit
            clear hbit
            go_wp2_with fail
            refine wp_region_still_tail 21 (by kernel_rfl) (by kernel_rfl) ?_
            simp only [List.take_succ_cons, List.take_zero, List.drop_succ_cons, List.drop_zero]
            repeat still_step
            refine wpStill_nil ?_
            refine wpList_step (fun K2 hK2 => ?_)
            go_simp
            refine hK2 _ _ ?_
            clear hK2 K2
            simp only [wpList]
            go_wp2_with fail
            go_roundw
            case rel => exact ⟨j + 1, _, _, by go_num, DoneAt.drew (done_step HA.out HP.out.1 HP.out.2.1 OK.out HP.out.2.2 G8.out.1 (.inr HBIT.out)) 1⟩
            case measure => simp [intOf]; omega
          | false =>
            rw [hbit] at hkc
            have HBIT := hid hbit
            clear hbit
            go_wp2_with fail
            go_roundw
            case rel => exact ⟨j + 1, _, _, by go_num, done_skip HA.out HP.out.1 (by rw [HBIT.out]; simp)⟩
            case measure => simp [intOf]; omega
        · have hg : keep.getD j false = false := by rw [List.getD, List.getElem?_eq_none (by omega)]; rfl
          have HBIT := hid hg
          clear hg
          go_wp2_with fail
          go_roundw
          case rel => exact ⟨j + 1, _, _, by go_num, done_skip HA.out HP.out.1 (by rw [HBIT.out]; simp)⟩
          case measure => simp [intOf]; omega
    · have hlen : s.since.length ≤ j := by omega
      have hF : dDone all keep s.since s.kept = F := by rw [← HA.out.2.2.1]; exact dDone_end hlen
      have HFF := hid hF
      clear hF hlen
      go_wp2_with fail
      go_end0
      obtain ⟨i1, i2, i3, i4, i5, h1, h2, h3, h4⟩ := HA.out
      rw [HFF.out]
      have ok := OK.out
      have cs := Chg.setCell (fp := fun q => q = r) wr (a := ⟨r, 1, none⟩) rfl (.slice none 0 0)
      refine ⟨rfl, ⟨_, .slice none 0 0, gs, [], h1.set 1 _, own_chg h2 cs (fun g hg h => by cases hg; exact G8.out.1 h), World.ownsRow_nil _ _ _ _, h3, rfl, fun i g hg => ?_, (fun i g p hg => by simp at hg), fun g hg => ?_, (fun g hg => by cases hg), G8.out.2.2.2.1, fun k hk => ?_, ⟨ok.n1, ok.n2, i2, i2, (fun p hp => by cases hp), ?_, ok.stop0, ok.stop1, ok.ops1⟩, rfl⟩, ?_, ?_⟩
      · obtain ⟨q1, q2, q3, q4, q5⟩ := h4 i g hg
        exact ⟨q1.chg cs q3, q2, q3, fun h => by cases h; exact q4 rfl, fun h => by cases h⟩
      · cases hg
        exact ⟨G8.out.1, G8.out.2.1, fun h => by cases h⟩
      · have := G8.out.2.2.2.2 k hk
        simp [World.setCell]; omega
      · have := ok.many
        show (0 : Int) ≤ s.ops
        omega
      · exact (i4.mono (fun q hq h => by have h2 : q = sg := h; rw [h2]; exact G8.out.2.1)).trans cs (fun q hq h => by have h2 : q = r := h; rw [h2]; exact G8.out.2.2.2.1)
      · simp [World.setCell]; omega
end Go.Proofs.Ytplahohlmiphoaa
